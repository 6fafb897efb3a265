/- Kernel.Lookup: the walk. -/
import Derived.Test.YtimkkhefemnkpaaF4
import Derived.Test.YtimkkhefemnkpaaN2
namespace Go.Vm
open Go Go.Proofs

/-- the entries of the first k tables -/
def pref (s : KS) (k : Nat) : List En := if k = 0 then [] else if k = 1 then s.T else s.T ++ s.U

theorem kv_snd {T : List En} {k : Pr} {v : En} (h : (k, v) ∈ tblKV T) : k = v.p ∧ v ∈ T := by
  obtain ⟨e, he, h2⟩ := List.mem_map.1 h
  simp only [Prod.mk.injEq] at h2
  obtain ⟨rfl, rfl⟩ := h2
  exact ⟨rfl, he⟩

theorem hs_no {dst : List Int} {h : List En} {e : En} (hc : cand dst e = false) : hstep dst h e = h := if_pos hc
theorem hs_app0 {dst : List Int} {h : List En} {e : En} (hc : cand dst e = true) (h0 : h.length = 0) : hstep dst h e = h ++ [e] := by
  have : h = [] := List.eq_nil_of_length_eq_zero h0
  subst this
  unfold hstep; rw [if_neg (by simp [hc])]; simp
theorem hs_new {dst : List Int} {h : List En} {e : En} (hc : cand dst e = true) (hp : 0 < h.length) (hl : (lat h 0).p.d.n < e.p.d.n) : hstep dst h e = [] ++ [e] := by
  have e1 : (if 0 < h.length ∧ (lat h 0).p.d.n < e.p.d.n then [] else h) = [] := if_pos ⟨hp, hl⟩
  unfold hstep; rw [if_neg (by simp [hc])]; simp only [e1]; simp
theorem hs_app {dst : List Int} {h : List En} {e : En} (hc : cand dst e = true) (hl : ¬ (lat h 0).p.d.n < e.p.d.n) (he : e.p.d.n = (lat h 0).p.d.n) : hstep dst h e = h ++ [e] := by
  have e1 : (if 0 < h.length ∧ (lat h 0).p.d.n < e.p.d.n then [] else h) = h := if_neg (fun x => hl x.2)
  unfold hstep; rw [if_neg (by simp [hc])]; simp only [e1]; rw [if_pos (.inr he)]
theorem hs_keep {dst : List Int} {h : List En} {e : En} (hc : cand dst e = true) (hp : 0 < h.length) (hl : ¬ (lat h 0).p.d.n < e.p.d.n) (he : ¬ e.p.d.n = (lat h 0).p.d.n) : hstep dst h e = h := by
  have e1 : (if 0 < h.length ∧ (lat h 0).p.d.n < e.p.d.n then [] else h) = h := if_neg (fun x => hl x.2)
  unfold hstep; rw [if_neg (by simp [hc])]; simp only [e1]; rw [if_neg (fun x => x.elim (fun x => by omega) he)]

theorem hstep_len {dst : List Int} {h : List En} {e : En} : (hstep dst h e).length ≤ h.length + 1 := by
  unfold hstep
  split
  · omega
  · simp only
    split <;> split <;> simp
theorem hereF_len (dst : List Int) (V : List En) : (hereF dst V).length ≤ V.length := by
  induction V using snoc_ind with
  | h0 => simp [hereF]
  | h1 V e ih => rw [hereF_snoc]; have := hstep_len (dst := dst) (h := hereF dst V) (e := e); simp only [List.length_append, List.length_singleton]; omega

theorem tblKV_snoc (W : List En) (e : En) : tblKV (W ++ [e]) = tblKV W ++ [(e.p, e)] := by simp [tblKV]
theorem tblKV_perm {W T : List En} (h : (tblKV W).Perm (tblKV T)) : W.Perm T := by
  have := h.map (·.2)
  simpa [tblKV, Function.comp_def] using this

structure KInv (s : KS) : Prop extends KOk' s where
  dj : ∀ x ∈ s.T, ∀ y ∈ s.U, x.p ≠ y.p
  lt : s.T.length ≤ 1000
  lu : s.U.length ≤ 1000

theorem TOk.apart {T : List En} (h : TOk T) {x y : En} (hx : x ∈ T) (hy : y ∈ T) (e : x.p = y.p) : x = y := by
  have h1 := alook_tbl h hx
  have h2 := alook_tbl h hy
  rw [e, h2] at h1
  simpa using h1.symm

theorem KInv.apart {s : KS} (h : KInv s) : Apart (s.T ++ s.U) := by
  refine ⟨fun e he => ?_, fun x hx y hy e => ?_⟩
  · rcases List.mem_append.1 he with he | he
    · exact h.t.ok e he
    · exact h.u.ok e he
  · rcases List.mem_append.1 hx with hx | hx <;> rcases List.mem_append.1 hy with hy | hy
    · exact h.t.apart hx hy e
    · exact absurd e (h.dj x hx y hy)
    · exact absurd e.symm (h.dj y hy x hx)
    · exact h.u.apart hx hy e

def klook (s : KS) (src dst : List Int) : En × Bool := if famA src = famA dst then klookL src dst (s.T ++ s.U) else (default, false)

def hmid (h : List En) (e : En) : List En := if 0 < h.length ∧ (lat h 0).p.d.n < e.p.d.n then [] else h
theorem hstep_cand {dst : List Int} {h : List En} {e : En} (hc : cand dst e = true) : hstep dst h e = if (hmid h e).length = 0 ∨ e.p.d.n = (lat (hmid h e) 0).p.d.n then hmid h e ++ [e] else hmid h e := by
  unfold hstep hmid; rw [if_neg (by simp [hc])]
theorem ksel_step {src : List Int} {h : List En} {j : Nat} (hj : j < h.length) : ksel src (h.take (j + 1)) = kstep src (ksel src (h.take j)) (lat h j) := by
  rw [take_succ_lat hj, ksel_snoc]

set_option maxHeartbeats 16000000 in
set_option maxRecDepth 100000 in
theorem kLookup_spec (kb b1 b2 : Nat) {s : KS} {src dst : List Int} (hs : KInv s) : Spec Try.prog 23 [.ptr 1060 kb 0, adV src, adV dst] [(1060, .box kb 93 (kV b1 b2 s.n)), (1051, tbl b1 s.T), (1052, tbl b2 s.U)] (fun r H' => r = .tup2 (enE (klook s src dst).1) (.bool (klook s src dst).2) ∧ H' = KO kb b1 b2 s) := by
  refine Spec.of_J Try.func23 rfl Try.ntmps23 Try.results23 rfl ?_
  intro A F hAF
  (repeat refine J.seq ?_)
  refine J.region ?_
  refine WL.yes (by rfl) (Ex.box (by rfl) (by rfl) (by rfl) ?_)
  intro b4
  refine WL.yes (by rfl) (Ex.box (by rfl) (by rfl) (by rfl) ?_)
  intro b5
  refine WL.yes (by rfl) (Ex.alloc (by rfl) ?_)
  intro b6
  refine WL.yes (by rfl) (Ex.q (q_assign (by rfl)) (by rfl) ?_)
  refine WL.nil ?_
  (repeat refine J.seq ?_)
  refine J.draw [4, 5] 9999 [(0, true), (1, true), (2, true), (3, true), (5, true), (4, false), (6, false), (7, true), (8, true)] (by kernel_rfl) rfl (by kernel_rfl) ?_
  intro F1 hF1
  refine WS.take rfl (by rfl) (by rfl) (q_move (by rfl)) ?_
  refine WS.take rfl (by rfl) (by rfl) (q_eqnil (by rfl) (by rfl) (by rfl)) ?_
  refine WS.take rfl (by rfl) (by rfl) (q_move (by rfl)) ?_
  refine WS.split 18 (by rfl) (fun g18 => ?_) (fun g18 => ?_)
  · skip
    cases g18
  · skip
    (first | have eg18 := of_decide_eq_true g18 | have eg18 := of_decide_eq_false g18 | have eg18 := ndec_t g18 | have eg18 := ndec_f g18 | skip)
    first | (refine WS.take rfl (by rfl) (by rfl) (q_load (by rfl) (by rfl) (by rfl)) ?_) | (refine WS.take rfl (by rfl) (by rfl) (q_load_rop (by rfl) (by rfl)) ?_) | (refine WS.take rfl (by rfl) (by rfl) (q_load_pel (by rfl) (by rfl) ?_ (by rfl)) ?_; (· (omega)))
    first | (refine WS.take rfl (by rfl) (by rfl) (q_load (by rfl) (by rfl) (by rfl)) ?_) | (refine WS.take rfl (by rfl) (by rfl) (q_load_rop (by rfl) (by rfl)) ?_) | (refine WS.take rfl (by rfl) (by rfl) (q_load_pel (by rfl) (by rfl) ?_ (by rfl)) ?_; (· (omega)))
    refine WS.ex rfl (by rfl) (Ex.callq (fam_spec _) (by rfl) (by rfl) rfl (fun _ h => h) ?_)
    refine WS.ex rfl (by rfl) (Ex.callq (fam_spec _) (by rfl) (by rfl) rfl (fun _ h => h) ?_)
    first | (refine WS.take rfl (by rfl) (by rfl) (q_int (by rfl) (by rfl) (by rfl)) ?_) | (refine WS.take rfl (by rfl) (by rfl) (q_neb (by rfl) (by rfl)) ?_) | (refine WS.take rfl (by rfl) (by rfl) (q_nep rfl rfl (by rfl) (by rfl) ?_) ?_; (· (rfl))) | (refine WS.take rfl (by rfl) (by rfl) (q_eqs (by rfl) (by rfl)) ?_)
    refine WS.take rfl (by rfl) (by rfl) (q_pick_f (by rfl) (by rfl)) ?_
    refine WS.nil ?_
    (repeat refine J.seq ?_)
    refine J.cond (by rfl) (fun c24 => ?_) (fun c24 => ?_)
    · skip
      (first | have e24 := of_decide_eq_true c24 | have e24 := of_decide_eq_false c24 | have e24 := ndec_t c24 | have e24 := ndec_f c24 | skip)
      have hne : ¬ famA src = famA dst := by simpa using c24
      have hk0 : klook s src dst = (default, false) := if_neg hne
      (repeat refine J.seq ?_)
      refine J.region ?_
      refine WL.yes (by rfl) (Ex.q (q_build (parts := []) (by rfl) (by rfl)) (by rfl) ?_)
      first | (refine WL.yes (by rfl) (Ex.store (by rfl) (by rfl) (by rfl) (by rfl) (by rfl) (by rfl) ?_)) | (refine WL.yes (by rfl) (Ex.store_pel (by rfl) (by rfl) (by rfl) (by rfl) (by rfl) ?_ (by rfl) ?_); (· (omega)))
      refine WL.yes (by rfl) (Ex.q (q_assign (by rfl)) (by rfl) ?_)
      refine WL.nil ?_
      (repeat refine J.seq ?_)
      refine J.ret ?_
      (repeat (with_reducible first | refine Kseq.ret ?_ | refine Kblock.ret ?_ | refine Kloop.ret ?_ | refine Kcut.ret ?_))
      first
        | (rw [hk0]; exact Kret.mk (KO kb b1 b2 s) (.cell inferInstance (by rfl) (by rfl) (by rfl) (.tmp (by rfl) .nil)) (by rfl) trivial (HLe.sub (.cons (s := 1060) rfl (CLe.refl _ _) rfl (.cons (s := 1051) rfl (CLe.refl _ _) rfl (.cons (s := 1052) rfl (CLe.refl _ _) rfl .nil)))) ⟨rfl, rfl⟩)
        | (rw [hk0, show h.take j = h from List.take_of_length_le (by omega), hh, show klookL src dst (s.T ++ s.U) = ksel src (hereF dst V) from (klook_perm hs.apart hV2).symm]; exact Kret.mk (KO kb b1 b2 s) (.cell inferInstance (by rfl) (by rfl) (by rfl) (.tmp (by rfl) .nil)) (by rfl) trivial (HLe.sub (.cons (s := 1060) rfl (CLe.refl _ _) rfl (.cons (s := 1051) rfl (CLe.refl _ _) rfl (.cons (s := 1052) rfl (CLe.refl _ _) rfl .nil)))) ⟨rfl, rfl⟩)
    · skip
      (first | have e24 := of_decide_eq_true c24 | have e24 := of_decide_eq_false c24 | have e24 := ndec_t c24 | have e24 := ndec_f c24 | skip)
      have hfe : famA src = famA dst := by simpa using c24
      have hk0 : klook s src dst = klookL src dst (s.T ++ s.U) := if_pos hfe
      (repeat refine J.seq ?_)
      refine J.skip ?_
      (repeat refine J.seq ?_)
      refine J.region ?_
      refine WL.yes (by rfl) (Ex.q (q_assign (by rfl)) (by rfl) ?_)
      refine WL.nil ?_
      (repeat refine J.seq ?_)
      refine J.draw [1060] 9999 [(0, true), (1, true), (2, true), (3, true), (4, true), (5, true), (6, true), (7, true), (10, true), (8, false), (9, true)] (by kernel_rfl) rfl (by kernel_rfl) ?_
      intro F2 hF2
      refine WS.take rfl (by rfl) (by rfl) (q_move (by rfl)) ?_
      refine WS.take rfl (by rfl) (by rfl) (q_nilCheck (by rfl) (by rfl)) ?_
      first | (refine WS.take rfl (by rfl) (by rfl) (q_fieldAddr (by rfl)) ?_) | (refine WS.take rfl (by rfl) (by rfl) (q_fieldAddr_rop (by rfl) (by rfl)) ?_) | (refine WS.take rfl (by rfl) (by rfl) (q_fieldAddr_pel (by rfl)) ?_)
      first | (refine WS.take rfl (by rfl) (by rfl) (q_load (by rfl) (by rfl) (by rfl)) ?_) | (refine WS.take rfl (by rfl) (by rfl) (q_load_rop (by rfl) (by rfl)) ?_) | (refine WS.take rfl (by rfl) (by rfl) (q_load_pel (by rfl) (by rfl) ?_ (by rfl)) ?_; (· (omega)))
      refine WS.take rfl (by rfl) (by rfl) (q_move (by rfl)) ?_
      refine WS.take rfl (by rfl) (by rfl) (q_nilCheck (by rfl) (by rfl)) ?_
      first | (refine WS.take rfl (by rfl) (by rfl) (q_fieldAddr (by rfl)) ?_) | (refine WS.take rfl (by rfl) (by rfl) (q_fieldAddr_rop (by rfl) (by rfl)) ?_) | (refine WS.take rfl (by rfl) (by rfl) (q_fieldAddr_pel (by rfl)) ?_)
      first | (refine WS.take rfl (by rfl) (by rfl) (q_load (by rfl) (by rfl) (by rfl)) ?_) | (refine WS.take rfl (by rfl) (by rfl) (q_load_rop (by rfl) (by rfl)) ?_) | (refine WS.take rfl (by rfl) (by rfl) (q_load_pel (by rfl) (by rfl) ?_ (by rfl)) ?_; (· (omega)))
      refine WS.take rfl (by rfl) (by rfl) (q_move (by rfl)) ?_
      refine WS.ex rfl (by rfl) (Ex.buildSlice (parts := [(0, .tmp 29), (1, .tmp 33)]) (us := [_, _]) (by rfl) (by rfl) rfl (by rfl) (by rfl) ?_)
      intro b34
      first | (refine WS.take rfl (by rfl) (by rfl) (q_len_slice (by rfl) (by rfl)) ?_) | (refine WS.take rfl (by rfl) (by rfl) (q_len_string (by rfl)) ?_)
      refine WS.nil ?_
      (repeat refine J.seq ?_)
      refine J.block ?_
      (repeat refine J.seq ?_)
      refine J.loopP (fun x : Nat × List En × List En × Option Nat × Nat => x.1 ≤ 2 ∧ x.2.1.Perm (pref s x.1) ∧ x.2.2.1 = hereF dst x.2.1) (fun x => [(8, .sl 8 x.2.2.2.1 51 0 x.2.2.2.2 x.2.2.1.length), (36, iV x.1)]) (fun x => [(1051, tbl b1 s.T), (1052, tbl b2 s.U), (8, lvec x.2.2.2.1 37 51 x.2.2.2.2 enE x.2.2.1)]) (fun x => 2 - x.1) (0, [], [], none, 0) [(4, _), (5, _), (6, _), (7, _), (34, _), (35, _)] [(4, _), (5, _), (6, _), (34, _), (1060, _)] ⟨same rfl, same rfl, same rfl, same rfl, same rfl, same rfl, trivial⟩ ⟨⟨_, rfl, rfl, fun _ => trivial⟩, same rfl, trivial⟩ (.cons (s := 1051) rfl (CLe.refl _ _) rfl (.cons (s := 1052) rfl (CLe.refl _ _) rfl (.non (.cons (s := 4) rfl (CLe.refl _ _) rfl (.cons (s := 5) rfl (CLe.refl _ _) rfl (.cons (s := 6) rfl (CLe.refl _ _) rfl (.cons (s := 34) rfl (CLe.refl _ _) rfl (.cons (s := 1060) rfl (CLe.refl _ _) rfl .nil)))))))) ?_ ?_
      · (exact ⟨Nat.zero_le _, List.Perm.refl _, rfl⟩)
      rintro ⟨k, V, h, a8, cap8⟩ hx
      (try dsimp only at hx)
      (try dsimp only)
      obtain ⟨hk, hV, hh⟩ := hx
      rcases (show k = 0 ∨ k = 1 ∨ k = 2 by omega) with rfl | rfl | rfl
      · skip
        have hVl : V.length ≤ 1000 := by have := hV.length_eq; simp [pref] at this; simp [this]
        (repeat refine J.seq ?_)
        refine J.region ?_
        refine WL.yes (by rfl) (Ex.q (q_int (by rfl) (by rfl) (by rfl)) (by rfl) ?_)
        refine WL.nil ?_
        (repeat refine J.seq ?_)
        refine J.cond (by rfl) (fun c37 => ?_) (fun c37 => ?_)
        · skip
          (first | have e37 := of_decide_eq_true c37 | have e37 := of_decide_eq_false c37 | have e37 := ndec_t c37 | have e37 := ndec_f c37 | skip)
          (repeat refine J.seq ?_)
          refine J.skip ?_
          (repeat refine J.seq ?_)
          refine J.block ?_
          (repeat refine J.seq ?_)
          refine J.region ?_
          first | (refine WL.yes (by rfl) (Ex.q (q_indexAddr_ros (by rfl) (by rfl) (by intro _; rfl) ?_ ?_) (by rfl) ?_); (· (omega)); (· (omega))) | (refine WL.yes (by rfl) (Ex.q (q_indexAddr_sl (by rfl) (by rfl) ?_ ?_) (by rfl) ?_); (· (omega)); (· (omega))) | (refine WL.yes (by rfl) (Ex.q (q_indexAddr_arr (by rfl) (by rfl) ?_ ?_) (by rfl) ?_); (· (omega)); (· (omega)))
          first | (refine WL.yes (by rfl) (Ex.h (h_load (by rfl) (by rfl) (by rfl)) (by rfl) ?_)) | (refine WL.yes (by rfl) (Ex.q (q_load (by rfl) (by rfl) (by rfl)) (by rfl) ?_)) | (refine WL.yes (by rfl) (Ex.q (q_load_rop (by rfl) (by rfl)) (by rfl) ?_)) | (refine WL.yes (by rfl) (Ex.h (h_load_pel (by rfl) (by rfl) ?_ (by rfl)) (by rfl) ?_); (· (omega))) | (refine WL.yes (by rfl) (Ex.q (q_load_pel (by rfl) (by rfl) ?_ (by rfl)) (by rfl) ?_); (· (omega)))
          refine WL.yes (by rfl) (Ex.q (q_assign (by rfl)) (by rfl) ?_)
          refine WL.nil ?_
          (repeat refine J.seq ?_)
          refine J.region ?_
          refine WL.yes (by rfl) (Ex.q (q_move (by rfl)) (by rfl) ?_)
          refine WL.yes (by rfl) (Ex.range (e := prE) (f := enE) (L := tblKV s.T) (by rfl) (by rfl) (by rfl) ?_)
          intro it41
          refine WL.nil ?_
          (repeat refine J.seq ?_)
          refine J.block ?_
          (repeat refine J.seq ?_)
          refine J.loopP (fun x : List (Pr × En) × List En × List En × Option Nat × Nat => (tblKV x.2.1 ++ x.1).Perm (tblKV s.T) ∧ x.2.1.length ≤ 1000 ∧ x.2.2.1 = hereF dst (V ++ x.2.1)) (fun x => [(8, .sl 8 x.2.2.2.1 51 0 x.2.2.2.2 x.2.2.1.length)]) (fun x => [(1051, mitc b1 it41 prE enE (tblKV s.T) x.1 none), (8, lvec x.2.2.2.1 37 51 x.2.2.2.2 enE x.2.2.1)]) (fun x => x.1.length) (tblKV s.T, [], h, a8, cap8) [(4, _), (5, _), (6, _), (7, _), (34, _), (35, _), (36, _), (41, _)] [(4, _), (5, _), (6, _), (34, _), (1052, _), (1060, _)] ⟨same rfl, same rfl, same rfl, same rfl, same rfl, same rfl, same rfl, same rfl, trivial⟩ ⟨same rfl, trivial⟩ (.cons (s := 1051) rfl (CLe.refl _ _) rfl (.cons (s := 8) rfl (CLe.refl _ _) rfl (.cons (s := 4) rfl (CLe.refl _ _) rfl (.cons (s := 5) rfl (CLe.refl _ _) rfl (.cons (s := 6) rfl (CLe.refl _ _) rfl (.cons (s := 34) rfl (CLe.refl _ _) rfl (.cons (s := 1052) rfl (CLe.refl _ _) rfl (.cons (s := 1060) rfl (CLe.refl _ _) rfl .nil)))))))) ?_ ?_
          · (exact ⟨List.Perm.refl _, Nat.zero_le _, by rw [List.append_nil]; exact hh⟩)
          rintro ⟨Lr, W, h, a9, cap9⟩ hx
          (try dsimp only at hx)
          (try dsimp only)
          obtain ⟨hperm0, hW, hh2⟩ := hx
          have hhl : h.length ≤ 3000 := by have := hereF_len dst (V ++ W); rw [← hh2] at this; simp only [List.length_append] at this; have := hVl; omega
          (repeat refine J.seq ?_)
          refine J.region ?_
          refine WL.yes (by rfl) (Ex.next (e := prE) (f := enE) (L := tblKV s.T) (Lr := Lr) (cur := none) (by rfl) (by rfl) (by rfl) (fun hnil => ?_) (fun nk nv Lr2 hperm => ?_))
          · skip
            subst hnil
            have hWp : W.Perm s.T := tblKV_perm (by simpa using hperm0)
            have hn0 : (V ++ W).Perm (pref s 1) := by have : V = [] := hV.eq_nil; subst this; exact hWp
            refine WL.yes (by rfl) (Ex.q (q_extract_raw (by rfl) (by rfl)) (by rfl) ?_)
            refine WL.nil ?_
            (repeat refine J.seq ?_)
            refine J.condF (by rfl) ?_
            (repeat refine J.seq ?_)
            refine J.exit ?_
            (repeat refine J.seq ?_)
            refine J.region ?_
            refine WL.yes (by rfl) (Ex.q (q_int (by rfl) (by rfl) (by rfl)) (by rfl) ?_)
            refine WL.yes (by rfl) (Ex.q (q_move (by rfl)) (by rfl) ?_)
            refine WL.nil ?_
            first | ((have hpf := hn0); refine Kloop.nextP (1, V ++ W, h, a9, cap9) ?_ ?_ ⟨(by first | exact same rfl | exact ⟨_, rfl, rfl, fun _ => trivial⟩), (by first | exact same rfl | exact same (by rw [← w64_nat (k := k) (by omega)]; rfl)), trivial⟩ ⟨same rfl, same rfl, same rfl, same rfl, same rfl, same rfl, trivial⟩ (.cons (s := 1051) rfl (by first | exact CLe.refl _ _ | exact CLe.mit) rfl (.cons (s := 1052) rfl (by first | exact CLe.refl _ _ | exact CLe.mit) rfl (.cons (s := 8) rfl (CLe.refl _ _) rfl (.cons (s := 4) rfl (CLe.refl _ _) rfl (.cons (s := 5) rfl (CLe.refl _ _) rfl (.cons (s := 6) rfl (CLe.refl _ _) rfl (.cons (s := 34) rfl (CLe.refl _ _) rfl (.cons (s := 1060) rfl (CLe.refl _ _) rfl .nil)))))))); (· (exact ⟨by (try dsimp only); omega, hn0, hh2⟩)); (· ((try dsimp only) <;> omega))) | ((have hpf := hn1); refine Kloop.nextP (2, V ++ W, h, a9, cap9) ?_ ?_ ⟨(by first | exact same rfl | exact ⟨_, rfl, rfl, fun _ => trivial⟩), (by first | exact same rfl | exact same (by rw [← w64_nat (k := k) (by omega)]; rfl)), trivial⟩ ⟨same rfl, same rfl, same rfl, same rfl, same rfl, same rfl, trivial⟩ (.cons (s := 1051) rfl (by first | exact CLe.refl _ _ | exact CLe.mit) rfl (.cons (s := 1052) rfl (by first | exact CLe.refl _ _ | exact CLe.mit) rfl (.cons (s := 8) rfl (CLe.refl _ _) rfl (.cons (s := 4) rfl (CLe.refl _ _) rfl (.cons (s := 5) rfl (CLe.refl _ _) rfl (.cons (s := 6) rfl (CLe.refl _ _) rfl (.cons (s := 34) rfl (CLe.refl _ _) rfl (.cons (s := 1060) rfl (CLe.refl _ _) rfl .nil)))))))); (· (exact ⟨by (try dsimp only); omega, hn1, hh2⟩)); (· ((try dsimp only) <;> omega)))
          · skip
            have hin : (nk, nv) ∈ tblKV s.T := hperm0.mem_iff.1 (List.mem_append_right _ (hperm.mem_iff.2 (by simp)))
            obtain ⟨rfl, hnv⟩ := kv_snd hin
            have hp2 : (tblKV (W ++ [nv]) ++ Lr2).Perm (tblKV s.T) := by
              rw [tblKV_snoc, List.append_assoc]
              exact (List.Perm.append_left _ hperm.symm).trans hperm0
            have hl2 : (W ++ [nv]).length ≤ 1000 := by
              have h1 := hp2.length_eq
              have h2 : (tblKV s.T).length ≤ 1000 := by simp only [List.length_map]; first | exact hs.lt | exact hs.lu
              simp only [List.length_append, List.length_map, List.length_singleton] at h1 h2 ⊢
              omega
            have hmu : Lr2.length < Lr.length := by have := hperm.length_eq; simp only [List.length_cons] at this; omega
            have ev : hereF dst (V ++ (W ++ [nv])) = hstep dst (hereF dst (V ++ W)) nv := by rw [← List.append_assoc, hereF_snoc]
            refine WL.yes (by rfl) (Ex.q (q_extract3 (by rfl) (by rfl)) (by rfl) ?_)
            refine WL.nil ?_
            (repeat refine J.seq ?_)
            refine J.condT (by rfl) ?_
            (repeat refine J.seq ?_)
            refine J.skip ?_
            (repeat refine J.seq ?_)
            refine J.block ?_
            (repeat refine J.seq ?_)
            refine J.region ?_
            refine WL.yes (by rfl) (Ex.h (h_entry (e := prE) (f := enE) (k := nv.p) (v := nv) (by rfl) (by rfl)) (by rfl) ?_)
            first | (refine WL.yes (by rfl) (Ex.q (q_extract2 (by rfl) (by rfl)) (by rfl) ?_)) | (refine WL.yes (by rfl) (Ex.q (q_extract3 (by rfl) (by rfl)) (by rfl) ?_))
            refine WL.yes (by rfl) (Ex.alloc (by rfl) ?_)
            intro b12
            first | (refine WL.yes (by rfl) (Ex.store (by rfl) (by rfl) (by rfl) (by rfl) (by rfl) (by rfl) ?_)) | (refine WL.yes (by rfl) (Ex.store_pel (by rfl) (by rfl) (by rfl) (by rfl) (by rfl) ?_ (by rfl) ?_); (· (omega)))
            refine WL.nil ?_
            (repeat refine J.seq ?_)
            refine J.region ?_
            first | (refine WL.yes (by rfl) (Ex.q (q_fieldAddr (by rfl)) (by rfl) ?_)) | (refine WL.yes (by rfl) (Ex.q (q_fieldAddr_rop (by rfl) (by rfl)) (by rfl) ?_)) | (refine WL.yes (by rfl) (Ex.q (q_fieldAddr_pel (by rfl)) (by rfl) ?_))
            first | (refine WL.yes (by rfl) (Ex.q (q_fieldAddr (by rfl)) (by rfl) ?_)) | (refine WL.yes (by rfl) (Ex.q (q_fieldAddr_rop (by rfl) (by rfl)) (by rfl) ?_)) | (refine WL.yes (by rfl) (Ex.q (q_fieldAddr_pel (by rfl)) (by rfl) ?_))
            first | (refine WL.yes (by rfl) (Ex.h (h_load (by rfl) (by rfl) (by rfl)) (by rfl) ?_)) | (refine WL.yes (by rfl) (Ex.q (q_load (by rfl) (by rfl) (by rfl)) (by rfl) ?_)) | (refine WL.yes (by rfl) (Ex.q (q_load_rop (by rfl) (by rfl)) (by rfl) ?_)) | (refine WL.yes (by rfl) (Ex.h (h_load_pel (by rfl) (by rfl) ?_ (by rfl)) (by rfl) ?_); (· (omega))) | (refine WL.yes (by rfl) (Ex.q (q_load_pel (by rfl) (by rfl) ?_ (by rfl)) (by rfl) ?_); (· (omega)))
            refine WL.yes (by rfl) (Ex.alloc (by rfl) ?_)
            intro b13
            first | (refine WL.yes (by rfl) (Ex.store (by rfl) (by rfl) (by rfl) (by rfl) (by rfl) (by rfl) ?_)) | (refine WL.yes (by rfl) (Ex.store_pel (by rfl) (by rfl) (by rfl) (by rfl) (by rfl) ?_ (by rfl) ?_); (· (omega)))
            refine WL.nil ?_
            (repeat refine J.seq ?_)
            refine J.draw [5, 13] 9999 [(0, true), (2, true), (1, false), (3, false), (4, true), (5, true), (6, true), (7, true), (8, false), (9, true), (10, true)] (by kernel_rfl) rfl (by kernel_rfl) ?_
            intro F3 hF3
            first | (refine WS.take rfl (by rfl) (by rfl) (q_load (by rfl) (by rfl) (by rfl)) ?_) | (refine WS.take rfl (by rfl) (by rfl) (q_load_rop (by rfl) (by rfl)) ?_) | (refine WS.take rfl (by rfl) (by rfl) (q_load_pel (by rfl) (by rfl) ?_ (by rfl)) ?_; (· (omega)))
            first | (refine WS.take rfl (by rfl) (by rfl) (q_load (by rfl) (by rfl) (by rfl)) ?_) | (refine WS.take rfl (by rfl) (by rfl) (q_load_rop (by rfl) (by rfl)) ?_) | (refine WS.take rfl (by rfl) (by rfl) (q_load_pel (by rfl) (by rfl) ?_ (by rfl)) ?_; (· (omega)))
            refine WS.ex rfl (by rfl) (Ex.callq (famP_spec _ _) (by rfl) (by rfl) rfl (fun _ h => h) ?_)
            refine WS.ex rfl (by rfl) (Ex.callq (fam_spec _) (by rfl) (by rfl) rfl (fun _ h => h) ?_)
            first | (refine WS.take rfl (by rfl) (by rfl) (q_int (by rfl) (by rfl) (by rfl)) ?_) | (refine WS.take rfl (by rfl) (by rfl) (q_neb (by rfl) (by rfl)) ?_) | (refine WS.take rfl (by rfl) (by rfl) (q_nep rfl rfl (by rfl) (by rfl) ?_) ?_; (· (rfl))) | (refine WS.take rfl (by rfl) (by rfl) (q_eqs (by rfl) (by rfl)) ?_)
            refine WS.take rfl (by rfl) (by rfl) (q_move (by rfl)) ?_
            refine WS.split 54 (by rfl) (fun g54 => ?_) (fun g54 => ?_)
            · skip
              (first | have eg54 := of_decide_eq_true g54 | have eg54 := of_decide_eq_false g54 | have eg54 := ndec_t g54 | have eg54 := ndec_f g54 | skip)
              have hf : decide (famP nv.p.d.a nv.p.d.n = famA dst) = false := by simpa using g54
              have hcand : cand dst nv = false := by unfold cand; rw [hf]; rfl
              refine WS.takeNo rfl (by rfl) (by rfl) ?_
              refine WS.takeNo rfl (by rfl) (by rfl) ?_
              refine WS.takeNo rfl (by rfl) (by rfl) ?_
              refine WS.takeNo rfl (by rfl) (by rfl) ?_
              refine WS.take rfl (by rfl) (by rfl) (q_pick_t (by rfl) (by rfl)) ?_
              refine WS.nil ?_
              (repeat refine J.seq ?_)
              refine J.condT (by rfl) ?_
              (repeat refine J.seq ?_)
              refine J.exit ?_
              first | (refine Kloop.nextP ((Lr2, W ++ [nv], h, a9, cap9)) ?_ ?_ ⟨(by first | exact same rfl | exact ⟨_, rfl, rfl, fun _ => trivial⟩), trivial⟩ ⟨same rfl, same rfl, same rfl, same rfl, same rfl, same rfl, same rfl, same rfl, trivial⟩ (.cons (s := 1051) rfl CLe.mitcur rfl (.cons (s := 8) rfl (CLe.refl _ _) rfl (.cons (s := 4) rfl (CLe.refl _ _) rfl (.cons (s := 5) rfl (CLe.refl _ _) rfl (.cons (s := 6) rfl (CLe.refl _ _) rfl (.cons (s := 34) rfl (CLe.refl _ _) rfl (.cons (s := 1052) rfl (CLe.refl _ _) rfl (.cons (s := 1060) rfl (CLe.refl _ _) rfl .nil)))))))); (· (exact ⟨hp2, hl2, by rw [ev, ← hh2]; exact (hs_no hcand).symm⟩)); (· (exact hmu))) | ((have hif := hstep_cand (h := h) hcand; rw [← hm, if_pos (by first | exact .inl h0 | exact .inr heq)] at hif); refine Kloop.nextP ((Lr2, W ++ [nv], h1 ++ [nv], a91, cap91)) ?_ ?_ ⟨⟨_, rfl, by cases a91 <;> rfl, fun _ => trivial⟩, trivial⟩ ⟨same rfl, same rfl, same rfl, same rfl, same rfl, same rfl, same rfl, same rfl, trivial⟩ (.cons (s := 1051) rfl CLe.mitcur rfl (.cons (s := 91) rfl (CLe.refl _ _) rfl (.cons (s := 4) rfl (CLe.refl _ _) rfl (.cons (s := 5) rfl (CLe.refl _ _) rfl (.cons (s := 6) rfl (CLe.refl _ _) rfl (.cons (s := 34) rfl (CLe.refl _ _) rfl (.cons (s := 1052) rfl (CLe.refl _ _) rfl (.cons (s := 1060) rfl (CLe.refl _ _) rfl .nil)))))))); (· (exact ⟨hp2, hl2, by rw [ev, ← hh2, hif]⟩)); (· (exact hmu))) | ((have hif := hstep_cand (h := h) hcand; rw [← hm, if_neg (by rintro (x | x); (· exact h0 x); (· exact heq x))] at hif); refine Kloop.nextP ((Lr2, W ++ [nv], h1, _, cap10)) ?_ ?_ ⟨(by first | exact same rfl | exact ⟨_, rfl, rfl, fun _ => trivial⟩), trivial⟩ ⟨same rfl, same rfl, same rfl, same rfl, same rfl, same rfl, same rfl, same rfl, trivial⟩ (.cons (s := 1051) rfl CLe.mitcur rfl (.cons (s := 8) rfl (CLe.refl _ _) rfl (.cons (s := 4) rfl (CLe.refl _ _) rfl (.cons (s := 5) rfl (CLe.refl _ _) rfl (.cons (s := 6) rfl (CLe.refl _ _) rfl (.cons (s := 34) rfl (CLe.refl _ _) rfl (.cons (s := 1052) rfl (CLe.refl _ _) rfl (.cons (s := 1060) rfl (CLe.refl _ _) rfl .nil)))))))); (· (exact ⟨hp2, hl2, by rw [ev, ← hh2, hif]⟩)); (· (exact hmu)))
            · skip
              (first | have eg54 := of_decide_eq_true g54 | have eg54 := of_decide_eq_false g54 | have eg54 := ndec_t g54 | have eg54 := ndec_f g54 | skip)
              have hf : decide (famP nv.p.d.a nv.p.d.n = famA dst) = true := by simpa using g54
              first | (refine WS.take rfl (by rfl) (by rfl) (q_load (by rfl) (by rfl) (by rfl)) ?_) | (refine WS.take rfl (by rfl) (by rfl) (q_load_rop (by rfl) (by rfl)) ?_) | (refine WS.take rfl (by rfl) (by rfl) (q_load_pel (by rfl) (by rfl) ?_ (by rfl)) ?_; (· (omega)))
              first | (refine WS.take rfl (by rfl) (by rfl) (q_load (by rfl) (by rfl) (by rfl)) ?_) | (refine WS.take rfl (by rfl) (by rfl) (q_load_rop (by rfl) (by rfl)) ?_) | (refine WS.take rfl (by rfl) (by rfl) (q_load_pel (by rfl) (by rfl) ?_ (by rfl)) ?_; (· (omega)))
              refine WS.ex rfl (by rfl) (Ex.callq (contains_spec _ _ _) (by rfl) (by rfl) rfl (fun _ h => h) ?_)
              refine WS.take rfl (by rfl) (by rfl) (q_not (by rfl)) ?_
              refine WS.take rfl (by rfl) (by rfl) (q_pick_f (by rfl) (by rfl)) ?_
              refine WS.nil ?_
              (repeat refine J.seq ?_)
              refine J.cond (by rfl) (fun c59 => ?_) (fun c59 => ?_)
              · skip
                (first | have e59 := of_decide_eq_true c59 | have e59 := of_decide_eq_false c59 | have e59 := ndec_t c59 | have e59 := ndec_f c59 | skip)
                (have hcand : cand dst nv = false := by unfold cand; rw [hf]; simpa using c59)
                (repeat refine J.seq ?_)
                refine J.exit ?_
                first | (refine Kloop.nextP ((Lr2, W ++ [nv], h, a9, cap9)) ?_ ?_ ⟨(by first | exact same rfl | exact ⟨_, rfl, rfl, fun _ => trivial⟩), trivial⟩ ⟨same rfl, same rfl, same rfl, same rfl, same rfl, same rfl, same rfl, same rfl, trivial⟩ (.cons (s := 1051) rfl CLe.mitcur rfl (.cons (s := 8) rfl (CLe.refl _ _) rfl (.cons (s := 4) rfl (CLe.refl _ _) rfl (.cons (s := 5) rfl (CLe.refl _ _) rfl (.cons (s := 6) rfl (CLe.refl _ _) rfl (.cons (s := 34) rfl (CLe.refl _ _) rfl (.cons (s := 1052) rfl (CLe.refl _ _) rfl (.cons (s := 1060) rfl (CLe.refl _ _) rfl .nil)))))))); (· (exact ⟨hp2, hl2, by rw [ev, ← hh2]; exact (hs_no hcand).symm⟩)); (· (exact hmu))) | ((have hif := hstep_cand (h := h) hcand; rw [← hm, if_pos (by first | exact .inl h0 | exact .inr heq)] at hif); refine Kloop.nextP ((Lr2, W ++ [nv], h1 ++ [nv], a91, cap91)) ?_ ?_ ⟨⟨_, rfl, by cases a91 <;> rfl, fun _ => trivial⟩, trivial⟩ ⟨same rfl, same rfl, same rfl, same rfl, same rfl, same rfl, same rfl, same rfl, trivial⟩ (.cons (s := 1051) rfl CLe.mitcur rfl (.cons (s := 91) rfl (CLe.refl _ _) rfl (.cons (s := 4) rfl (CLe.refl _ _) rfl (.cons (s := 5) rfl (CLe.refl _ _) rfl (.cons (s := 6) rfl (CLe.refl _ _) rfl (.cons (s := 34) rfl (CLe.refl _ _) rfl (.cons (s := 1052) rfl (CLe.refl _ _) rfl (.cons (s := 1060) rfl (CLe.refl _ _) rfl .nil)))))))); (· (exact ⟨hp2, hl2, by rw [ev, ← hh2, hif]⟩)); (· (exact hmu))) | ((have hif := hstep_cand (h := h) hcand; rw [← hm, if_neg (by rintro (x | x); (· exact h0 x); (· exact heq x))] at hif); refine Kloop.nextP ((Lr2, W ++ [nv], h1, _, cap10)) ?_ ?_ ⟨(by first | exact same rfl | exact ⟨_, rfl, rfl, fun _ => trivial⟩), trivial⟩ ⟨same rfl, same rfl, same rfl, same rfl, same rfl, same rfl, same rfl, same rfl, trivial⟩ (.cons (s := 1051) rfl CLe.mitcur rfl (.cons (s := 8) rfl (CLe.refl _ _) rfl (.cons (s := 4) rfl (CLe.refl _ _) rfl (.cons (s := 5) rfl (CLe.refl _ _) rfl (.cons (s := 6) rfl (CLe.refl _ _) rfl (.cons (s := 34) rfl (CLe.refl _ _) rfl (.cons (s := 1052) rfl (CLe.refl _ _) rfl (.cons (s := 1060) rfl (CLe.refl _ _) rfl .nil)))))))); (· (exact ⟨hp2, hl2, by rw [ev, ← hh2, hif]⟩)); (· (exact hmu)))
              · skip
                (first | have e59 := of_decide_eq_true c59 | have e59 := of_decide_eq_false c59 | have e59 := ndec_t c59 | have e59 := ndec_f c59 | skip)
                have hcand : cand dst nv = true := by unfold cand; rw [hf]; simpa using c59
                (repeat refine J.seq ?_)
                refine J.skip ?_
                (repeat refine J.seq ?_)
                refine J.draw [8, 12, 13] 9999 [(0, true), (1, true), (2, true), (3, true), (4, true), (5, true), (6, true), (7, true), (8, true), (9, true), (10, true), (11, true), (12, true), (13, true)] (by kernel_rfl) rfl (by kernel_rfl) ?_
                intro F4 hF4
                refine WS.take rfl (by rfl) (by rfl) (q_move (by rfl)) ?_
                first | (refine WS.take rfl (by rfl) (by rfl) (q_len_slice (by rfl) (by rfl)) ?_) | (refine WS.take rfl (by rfl) (by rfl) (q_len_string (by rfl)) ?_)
                refine WS.take rfl (by rfl) (by rfl) (q_int (by rfl) (by rfl) (by rfl)) ?_
                refine WS.take rfl (by rfl) (by rfl) (q_move (by rfl)) ?_
                refine WS.split 63 (by rfl) (fun g63 => ?_) (fun g63 => ?_)
                · skip
                  (first | have eg63 := of_decide_eq_true g63 | have eg63 := of_decide_eq_false g63 | have eg63 := ndec_t g63 | have eg63 := ndec_f g63 | skip)
                  first | (refine WS.take rfl (by rfl) (by rfl) (q_fieldAddr (by rfl)) ?_) | (refine WS.take rfl (by rfl) (by rfl) (q_fieldAddr_rop (by rfl) (by rfl)) ?_) | (refine WS.take rfl (by rfl) (by rfl) (q_fieldAddr_pel (by rfl)) ?_)
                  first | (refine WS.take rfl (by rfl) (by rfl) (q_load (by rfl) (by rfl) (by rfl)) ?_) | (refine WS.take rfl (by rfl) (by rfl) (q_load_rop (by rfl) (by rfl)) ?_) | (refine WS.take rfl (by rfl) (by rfl) (q_load_pel (by rfl) (by rfl) ?_ (by rfl)) ?_; (· (omega)))
                  refine WS.take rfl (by rfl) (by rfl) (q_move (by rfl)) ?_
                  refine WS.vecsome (t := 8) rfl (by omega) ?_
                  intro b8 hb8
                  subst hb8
                  first | (refine WS.take rfl (by rfl) (by rfl) (q_indexAddr_ros (by rfl) (by rfl) (by intro _; rfl) ?_ ?_) ?_; (· (omega)); (· (omega))) | (refine WS.take rfl (by rfl) (by rfl) (q_indexAddr_sl (by rfl) (by rfl) ?_ ?_) ?_; (· (omega)); (· (omega))) | (refine WS.take rfl (by rfl) (by rfl) (q_indexAddr_arr (by rfl) (by rfl) ?_ ?_) ?_; (· (omega)); (· (omega)))
                  first | (refine WS.take rfl (by rfl) (by rfl) (q_fieldAddr (by rfl)) ?_) | (refine WS.take rfl (by rfl) (by rfl) (q_fieldAddr_rop (by rfl) (by rfl)) ?_) | (refine WS.take rfl (by rfl) (by rfl) (q_fieldAddr_pel (by rfl)) ?_)
                  first | (refine WS.take rfl (by rfl) (by rfl) (q_fieldAddr (by rfl)) ?_) | (refine WS.take rfl (by rfl) (by rfl) (q_fieldAddr_rop (by rfl) (by rfl)) ?_) | (refine WS.take rfl (by rfl) (by rfl) (q_fieldAddr_pel (by rfl)) ?_)
                  first | (refine WS.take rfl (by rfl) (by rfl) (q_fieldAddr (by rfl)) ?_) | (refine WS.take rfl (by rfl) (by rfl) (q_fieldAddr_rop (by rfl) (by rfl)) ?_) | (refine WS.take rfl (by rfl) (by rfl) (q_fieldAddr_pel (by rfl)) ?_)
                  first | (refine WS.take rfl (by rfl) (by rfl) (q_load (by rfl) (by rfl) (by rfl)) ?_) | (refine WS.take rfl (by rfl) (by rfl) (q_load_rop (by rfl) (by rfl)) ?_) | (refine WS.take rfl (by rfl) (by rfl) (q_load_pel (by rfl) (by rfl) ?_ (by rfl)) ?_; (· (omega)))
                  refine WS.take rfl (by rfl) (by rfl) (q_int (by rfl) (by rfl) (by rfl)) ?_
                  refine WS.take rfl (by rfl) (by rfl) (q_pick_t (by rfl) (by rfl)) ?_
                  refine WS.nil ?_
                  (repeat refine J.seq ?_)
                  refine J.cutP (fun x : List En × Option Nat × Nat => x.1 = hmid h nv) (fun x => [(8, .sl 8 x.2.1 51 0 x.2.2 x.1.length)]) (fun x => [(8, lvec x.2.1 37 51 x.2.2 enE x.1)]) [(4, _), (5, _), (6, _), (7, _), (12, _), (13, _), (34, _), (35, _), (36, _), (41, _)] [(4, _), (5, _), (6, _), (12, _), (13, _), (34, _), (1051, _), (1052, _), (1060, _)] ⟨same rfl, same rfl, same rfl, same rfl, same rfl, same rfl, same rfl, same rfl, same rfl, same rfl, trivial⟩ (.cons (s := 4) rfl (CLe.refl _ _) rfl (.cons (s := 5) rfl (CLe.refl _ _) rfl (.cons (s := 6) rfl (CLe.refl _ _) rfl (.cons (s := 12) rfl (CLe.refl _ _) rfl (.cons (s := 13) rfl (CLe.refl _ _) rfl (.cons (s := 34) rfl (CLe.refl _ _) rfl (.cons (s := 1051) rfl (CLe.refl _ _) rfl (.cons (s := 1052) rfl (CLe.refl _ _) rfl (.cons (s := 1060) rfl (CLe.refl _ _) rfl .nil))))))))) ?_ ?_
                  · skip
                    (repeat refine J.seq ?_)
                    refine J.cond (by rfl) (fun c73 => ?_) (fun c73 => ?_)
                    · skip
                      (first | have e73 := of_decide_eq_true c73 | have e73 := of_decide_eq_false c73 | have e73 := ndec_t c73 | have e73 := ndec_f c73 | skip)
                      (repeat refine J.seq ?_)
                      refine J.region ?_
                      refine WL.yes (by rfl) (Ex.q (q_assign (by rfl)) (by rfl) ?_)
                      refine WL.nil ?_
                      first | (refine Kcut.mkP ((h, _, cap9)) ?_ ⟨(by first | exact same rfl | exact ⟨_, rfl, rfl, fun _ => trivial⟩), trivial⟩ ⟨same rfl, same rfl, same rfl, same rfl, same rfl, same rfl, same rfl, same rfl, same rfl, same rfl, trivial⟩ (.cons (s := 8) rfl (CLe.refl _ _) rfl (.cons (s := 4) rfl (CLe.refl _ _) rfl (.cons (s := 5) rfl (CLe.refl _ _) rfl (.cons (s := 6) rfl (CLe.refl _ _) rfl (.cons (s := 12) rfl (CLe.refl _ _) rfl (.cons (s := 13) rfl (CLe.refl _ _) rfl (.cons (s := 34) rfl (CLe.refl _ _) rfl (.cons (s := 1051) rfl (CLe.refl _ _) rfl (.cons (s := 1052) rfl (CLe.refl _ _) rfl (.cons (s := 1060) rfl (CLe.refl _ _) rfl .nil)))))))))); (· (unfold hmid; rw [if_neg (fun x => by first | exact e73 x.2 | omega)]))) | (refine Kcut.mkP (([], none, 0)) ?_ ⟨⟨_, rfl, rfl, fun _ => trivial⟩, trivial⟩ ⟨same rfl, same rfl, same rfl, same rfl, same rfl, same rfl, same rfl, same rfl, same rfl, same rfl, trivial⟩ (.non (.cons (s := 4) rfl (CLe.refl _ _) rfl (.cons (s := 5) rfl (CLe.refl _ _) rfl (.cons (s := 6) rfl (CLe.refl _ _) rfl (.cons (s := 12) rfl (CLe.refl _ _) rfl (.cons (s := 13) rfl (CLe.refl _ _) rfl (.cons (s := 34) rfl (CLe.refl _ _) rfl (.cons (s := 1051) rfl (CLe.refl _ _) rfl (.cons (s := 1052) rfl (CLe.refl _ _) rfl (.cons (s := 1060) rfl (CLe.refl _ _) rfl .nil)))))))))); (· (unfold hmid; rw [if_pos ⟨by omega, e73⟩])))
                    · skip
                      (first | have e73 := of_decide_eq_true c73 | have e73 := of_decide_eq_false c73 | have e73 := ndec_t c73 | have e73 := ndec_f c73 | skip)
                      (repeat refine J.seq ?_)
                      refine J.skip ?_
                      first | (refine Kcut.mkP ((h, _, cap9)) ?_ ⟨(by first | exact same rfl | exact ⟨_, rfl, rfl, fun _ => trivial⟩), trivial⟩ ⟨same rfl, same rfl, same rfl, same rfl, same rfl, same rfl, same rfl, same rfl, same rfl, same rfl, trivial⟩ (.cons (s := 8) rfl (CLe.refl _ _) rfl (.cons (s := 4) rfl (CLe.refl _ _) rfl (.cons (s := 5) rfl (CLe.refl _ _) rfl (.cons (s := 6) rfl (CLe.refl _ _) rfl (.cons (s := 12) rfl (CLe.refl _ _) rfl (.cons (s := 13) rfl (CLe.refl _ _) rfl (.cons (s := 34) rfl (CLe.refl _ _) rfl (.cons (s := 1051) rfl (CLe.refl _ _) rfl (.cons (s := 1052) rfl (CLe.refl _ _) rfl (.cons (s := 1060) rfl (CLe.refl _ _) rfl .nil)))))))))); (· (unfold hmid; rw [if_neg (fun x => by first | exact e73 x.2 | omega)]))) | (refine Kcut.mkP (([], none, 0)) ?_ ⟨⟨_, rfl, rfl, fun _ => trivial⟩, trivial⟩ ⟨same rfl, same rfl, same rfl, same rfl, same rfl, same rfl, same rfl, same rfl, same rfl, same rfl, trivial⟩ (.non (.cons (s := 4) rfl (CLe.refl _ _) rfl (.cons (s := 5) rfl (CLe.refl _ _) rfl (.cons (s := 6) rfl (CLe.refl _ _) rfl (.cons (s := 12) rfl (CLe.refl _ _) rfl (.cons (s := 13) rfl (CLe.refl _ _) rfl (.cons (s := 34) rfl (CLe.refl _ _) rfl (.cons (s := 1051) rfl (CLe.refl _ _) rfl (.cons (s := 1052) rfl (CLe.refl _ _) rfl (.cons (s := 1060) rfl (CLe.refl _ _) rfl .nil)))))))))); (· (unfold hmid; rw [if_pos ⟨by omega, e73⟩])))
                  rintro ⟨h1, a10, cap10⟩ hcut
                  (try dsimp only at hcut ⊢)
                  have hm : h1 = hmid h nv := hcut
                  have hhl1 : h1.length ≤ 3000 := by rw [hm]; unfold hmid; split; (· exact Nat.zero_le _); (· exact hhl)
                  (repeat refine J.seq ?_)
                  refine J.draw [8, 12, 13] 9999 [(0, true), (1, true), (2, true), (3, true), (4, true), (5, true), (6, true), (7, true), (8, true), (9, true), (10, true), (11, true), (12, true), (13, true)] (by kernel_rfl) rfl (by kernel_rfl) ?_
                  intro F5 hF5
                  refine WS.take rfl (by rfl) (by rfl) (q_move (by rfl)) ?_
                  first | (refine WS.take rfl (by rfl) (by rfl) (q_len_slice (by rfl) (by rfl)) ?_) | (refine WS.take rfl (by rfl) (by rfl) (q_len_string (by rfl)) ?_)
                  first | (refine WS.take rfl (by rfl) (by rfl) (q_int (by rfl) (by rfl) (by rfl)) ?_) | (refine WS.take rfl (by rfl) (by rfl) (q_eqb (by rfl) (by rfl)) ?_) | (refine WS.take rfl (by rfl) (by rfl) (q_eqp rfl rfl (by rfl) (by rfl) ?_) ?_; (· (rfl))) | (refine WS.take rfl (by rfl) (by rfl) (q_eqs (by rfl) (by rfl)) ?_)
                  refine WS.take rfl (by rfl) (by rfl) (q_move (by rfl)) ?_
                  refine WS.split 77 (by rfl) (fun g77 => ?_) (fun g77 => ?_)
                  · skip
                    (first | have eg77 := of_decide_eq_true g77 | have eg77 := of_decide_eq_false g77 | have eg77 := ndec_t g77 | have eg77 := ndec_f g77 | skip)
                    have h0 : h1.length = 0 := by omega
                    refine WS.takeNo rfl (by rfl) (by rfl) ?_
                    refine WS.takeNo rfl (by rfl) (by rfl) ?_
                    refine WS.takeNo rfl (by rfl) (by rfl) ?_
                    refine WS.takeNo rfl (by rfl) (by rfl) ?_
                    refine WS.takeNo rfl (by rfl) (by rfl) ?_
                    refine WS.takeNo rfl (by rfl) (by rfl) ?_
                    refine WS.takeNo rfl (by rfl) (by rfl) ?_
                    refine WS.takeNo rfl (by rfl) (by rfl) ?_
                    refine WS.takeNo rfl (by rfl) (by rfl) ?_
                    refine WS.take rfl (by rfl) (by rfl) (q_pick_t (by rfl) (by rfl)) ?_
                    refine WS.nil ?_
                    (repeat refine J.seq ?_)
                    refine J.condT (by rfl) ?_
                    (repeat refine J.seq ?_)
                    refine J.region ?_
                    refine WL.yes (by rfl) (Ex.q (q_move (by rfl)) (by rfl) ?_)
                    first | (refine WL.yes (by rfl) (Ex.h (h_load (by rfl) (by rfl) (by rfl)) (by rfl) ?_)) | (refine WL.yes (by rfl) (Ex.q (q_load (by rfl) (by rfl) (by rfl)) (by rfl) ?_)) | (refine WL.yes (by rfl) (Ex.q (q_load_rop (by rfl) (by rfl)) (by rfl) ?_)) | (refine WL.yes (by rfl) (Ex.h (h_load_pel (by rfl) (by rfl) ?_ (by rfl)) (by rfl) ?_); (· (omega))) | (refine WL.yes (by rfl) (Ex.q (q_load_pel (by rfl) (by rfl) ?_ (by rfl)) (by rfl) ?_); (· (omega)))
                    refine WL.yes (by rfl) (Ex.buildSlice (parts := [(0, .tmp 89)]) (us := [_]) (by rfl) (by rfl) rfl (by rfl) (by rfl) ?_)
                    intro b90
                    refine WL.yes (by rfl) (Ex.append (e := enE) (l := h1) (l' := [nv]) (by rfl) (by rfl) (by rfl) (by rfl) (Rd.lit [nv] rfl rfl rfl) ?_ ?_); (· (simp only [List.length_singleton]; omega))
                    intro a91 cap91
                    refine WL.yes (by rfl) (Ex.q (q_assign (by rfl)) (by rfl) ?_)
                    refine WL.nil ?_
                    first | (refine Kloop.nextP ((Lr2, W ++ [nv], h, a9, cap9)) ?_ ?_ ⟨(by first | exact same rfl | exact ⟨_, rfl, rfl, fun _ => trivial⟩), trivial⟩ ⟨same rfl, same rfl, same rfl, same rfl, same rfl, same rfl, same rfl, same rfl, trivial⟩ (.cons (s := 1051) rfl CLe.mitcur rfl (.cons (s := 8) rfl (CLe.refl _ _) rfl (.cons (s := 4) rfl (CLe.refl _ _) rfl (.cons (s := 5) rfl (CLe.refl _ _) rfl (.cons (s := 6) rfl (CLe.refl _ _) rfl (.cons (s := 34) rfl (CLe.refl _ _) rfl (.cons (s := 1052) rfl (CLe.refl _ _) rfl (.cons (s := 1060) rfl (CLe.refl _ _) rfl .nil)))))))); (· (exact ⟨hp2, hl2, by rw [ev, ← hh2]; exact (hs_no hcand).symm⟩)); (· (exact hmu))) | ((have hif := hstep_cand (h := h) hcand; rw [← hm, if_pos (by first | exact .inl h0 | exact .inr heq)] at hif); refine Kloop.nextP ((Lr2, W ++ [nv], h1 ++ [nv], a91, cap91)) ?_ ?_ ⟨⟨_, rfl, by cases a91 <;> rfl, fun _ => trivial⟩, trivial⟩ ⟨same rfl, same rfl, same rfl, same rfl, same rfl, same rfl, same rfl, same rfl, trivial⟩ (.cons (s := 1051) rfl CLe.mitcur rfl (.cons (s := 91) rfl (CLe.refl _ _) rfl (.cons (s := 4) rfl (CLe.refl _ _) rfl (.cons (s := 5) rfl (CLe.refl _ _) rfl (.cons (s := 6) rfl (CLe.refl _ _) rfl (.cons (s := 34) rfl (CLe.refl _ _) rfl (.cons (s := 1052) rfl (CLe.refl _ _) rfl (.cons (s := 1060) rfl (CLe.refl _ _) rfl .nil)))))))); (· (exact ⟨hp2, hl2, by rw [ev, ← hh2, hif]⟩)); (· (exact hmu))) | ((have hif := hstep_cand (h := h) hcand; rw [← hm, if_neg (by rintro (x | x); (· exact h0 x); (· exact heq x))] at hif); refine Kloop.nextP ((Lr2, W ++ [nv], h1, _, cap10)) ?_ ?_ ⟨(by first | exact same rfl | exact ⟨_, rfl, rfl, fun _ => trivial⟩), trivial⟩ ⟨same rfl, same rfl, same rfl, same rfl, same rfl, same rfl, same rfl, same rfl, trivial⟩ (.cons (s := 1051) rfl CLe.mitcur rfl (.cons (s := 8) rfl (CLe.refl _ _) rfl (.cons (s := 4) rfl (CLe.refl _ _) rfl (.cons (s := 5) rfl (CLe.refl _ _) rfl (.cons (s := 6) rfl (CLe.refl _ _) rfl (.cons (s := 34) rfl (CLe.refl _ _) rfl (.cons (s := 1052) rfl (CLe.refl _ _) rfl (.cons (s := 1060) rfl (CLe.refl _ _) rfl .nil)))))))); (· (exact ⟨hp2, hl2, by rw [ev, ← hh2, hif]⟩)); (· (exact hmu)))
                  · skip
                    (first | have eg77 := of_decide_eq_true g77 | have eg77 := of_decide_eq_false g77 | have eg77 := ndec_t g77 | have eg77 := ndec_f g77 | skip)
                    have h0 : ¬ h1.length = 0 := by omega
                    first | (refine WS.take rfl (by rfl) (by rfl) (q_fieldAddr (by rfl)) ?_) | (refine WS.take rfl (by rfl) (by rfl) (q_fieldAddr_rop (by rfl) (by rfl)) ?_) | (refine WS.take rfl (by rfl) (by rfl) (q_fieldAddr_pel (by rfl)) ?_)
                    first | (refine WS.take rfl (by rfl) (by rfl) (q_load (by rfl) (by rfl) (by rfl)) ?_) | (refine WS.take rfl (by rfl) (by rfl) (q_load_rop (by rfl) (by rfl)) ?_) | (refine WS.take rfl (by rfl) (by rfl) (q_load_pel (by rfl) (by rfl) ?_ (by rfl)) ?_; (· (omega)))
                    refine WS.take rfl (by rfl) (by rfl) (q_move (by rfl)) ?_
                    refine WS.vecsome (t := 8) rfl (by omega) ?_
                    intro b8 hb8
                    subst hb8
                    first | (refine WS.take rfl (by rfl) (by rfl) (q_indexAddr_ros (by rfl) (by rfl) (by intro _; rfl) ?_ ?_) ?_; (· (omega)); (· (omega))) | (refine WS.take rfl (by rfl) (by rfl) (q_indexAddr_sl (by rfl) (by rfl) ?_ ?_) ?_; (· (omega)); (· (omega))) | (refine WS.take rfl (by rfl) (by rfl) (q_indexAddr_arr (by rfl) (by rfl) ?_ ?_) ?_; (· (omega)); (· (omega)))
                    first | (refine WS.take rfl (by rfl) (by rfl) (q_fieldAddr (by rfl)) ?_) | (refine WS.take rfl (by rfl) (by rfl) (q_fieldAddr_rop (by rfl) (by rfl)) ?_) | (refine WS.take rfl (by rfl) (by rfl) (q_fieldAddr_pel (by rfl)) ?_)
                    first | (refine WS.take rfl (by rfl) (by rfl) (q_fieldAddr (by rfl)) ?_) | (refine WS.take rfl (by rfl) (by rfl) (q_fieldAddr_rop (by rfl) (by rfl)) ?_) | (refine WS.take rfl (by rfl) (by rfl) (q_fieldAddr_pel (by rfl)) ?_)
                    first | (refine WS.take rfl (by rfl) (by rfl) (q_fieldAddr (by rfl)) ?_) | (refine WS.take rfl (by rfl) (by rfl) (q_fieldAddr_rop (by rfl) (by rfl)) ?_) | (refine WS.take rfl (by rfl) (by rfl) (q_fieldAddr_pel (by rfl)) ?_)
                    first | (refine WS.take rfl (by rfl) (by rfl) (q_load (by rfl) (by rfl) (by rfl)) ?_) | (refine WS.take rfl (by rfl) (by rfl) (q_load_rop (by rfl) (by rfl)) ?_) | (refine WS.take rfl (by rfl) (by rfl) (q_load_pel (by rfl) (by rfl) ?_ (by rfl)) ?_; (· (omega)))
                    first | (refine WS.take rfl (by rfl) (by rfl) (q_int (by rfl) (by rfl) (by rfl)) ?_) | (refine WS.take rfl (by rfl) (by rfl) (q_eqb (by rfl) (by rfl)) ?_) | (refine WS.take rfl (by rfl) (by rfl) (q_eqp rfl rfl (by rfl) (by rfl) ?_) ?_; (· (rfl))) | (refine WS.take rfl (by rfl) (by rfl) (q_eqs (by rfl) (by rfl)) ?_)
                    refine WS.take rfl (by rfl) (by rfl) (q_pick_f (by rfl) (by rfl)) ?_
                    refine WS.nil ?_
                    (repeat refine J.seq ?_)
                    refine J.cond (by rfl) (fun c87 => ?_) (fun c87 => ?_)
                    · skip
                      (first | have e87 := of_decide_eq_true c87 | have e87 := of_decide_eq_false c87 | have e87 := ndec_t c87 | have e87 := ndec_f c87 | skip)
                      have heq : nv.p.d.n = (lat h1 0).p.d.n := e87
                      (repeat refine J.seq ?_)
                      refine J.region ?_
                      refine WL.yes (by rfl) (Ex.q (q_move (by rfl)) (by rfl) ?_)
                      first | (refine WL.yes (by rfl) (Ex.h (h_load (by rfl) (by rfl) (by rfl)) (by rfl) ?_)) | (refine WL.yes (by rfl) (Ex.q (q_load (by rfl) (by rfl) (by rfl)) (by rfl) ?_)) | (refine WL.yes (by rfl) (Ex.q (q_load_rop (by rfl) (by rfl)) (by rfl) ?_)) | (refine WL.yes (by rfl) (Ex.h (h_load_pel (by rfl) (by rfl) ?_ (by rfl)) (by rfl) ?_); (· (omega))) | (refine WL.yes (by rfl) (Ex.q (q_load_pel (by rfl) (by rfl) ?_ (by rfl)) (by rfl) ?_); (· (omega)))
                      refine WL.yes (by rfl) (Ex.buildSlice (parts := [(0, .tmp 89)]) (us := [_]) (by rfl) (by rfl) rfl (by rfl) (by rfl) ?_)
                      intro b90
                      refine WL.yes (by rfl) (Ex.append (e := enE) (l := h1) (l' := [nv]) (by rfl) (by rfl) (by rfl) (by rfl) (Rd.lit [nv] rfl rfl rfl) ?_ ?_); (· (simp only [List.length_singleton]; omega))
                      intro a91 cap91
                      refine WL.yes (by rfl) (Ex.q (q_assign (by rfl)) (by rfl) ?_)
                      refine WL.nil ?_
                      first | (refine Kloop.nextP ((Lr2, W ++ [nv], h, a9, cap9)) ?_ ?_ ⟨(by first | exact same rfl | exact ⟨_, rfl, rfl, fun _ => trivial⟩), trivial⟩ ⟨same rfl, same rfl, same rfl, same rfl, same rfl, same rfl, same rfl, same rfl, trivial⟩ (.cons (s := 1051) rfl CLe.mitcur rfl (.cons (s := 8) rfl (CLe.refl _ _) rfl (.cons (s := 4) rfl (CLe.refl _ _) rfl (.cons (s := 5) rfl (CLe.refl _ _) rfl (.cons (s := 6) rfl (CLe.refl _ _) rfl (.cons (s := 34) rfl (CLe.refl _ _) rfl (.cons (s := 1052) rfl (CLe.refl _ _) rfl (.cons (s := 1060) rfl (CLe.refl _ _) rfl .nil)))))))); (· (exact ⟨hp2, hl2, by rw [ev, ← hh2]; exact (hs_no hcand).symm⟩)); (· (exact hmu))) | ((have hif := hstep_cand (h := h) hcand; rw [← hm, if_pos (by first | exact .inl h0 | exact .inr heq)] at hif); refine Kloop.nextP ((Lr2, W ++ [nv], h1 ++ [nv], a91, cap91)) ?_ ?_ ⟨⟨_, rfl, by cases a91 <;> rfl, fun _ => trivial⟩, trivial⟩ ⟨same rfl, same rfl, same rfl, same rfl, same rfl, same rfl, same rfl, same rfl, trivial⟩ (.cons (s := 1051) rfl CLe.mitcur rfl (.cons (s := 91) rfl (CLe.refl _ _) rfl (.cons (s := 4) rfl (CLe.refl _ _) rfl (.cons (s := 5) rfl (CLe.refl _ _) rfl (.cons (s := 6) rfl (CLe.refl _ _) rfl (.cons (s := 34) rfl (CLe.refl _ _) rfl (.cons (s := 1052) rfl (CLe.refl _ _) rfl (.cons (s := 1060) rfl (CLe.refl _ _) rfl .nil)))))))); (· (exact ⟨hp2, hl2, by rw [ev, ← hh2, hif]⟩)); (· (exact hmu))) | ((have hif := hstep_cand (h := h) hcand; rw [← hm, if_neg (by rintro (x | x); (· exact h0 x); (· exact heq x))] at hif); refine Kloop.nextP ((Lr2, W ++ [nv], h1, _, cap10)) ?_ ?_ ⟨(by first | exact same rfl | exact ⟨_, rfl, rfl, fun _ => trivial⟩), trivial⟩ ⟨same rfl, same rfl, same rfl, same rfl, same rfl, same rfl, same rfl, same rfl, trivial⟩ (.cons (s := 1051) rfl CLe.mitcur rfl (.cons (s := 8) rfl (CLe.refl _ _) rfl (.cons (s := 4) rfl (CLe.refl _ _) rfl (.cons (s := 5) rfl (CLe.refl _ _) rfl (.cons (s := 6) rfl (CLe.refl _ _) rfl (.cons (s := 34) rfl (CLe.refl _ _) rfl (.cons (s := 1052) rfl (CLe.refl _ _) rfl (.cons (s := 1060) rfl (CLe.refl _ _) rfl .nil)))))))); (· (exact ⟨hp2, hl2, by rw [ev, ← hh2, hif]⟩)); (· (exact hmu)))
                    · skip
                      (first | have e87 := of_decide_eq_true c87 | have e87 := of_decide_eq_false c87 | have e87 := ndec_t c87 | have e87 := ndec_f c87 | skip)
                      have heq : ¬ nv.p.d.n = (lat h1 0).p.d.n := e87
                      (repeat refine J.seq ?_)
                      refine J.skip ?_
                      first | (refine Kloop.nextP ((Lr2, W ++ [nv], h, a9, cap9)) ?_ ?_ ⟨(by first | exact same rfl | exact ⟨_, rfl, rfl, fun _ => trivial⟩), trivial⟩ ⟨same rfl, same rfl, same rfl, same rfl, same rfl, same rfl, same rfl, same rfl, trivial⟩ (.cons (s := 1051) rfl CLe.mitcur rfl (.cons (s := 8) rfl (CLe.refl _ _) rfl (.cons (s := 4) rfl (CLe.refl _ _) rfl (.cons (s := 5) rfl (CLe.refl _ _) rfl (.cons (s := 6) rfl (CLe.refl _ _) rfl (.cons (s := 34) rfl (CLe.refl _ _) rfl (.cons (s := 1052) rfl (CLe.refl _ _) rfl (.cons (s := 1060) rfl (CLe.refl _ _) rfl .nil)))))))); (· (exact ⟨hp2, hl2, by rw [ev, ← hh2]; exact (hs_no hcand).symm⟩)); (· (exact hmu))) | ((have hif := hstep_cand (h := h) hcand; rw [← hm, if_pos (by first | exact .inl h0 | exact .inr heq)] at hif); refine Kloop.nextP ((Lr2, W ++ [nv], h1 ++ [nv], a91, cap91)) ?_ ?_ ⟨⟨_, rfl, by cases a91 <;> rfl, fun _ => trivial⟩, trivial⟩ ⟨same rfl, same rfl, same rfl, same rfl, same rfl, same rfl, same rfl, same rfl, trivial⟩ (.cons (s := 1051) rfl CLe.mitcur rfl (.cons (s := 91) rfl (CLe.refl _ _) rfl (.cons (s := 4) rfl (CLe.refl _ _) rfl (.cons (s := 5) rfl (CLe.refl _ _) rfl (.cons (s := 6) rfl (CLe.refl _ _) rfl (.cons (s := 34) rfl (CLe.refl _ _) rfl (.cons (s := 1052) rfl (CLe.refl _ _) rfl (.cons (s := 1060) rfl (CLe.refl _ _) rfl .nil)))))))); (· (exact ⟨hp2, hl2, by rw [ev, ← hh2, hif]⟩)); (· (exact hmu))) | ((have hif := hstep_cand (h := h) hcand; rw [← hm, if_neg (by rintro (x | x); (· exact h0 x); (· exact heq x))] at hif); refine Kloop.nextP ((Lr2, W ++ [nv], h1, _, cap10)) ?_ ?_ ⟨(by first | exact same rfl | exact ⟨_, rfl, rfl, fun _ => trivial⟩), trivial⟩ ⟨same rfl, same rfl, same rfl, same rfl, same rfl, same rfl, same rfl, same rfl, trivial⟩ (.cons (s := 1051) rfl CLe.mitcur rfl (.cons (s := 8) rfl (CLe.refl _ _) rfl (.cons (s := 4) rfl (CLe.refl _ _) rfl (.cons (s := 5) rfl (CLe.refl _ _) rfl (.cons (s := 6) rfl (CLe.refl _ _) rfl (.cons (s := 34) rfl (CLe.refl _ _) rfl (.cons (s := 1052) rfl (CLe.refl _ _) rfl (.cons (s := 1060) rfl (CLe.refl _ _) rfl .nil)))))))); (· (exact ⟨hp2, hl2, by rw [ev, ← hh2, hif]⟩)); (· (exact hmu)))
                · skip
                  (first | have eg63 := of_decide_eq_true g63 | have eg63 := of_decide_eq_false g63 | have eg63 := ndec_t g63 | have eg63 := ndec_f g63 | skip)
                  refine WS.takeNo rfl (by rfl) (by rfl) ?_
                  refine WS.takeNo rfl (by rfl) (by rfl) ?_
                  refine WS.takeNo rfl (by rfl) (by rfl) ?_
                  refine WS.takeNo rfl (by rfl) (by rfl) ?_
                  refine WS.takeNo rfl (by rfl) (by rfl) ?_
                  refine WS.takeNo rfl (by rfl) (by rfl) ?_
                  refine WS.takeNo rfl (by rfl) (by rfl) ?_
                  refine WS.takeNo rfl (by rfl) (by rfl) ?_
                  refine WS.takeNo rfl (by rfl) (by rfl) ?_
                  refine WS.take rfl (by rfl) (by rfl) (q_pick_f (by rfl) (by rfl)) ?_
                  refine WS.nil ?_
                  (repeat refine J.seq ?_)
                  refine J.cutP (fun x : List En × Option Nat × Nat => x.1 = hmid h nv) (fun x => [(8, .sl 8 x.2.1 51 0 x.2.2 x.1.length)]) (fun x => [(8, lvec x.2.1 37 51 x.2.2 enE x.1)]) [(4, _), (5, _), (6, _), (7, _), (12, _), (13, _), (34, _), (35, _), (36, _), (41, _)] [(4, _), (5, _), (6, _), (12, _), (13, _), (34, _), (1051, _), (1052, _), (1060, _)] ⟨same rfl, same rfl, same rfl, same rfl, same rfl, same rfl, same rfl, same rfl, same rfl, same rfl, trivial⟩ (.cons (s := 4) rfl (CLe.refl _ _) rfl (.cons (s := 5) rfl (CLe.refl _ _) rfl (.cons (s := 6) rfl (CLe.refl _ _) rfl (.cons (s := 12) rfl (CLe.refl _ _) rfl (.cons (s := 13) rfl (CLe.refl _ _) rfl (.cons (s := 34) rfl (CLe.refl _ _) rfl (.cons (s := 1051) rfl (CLe.refl _ _) rfl (.cons (s := 1052) rfl (CLe.refl _ _) rfl (.cons (s := 1060) rfl (CLe.refl _ _) rfl .nil))))))))) ?_ ?_
                  · skip
                    (repeat refine J.seq ?_)
                    refine J.condF (by rfl) ?_
                    (repeat refine J.seq ?_)
                    refine J.skip ?_
                    first | (refine Kcut.mkP ((h, _, cap9)) ?_ ⟨(by first | exact same rfl | exact ⟨_, rfl, rfl, fun _ => trivial⟩), trivial⟩ ⟨same rfl, same rfl, same rfl, same rfl, same rfl, same rfl, same rfl, same rfl, same rfl, same rfl, trivial⟩ (.cons (s := 8) rfl (CLe.refl _ _) rfl (.cons (s := 4) rfl (CLe.refl _ _) rfl (.cons (s := 5) rfl (CLe.refl _ _) rfl (.cons (s := 6) rfl (CLe.refl _ _) rfl (.cons (s := 12) rfl (CLe.refl _ _) rfl (.cons (s := 13) rfl (CLe.refl _ _) rfl (.cons (s := 34) rfl (CLe.refl _ _) rfl (.cons (s := 1051) rfl (CLe.refl _ _) rfl (.cons (s := 1052) rfl (CLe.refl _ _) rfl (.cons (s := 1060) rfl (CLe.refl _ _) rfl .nil)))))))))); (· (unfold hmid; rw [if_neg (fun x => by first | exact e73 x.2 | omega)]))) | (refine Kcut.mkP (([], none, 0)) ?_ ⟨⟨_, rfl, rfl, fun _ => trivial⟩, trivial⟩ ⟨same rfl, same rfl, same rfl, same rfl, same rfl, same rfl, same rfl, same rfl, same rfl, same rfl, trivial⟩ (.non (.cons (s := 4) rfl (CLe.refl _ _) rfl (.cons (s := 5) rfl (CLe.refl _ _) rfl (.cons (s := 6) rfl (CLe.refl _ _) rfl (.cons (s := 12) rfl (CLe.refl _ _) rfl (.cons (s := 13) rfl (CLe.refl _ _) rfl (.cons (s := 34) rfl (CLe.refl _ _) rfl (.cons (s := 1051) rfl (CLe.refl _ _) rfl (.cons (s := 1052) rfl (CLe.refl _ _) rfl (.cons (s := 1060) rfl (CLe.refl _ _) rfl .nil)))))))))); (· (unfold hmid; rw [if_pos ⟨by omega, e73⟩])))
                  rintro ⟨h1, a10, cap10⟩ hcut
                  (try dsimp only at hcut ⊢)
                  have hm : h1 = hmid h nv := hcut
                  have hhl1 : h1.length ≤ 3000 := by rw [hm]; unfold hmid; split; (· exact Nat.zero_le _); (· exact hhl)
                  (repeat refine J.seq ?_)
                  refine J.draw [8, 12, 13] 9999 [(0, true), (1, true), (2, true), (3, true), (4, true), (5, true), (6, true), (7, true), (8, true), (9, true), (10, true), (11, true), (12, true), (13, true)] (by kernel_rfl) rfl (by kernel_rfl) ?_
                  intro F6 hF6
                  refine WS.take rfl (by rfl) (by rfl) (q_move (by rfl)) ?_
                  first | (refine WS.take rfl (by rfl) (by rfl) (q_len_slice (by rfl) (by rfl)) ?_) | (refine WS.take rfl (by rfl) (by rfl) (q_len_string (by rfl)) ?_)
                  first | (refine WS.take rfl (by rfl) (by rfl) (q_int (by rfl) (by rfl) (by rfl)) ?_) | (refine WS.take rfl (by rfl) (by rfl) (q_eqb (by rfl) (by rfl)) ?_) | (refine WS.take rfl (by rfl) (by rfl) (q_eqp rfl rfl (by rfl) (by rfl) ?_) ?_; (· (rfl))) | (refine WS.take rfl (by rfl) (by rfl) (q_eqs (by rfl) (by rfl)) ?_)
                  refine WS.take rfl (by rfl) (by rfl) (q_move (by rfl)) ?_
                  refine WS.split 77 (by rfl) (fun g77 => ?_) (fun g77 => ?_)
                  · skip
                    (first | have eg77 := of_decide_eq_true g77 | have eg77 := of_decide_eq_false g77 | have eg77 := ndec_t g77 | have eg77 := ndec_f g77 | skip)
                    have h0 : h1.length = 0 := by omega
                    refine WS.takeNo rfl (by rfl) (by rfl) ?_
                    refine WS.takeNo rfl (by rfl) (by rfl) ?_
                    refine WS.takeNo rfl (by rfl) (by rfl) ?_
                    refine WS.takeNo rfl (by rfl) (by rfl) ?_
                    refine WS.takeNo rfl (by rfl) (by rfl) ?_
                    refine WS.takeNo rfl (by rfl) (by rfl) ?_
                    refine WS.takeNo rfl (by rfl) (by rfl) ?_
                    refine WS.takeNo rfl (by rfl) (by rfl) ?_
                    refine WS.takeNo rfl (by rfl) (by rfl) ?_
                    refine WS.take rfl (by rfl) (by rfl) (q_pick_t (by rfl) (by rfl)) ?_
                    refine WS.nil ?_
                    (repeat refine J.seq ?_)
                    refine J.condT (by rfl) ?_
                    (repeat refine J.seq ?_)
                    refine J.region ?_
                    refine WL.yes (by rfl) (Ex.q (q_move (by rfl)) (by rfl) ?_)
                    first | (refine WL.yes (by rfl) (Ex.h (h_load (by rfl) (by rfl) (by rfl)) (by rfl) ?_)) | (refine WL.yes (by rfl) (Ex.q (q_load (by rfl) (by rfl) (by rfl)) (by rfl) ?_)) | (refine WL.yes (by rfl) (Ex.q (q_load_rop (by rfl) (by rfl)) (by rfl) ?_)) | (refine WL.yes (by rfl) (Ex.h (h_load_pel (by rfl) (by rfl) ?_ (by rfl)) (by rfl) ?_); (· (omega))) | (refine WL.yes (by rfl) (Ex.q (q_load_pel (by rfl) (by rfl) ?_ (by rfl)) (by rfl) ?_); (· (omega)))
                    refine WL.yes (by rfl) (Ex.buildSlice (parts := [(0, .tmp 89)]) (us := [_]) (by rfl) (by rfl) rfl (by rfl) (by rfl) ?_)
                    intro b90
                    refine WL.yes (by rfl) (Ex.append (e := enE) (l := h1) (l' := [nv]) (by rfl) (by rfl) (by rfl) (by rfl) (Rd.lit [nv] rfl rfl rfl) ?_ ?_); (· (simp only [List.length_singleton]; omega))
                    intro a91 cap91
                    refine WL.yes (by rfl) (Ex.q (q_assign (by rfl)) (by rfl) ?_)
                    refine WL.nil ?_
                    first | (refine Kloop.nextP ((Lr2, W ++ [nv], h, a9, cap9)) ?_ ?_ ⟨(by first | exact same rfl | exact ⟨_, rfl, rfl, fun _ => trivial⟩), trivial⟩ ⟨same rfl, same rfl, same rfl, same rfl, same rfl, same rfl, same rfl, same rfl, trivial⟩ (.cons (s := 1051) rfl CLe.mitcur rfl (.cons (s := 8) rfl (CLe.refl _ _) rfl (.cons (s := 4) rfl (CLe.refl _ _) rfl (.cons (s := 5) rfl (CLe.refl _ _) rfl (.cons (s := 6) rfl (CLe.refl _ _) rfl (.cons (s := 34) rfl (CLe.refl _ _) rfl (.cons (s := 1052) rfl (CLe.refl _ _) rfl (.cons (s := 1060) rfl (CLe.refl _ _) rfl .nil)))))))); (· (exact ⟨hp2, hl2, by rw [ev, ← hh2]; exact (hs_no hcand).symm⟩)); (· (exact hmu))) | ((have hif := hstep_cand (h := h) hcand; rw [← hm, if_pos (by first | exact .inl h0 | exact .inr heq)] at hif); refine Kloop.nextP ((Lr2, W ++ [nv], h1 ++ [nv], a91, cap91)) ?_ ?_ ⟨⟨_, rfl, by cases a91 <;> rfl, fun _ => trivial⟩, trivial⟩ ⟨same rfl, same rfl, same rfl, same rfl, same rfl, same rfl, same rfl, same rfl, trivial⟩ (.cons (s := 1051) rfl CLe.mitcur rfl (.cons (s := 91) rfl (CLe.refl _ _) rfl (.cons (s := 4) rfl (CLe.refl _ _) rfl (.cons (s := 5) rfl (CLe.refl _ _) rfl (.cons (s := 6) rfl (CLe.refl _ _) rfl (.cons (s := 34) rfl (CLe.refl _ _) rfl (.cons (s := 1052) rfl (CLe.refl _ _) rfl (.cons (s := 1060) rfl (CLe.refl _ _) rfl .nil)))))))); (· (exact ⟨hp2, hl2, by rw [ev, ← hh2, hif]⟩)); (· (exact hmu))) | ((have hif := hstep_cand (h := h) hcand; rw [← hm, if_neg (by rintro (x | x); (· exact h0 x); (· exact heq x))] at hif); refine Kloop.nextP ((Lr2, W ++ [nv], h1, _, cap10)) ?_ ?_ ⟨(by first | exact same rfl | exact ⟨_, rfl, rfl, fun _ => trivial⟩), trivial⟩ ⟨same rfl, same rfl, same rfl, same rfl, same rfl, same rfl, same rfl, same rfl, trivial⟩ (.cons (s := 1051) rfl CLe.mitcur rfl (.cons (s := 8) rfl (CLe.refl _ _) rfl (.cons (s := 4) rfl (CLe.refl _ _) rfl (.cons (s := 5) rfl (CLe.refl _ _) rfl (.cons (s := 6) rfl (CLe.refl _ _) rfl (.cons (s := 34) rfl (CLe.refl _ _) rfl (.cons (s := 1052) rfl (CLe.refl _ _) rfl (.cons (s := 1060) rfl (CLe.refl _ _) rfl .nil)))))))); (· (exact ⟨hp2, hl2, by rw [ev, ← hh2, hif]⟩)); (· (exact hmu)))
                  · skip
                    (first | have eg77 := of_decide_eq_true g77 | have eg77 := of_decide_eq_false g77 | have eg77 := ndec_t g77 | have eg77 := ndec_f g77 | skip)
                    have h0 : ¬ h1.length = 0 := by omega
                    first | (refine WS.take rfl (by rfl) (by rfl) (q_fieldAddr (by rfl)) ?_) | (refine WS.take rfl (by rfl) (by rfl) (q_fieldAddr_rop (by rfl) (by rfl)) ?_) | (refine WS.take rfl (by rfl) (by rfl) (q_fieldAddr_pel (by rfl)) ?_)
                    first | (refine WS.take rfl (by rfl) (by rfl) (q_load (by rfl) (by rfl) (by rfl)) ?_) | (refine WS.take rfl (by rfl) (by rfl) (q_load_rop (by rfl) (by rfl)) ?_) | (refine WS.take rfl (by rfl) (by rfl) (q_load_pel (by rfl) (by rfl) ?_ (by rfl)) ?_; (· (omega)))
                    refine WS.take rfl (by rfl) (by rfl) (q_move (by rfl)) ?_
                    refine WS.vecsome (t := 8) rfl (by omega) ?_
                    intro b8 hb8
                    subst hb8
                    first | (refine WS.take rfl (by rfl) (by rfl) (q_indexAddr_ros (by rfl) (by rfl) (by intro _; rfl) ?_ ?_) ?_; (· (omega)); (· (omega))) | (refine WS.take rfl (by rfl) (by rfl) (q_indexAddr_sl (by rfl) (by rfl) ?_ ?_) ?_; (· (omega)); (· (omega))) | (refine WS.take rfl (by rfl) (by rfl) (q_indexAddr_arr (by rfl) (by rfl) ?_ ?_) ?_; (· (omega)); (· (omega)))
                    first | (refine WS.take rfl (by rfl) (by rfl) (q_fieldAddr (by rfl)) ?_) | (refine WS.take rfl (by rfl) (by rfl) (q_fieldAddr_rop (by rfl) (by rfl)) ?_) | (refine WS.take rfl (by rfl) (by rfl) (q_fieldAddr_pel (by rfl)) ?_)
                    first | (refine WS.take rfl (by rfl) (by rfl) (q_fieldAddr (by rfl)) ?_) | (refine WS.take rfl (by rfl) (by rfl) (q_fieldAddr_rop (by rfl) (by rfl)) ?_) | (refine WS.take rfl (by rfl) (by rfl) (q_fieldAddr_pel (by rfl)) ?_)
                    first | (refine WS.take rfl (by rfl) (by rfl) (q_fieldAddr (by rfl)) ?_) | (refine WS.take rfl (by rfl) (by rfl) (q_fieldAddr_rop (by rfl) (by rfl)) ?_) | (refine WS.take rfl (by rfl) (by rfl) (q_fieldAddr_pel (by rfl)) ?_)
                    first | (refine WS.take rfl (by rfl) (by rfl) (q_load (by rfl) (by rfl) (by rfl)) ?_) | (refine WS.take rfl (by rfl) (by rfl) (q_load_rop (by rfl) (by rfl)) ?_) | (refine WS.take rfl (by rfl) (by rfl) (q_load_pel (by rfl) (by rfl) ?_ (by rfl)) ?_; (· (omega)))
                    first | (refine WS.take rfl (by rfl) (by rfl) (q_int (by rfl) (by rfl) (by rfl)) ?_) | (refine WS.take rfl (by rfl) (by rfl) (q_eqb (by rfl) (by rfl)) ?_) | (refine WS.take rfl (by rfl) (by rfl) (q_eqp rfl rfl (by rfl) (by rfl) ?_) ?_; (· (rfl))) | (refine WS.take rfl (by rfl) (by rfl) (q_eqs (by rfl) (by rfl)) ?_)
                    refine WS.take rfl (by rfl) (by rfl) (q_pick_f (by rfl) (by rfl)) ?_
                    refine WS.nil ?_
                    (repeat refine J.seq ?_)
                    refine J.cond (by rfl) (fun c87 => ?_) (fun c87 => ?_)
                    · skip
                      (first | have e87 := of_decide_eq_true c87 | have e87 := of_decide_eq_false c87 | have e87 := ndec_t c87 | have e87 := ndec_f c87 | skip)
                      have heq : nv.p.d.n = (lat h1 0).p.d.n := e87
                      (repeat refine J.seq ?_)
                      refine J.region ?_
                      refine WL.yes (by rfl) (Ex.q (q_move (by rfl)) (by rfl) ?_)
                      first | (refine WL.yes (by rfl) (Ex.h (h_load (by rfl) (by rfl) (by rfl)) (by rfl) ?_)) | (refine WL.yes (by rfl) (Ex.q (q_load (by rfl) (by rfl) (by rfl)) (by rfl) ?_)) | (refine WL.yes (by rfl) (Ex.q (q_load_rop (by rfl) (by rfl)) (by rfl) ?_)) | (refine WL.yes (by rfl) (Ex.h (h_load_pel (by rfl) (by rfl) ?_ (by rfl)) (by rfl) ?_); (· (omega))) | (refine WL.yes (by rfl) (Ex.q (q_load_pel (by rfl) (by rfl) ?_ (by rfl)) (by rfl) ?_); (· (omega)))
                      refine WL.yes (by rfl) (Ex.buildSlice (parts := [(0, .tmp 89)]) (us := [_]) (by rfl) (by rfl) rfl (by rfl) (by rfl) ?_)
                      intro b90
                      refine WL.yes (by rfl) (Ex.append (e := enE) (l := h1) (l' := [nv]) (by rfl) (by rfl) (by rfl) (by rfl) (Rd.lit [nv] rfl rfl rfl) ?_ ?_); (· (simp only [List.length_singleton]; omega))
                      intro a91 cap91
                      refine WL.yes (by rfl) (Ex.q (q_assign (by rfl)) (by rfl) ?_)
                      refine WL.nil ?_
                      first | (refine Kloop.nextP ((Lr2, W ++ [nv], h, a9, cap9)) ?_ ?_ ⟨(by first | exact same rfl | exact ⟨_, rfl, rfl, fun _ => trivial⟩), trivial⟩ ⟨same rfl, same rfl, same rfl, same rfl, same rfl, same rfl, same rfl, same rfl, trivial⟩ (.cons (s := 1051) rfl CLe.mitcur rfl (.cons (s := 8) rfl (CLe.refl _ _) rfl (.cons (s := 4) rfl (CLe.refl _ _) rfl (.cons (s := 5) rfl (CLe.refl _ _) rfl (.cons (s := 6) rfl (CLe.refl _ _) rfl (.cons (s := 34) rfl (CLe.refl _ _) rfl (.cons (s := 1052) rfl (CLe.refl _ _) rfl (.cons (s := 1060) rfl (CLe.refl _ _) rfl .nil)))))))); (· (exact ⟨hp2, hl2, by rw [ev, ← hh2]; exact (hs_no hcand).symm⟩)); (· (exact hmu))) | ((have hif := hstep_cand (h := h) hcand; rw [← hm, if_pos (by first | exact .inl h0 | exact .inr heq)] at hif); refine Kloop.nextP ((Lr2, W ++ [nv], h1 ++ [nv], a91, cap91)) ?_ ?_ ⟨⟨_, rfl, by cases a91 <;> rfl, fun _ => trivial⟩, trivial⟩ ⟨same rfl, same rfl, same rfl, same rfl, same rfl, same rfl, same rfl, same rfl, trivial⟩ (.cons (s := 1051) rfl CLe.mitcur rfl (.cons (s := 91) rfl (CLe.refl _ _) rfl (.cons (s := 4) rfl (CLe.refl _ _) rfl (.cons (s := 5) rfl (CLe.refl _ _) rfl (.cons (s := 6) rfl (CLe.refl _ _) rfl (.cons (s := 34) rfl (CLe.refl _ _) rfl (.cons (s := 1052) rfl (CLe.refl _ _) rfl (.cons (s := 1060) rfl (CLe.refl _ _) rfl .nil)))))))); (· (exact ⟨hp2, hl2, by rw [ev, ← hh2, hif]⟩)); (· (exact hmu))) | ((have hif := hstep_cand (h := h) hcand; rw [← hm, if_neg (by rintro (x | x); (· exact h0 x); (· exact heq x))] at hif); refine Kloop.nextP ((Lr2, W ++ [nv], h1, _, cap10)) ?_ ?_ ⟨(by first | exact same rfl | exact ⟨_, rfl, rfl, fun _ => trivial⟩), trivial⟩ ⟨same rfl, same rfl, same rfl, same rfl, same rfl, same rfl, same rfl, same rfl, trivial⟩ (.cons (s := 1051) rfl CLe.mitcur rfl (.cons (s := 8) rfl (CLe.refl _ _) rfl (.cons (s := 4) rfl (CLe.refl _ _) rfl (.cons (s := 5) rfl (CLe.refl _ _) rfl (.cons (s := 6) rfl (CLe.refl _ _) rfl (.cons (s := 34) rfl (CLe.refl _ _) rfl (.cons (s := 1052) rfl (CLe.refl _ _) rfl (.cons (s := 1060) rfl (CLe.refl _ _) rfl .nil)))))))); (· (exact ⟨hp2, hl2, by rw [ev, ← hh2, hif]⟩)); (· (exact hmu)))
                    · skip
                      (first | have e87 := of_decide_eq_true c87 | have e87 := of_decide_eq_false c87 | have e87 := ndec_t c87 | have e87 := ndec_f c87 | skip)
                      have heq : ¬ nv.p.d.n = (lat h1 0).p.d.n := e87
                      (repeat refine J.seq ?_)
                      refine J.skip ?_
                      first | (refine Kloop.nextP ((Lr2, W ++ [nv], h, a9, cap9)) ?_ ?_ ⟨(by first | exact same rfl | exact ⟨_, rfl, rfl, fun _ => trivial⟩), trivial⟩ ⟨same rfl, same rfl, same rfl, same rfl, same rfl, same rfl, same rfl, same rfl, trivial⟩ (.cons (s := 1051) rfl CLe.mitcur rfl (.cons (s := 8) rfl (CLe.refl _ _) rfl (.cons (s := 4) rfl (CLe.refl _ _) rfl (.cons (s := 5) rfl (CLe.refl _ _) rfl (.cons (s := 6) rfl (CLe.refl _ _) rfl (.cons (s := 34) rfl (CLe.refl _ _) rfl (.cons (s := 1052) rfl (CLe.refl _ _) rfl (.cons (s := 1060) rfl (CLe.refl _ _) rfl .nil)))))))); (· (exact ⟨hp2, hl2, by rw [ev, ← hh2]; exact (hs_no hcand).symm⟩)); (· (exact hmu))) | ((have hif := hstep_cand (h := h) hcand; rw [← hm, if_pos (by first | exact .inl h0 | exact .inr heq)] at hif); refine Kloop.nextP ((Lr2, W ++ [nv], h1 ++ [nv], a91, cap91)) ?_ ?_ ⟨⟨_, rfl, by cases a91 <;> rfl, fun _ => trivial⟩, trivial⟩ ⟨same rfl, same rfl, same rfl, same rfl, same rfl, same rfl, same rfl, same rfl, trivial⟩ (.cons (s := 1051) rfl CLe.mitcur rfl (.cons (s := 91) rfl (CLe.refl _ _) rfl (.cons (s := 4) rfl (CLe.refl _ _) rfl (.cons (s := 5) rfl (CLe.refl _ _) rfl (.cons (s := 6) rfl (CLe.refl _ _) rfl (.cons (s := 34) rfl (CLe.refl _ _) rfl (.cons (s := 1052) rfl (CLe.refl _ _) rfl (.cons (s := 1060) rfl (CLe.refl _ _) rfl .nil)))))))); (· (exact ⟨hp2, hl2, by rw [ev, ← hh2, hif]⟩)); (· (exact hmu))) | ((have hif := hstep_cand (h := h) hcand; rw [← hm, if_neg (by rintro (x | x); (· exact h0 x); (· exact heq x))] at hif); refine Kloop.nextP ((Lr2, W ++ [nv], h1, _, cap10)) ?_ ?_ ⟨(by first | exact same rfl | exact ⟨_, rfl, rfl, fun _ => trivial⟩), trivial⟩ ⟨same rfl, same rfl, same rfl, same rfl, same rfl, same rfl, same rfl, same rfl, trivial⟩ (.cons (s := 1051) rfl CLe.mitcur rfl (.cons (s := 8) rfl (CLe.refl _ _) rfl (.cons (s := 4) rfl (CLe.refl _ _) rfl (.cons (s := 5) rfl (CLe.refl _ _) rfl (.cons (s := 6) rfl (CLe.refl _ _) rfl (.cons (s := 34) rfl (CLe.refl _ _) rfl (.cons (s := 1052) rfl (CLe.refl _ _) rfl (.cons (s := 1060) rfl (CLe.refl _ _) rfl .nil)))))))); (· (exact ⟨hp2, hl2, by rw [ev, ← hh2, hif]⟩)); (· (exact hmu)))
        · skip
          (exfalso; revert c37; simp)
      · skip
        have hVl : V.length ≤ 1000 := by have := hV.length_eq; have := hs.lt; simp [pref] at *; omega
        (repeat refine J.seq ?_)
        refine J.region ?_
        refine WL.yes (by rfl) (Ex.q (q_int (by rfl) (by rfl) (by rfl)) (by rfl) ?_)
        refine WL.nil ?_
        (repeat refine J.seq ?_)
        refine J.cond (by rfl) (fun c37 => ?_) (fun c37 => ?_)
        · skip
          (first | have e37 := of_decide_eq_true c37 | have e37 := of_decide_eq_false c37 | have e37 := ndec_t c37 | have e37 := ndec_f c37 | skip)
          (repeat refine J.seq ?_)
          refine J.skip ?_
          (repeat refine J.seq ?_)
          refine J.block ?_
          (repeat refine J.seq ?_)
          refine J.region ?_
          first | (refine WL.yes (by rfl) (Ex.q (q_indexAddr_ros (by rfl) (by rfl) (by intro _; rfl) ?_ ?_) (by rfl) ?_); (· (omega)); (· (omega))) | (refine WL.yes (by rfl) (Ex.q (q_indexAddr_sl (by rfl) (by rfl) ?_ ?_) (by rfl) ?_); (· (omega)); (· (omega))) | (refine WL.yes (by rfl) (Ex.q (q_indexAddr_arr (by rfl) (by rfl) ?_ ?_) (by rfl) ?_); (· (omega)); (· (omega)))
          first | (refine WL.yes (by rfl) (Ex.h (h_load (by rfl) (by rfl) (by rfl)) (by rfl) ?_)) | (refine WL.yes (by rfl) (Ex.q (q_load (by rfl) (by rfl) (by rfl)) (by rfl) ?_)) | (refine WL.yes (by rfl) (Ex.q (q_load_rop (by rfl) (by rfl)) (by rfl) ?_)) | (refine WL.yes (by rfl) (Ex.h (h_load_pel (by rfl) (by rfl) ?_ (by rfl)) (by rfl) ?_); (· (omega))) | (refine WL.yes (by rfl) (Ex.q (q_load_pel (by rfl) (by rfl) ?_ (by rfl)) (by rfl) ?_); (· (omega)))
          refine WL.yes (by rfl) (Ex.q (q_assign (by rfl)) (by rfl) ?_)
          refine WL.nil ?_
          (repeat refine J.seq ?_)
          refine J.region ?_
          refine WL.yes (by rfl) (Ex.q (q_move (by rfl)) (by rfl) ?_)
          refine WL.yes (by rfl) (Ex.range (e := prE) (f := enE) (L := tblKV s.U) (by rfl) (by rfl) (by rfl) ?_)
          intro it41
          refine WL.nil ?_
          (repeat refine J.seq ?_)
          refine J.block ?_
          (repeat refine J.seq ?_)
          refine J.loopP (fun x : List (Pr × En) × List En × List En × Option Nat × Nat => (tblKV x.2.1 ++ x.1).Perm (tblKV s.U) ∧ x.2.1.length ≤ 1000 ∧ x.2.2.1 = hereF dst (V ++ x.2.1)) (fun x => [(8, .sl 8 x.2.2.2.1 51 0 x.2.2.2.2 x.2.2.1.length)]) (fun x => [(1052, mitc b2 it41 prE enE (tblKV s.U) x.1 none), (8, lvec x.2.2.2.1 37 51 x.2.2.2.2 enE x.2.2.1)]) (fun x => x.1.length) (tblKV s.U, [], h, a8, cap8) [(4, _), (5, _), (6, _), (7, _), (34, _), (35, _), (36, _), (41, _)] [(4, _), (5, _), (6, _), (34, _), (1051, _), (1060, _)] ⟨same rfl, same rfl, same rfl, same rfl, same rfl, same rfl, same rfl, same rfl, trivial⟩ ⟨same rfl, trivial⟩ (.cons (s := 1052) rfl (CLe.refl _ _) rfl (.cons (s := 8) rfl (CLe.refl _ _) rfl (.cons (s := 4) rfl (CLe.refl _ _) rfl (.cons (s := 5) rfl (CLe.refl _ _) rfl (.cons (s := 6) rfl (CLe.refl _ _) rfl (.cons (s := 34) rfl (CLe.refl _ _) rfl (.cons (s := 1051) rfl (CLe.refl _ _) rfl (.cons (s := 1060) rfl (CLe.refl _ _) rfl .nil)))))))) ?_ ?_
          · (exact ⟨List.Perm.refl _, Nat.zero_le _, by rw [List.append_nil]; exact hh⟩)
          rintro ⟨Lr, W, h, a9, cap9⟩ hx
          (try dsimp only at hx)
          (try dsimp only)
          obtain ⟨hperm0, hW, hh2⟩ := hx
          have hhl : h.length ≤ 3000 := by have := hereF_len dst (V ++ W); rw [← hh2] at this; simp only [List.length_append] at this; have := hVl; omega
          (repeat refine J.seq ?_)
          refine J.region ?_
          refine WL.yes (by rfl) (Ex.next (e := prE) (f := enE) (L := tblKV s.U) (Lr := Lr) (cur := none) (by rfl) (by rfl) (by rfl) (fun hnil => ?_) (fun nk nv Lr2 hperm => ?_))
          · skip
            subst hnil
            have hWp : W.Perm s.U := tblKV_perm (by simpa using hperm0)
            have hn1 : (V ++ W).Perm (pref s 2) := List.Perm.append hV hWp
            refine WL.yes (by rfl) (Ex.q (q_extract_raw (by rfl) (by rfl)) (by rfl) ?_)
            refine WL.nil ?_
            (repeat refine J.seq ?_)
            refine J.condF (by rfl) ?_
            (repeat refine J.seq ?_)
            refine J.exit ?_
            (repeat refine J.seq ?_)
            refine J.region ?_
            refine WL.yes (by rfl) (Ex.q (q_int (by rfl) (by rfl) (by rfl)) (by rfl) ?_)
            refine WL.yes (by rfl) (Ex.q (q_move (by rfl)) (by rfl) ?_)
            refine WL.nil ?_
            first | ((have hpf := hn0); refine Kloop.nextP (1, V ++ W, h, a9, cap9) ?_ ?_ ⟨(by first | exact same rfl | exact ⟨_, rfl, rfl, fun _ => trivial⟩), (by first | exact same rfl | exact same (by rw [← w64_nat (k := k) (by omega)]; rfl)), trivial⟩ ⟨same rfl, same rfl, same rfl, same rfl, same rfl, same rfl, trivial⟩ (.cons (s := 1051) rfl (by first | exact CLe.refl _ _ | exact CLe.mit) rfl (.cons (s := 1052) rfl (by first | exact CLe.refl _ _ | exact CLe.mit) rfl (.cons (s := 8) rfl (CLe.refl _ _) rfl (.cons (s := 4) rfl (CLe.refl _ _) rfl (.cons (s := 5) rfl (CLe.refl _ _) rfl (.cons (s := 6) rfl (CLe.refl _ _) rfl (.cons (s := 34) rfl (CLe.refl _ _) rfl (.cons (s := 1060) rfl (CLe.refl _ _) rfl .nil)))))))); (· (exact ⟨by (try dsimp only); omega, hn0, hh2⟩)); (· ((try dsimp only) <;> omega))) | ((have hpf := hn1); refine Kloop.nextP (2, V ++ W, h, a9, cap9) ?_ ?_ ⟨(by first | exact same rfl | exact ⟨_, rfl, rfl, fun _ => trivial⟩), (by first | exact same rfl | exact same (by rw [← w64_nat (k := k) (by omega)]; rfl)), trivial⟩ ⟨same rfl, same rfl, same rfl, same rfl, same rfl, same rfl, trivial⟩ (.cons (s := 1051) rfl (by first | exact CLe.refl _ _ | exact CLe.mit) rfl (.cons (s := 1052) rfl (by first | exact CLe.refl _ _ | exact CLe.mit) rfl (.cons (s := 8) rfl (CLe.refl _ _) rfl (.cons (s := 4) rfl (CLe.refl _ _) rfl (.cons (s := 5) rfl (CLe.refl _ _) rfl (.cons (s := 6) rfl (CLe.refl _ _) rfl (.cons (s := 34) rfl (CLe.refl _ _) rfl (.cons (s := 1060) rfl (CLe.refl _ _) rfl .nil)))))))); (· (exact ⟨by (try dsimp only); omega, hn1, hh2⟩)); (· ((try dsimp only) <;> omega)))
          · skip
            have hin : (nk, nv) ∈ tblKV s.U := hperm0.mem_iff.1 (List.mem_append_right _ (hperm.mem_iff.2 (by simp)))
            obtain ⟨rfl, hnv⟩ := kv_snd hin
            have hp2 : (tblKV (W ++ [nv]) ++ Lr2).Perm (tblKV s.U) := by
              rw [tblKV_snoc, List.append_assoc]
              exact (List.Perm.append_left _ hperm.symm).trans hperm0
            have hl2 : (W ++ [nv]).length ≤ 1000 := by
              have h1 := hp2.length_eq
              have h2 : (tblKV s.U).length ≤ 1000 := by simp only [List.length_map]; first | exact hs.lt | exact hs.lu
              simp only [List.length_append, List.length_map, List.length_singleton] at h1 h2 ⊢
              omega
            have hmu : Lr2.length < Lr.length := by have := hperm.length_eq; simp only [List.length_cons] at this; omega
            have ev : hereF dst (V ++ (W ++ [nv])) = hstep dst (hereF dst (V ++ W)) nv := by rw [← List.append_assoc, hereF_snoc]
            refine WL.yes (by rfl) (Ex.q (q_extract3 (by rfl) (by rfl)) (by rfl) ?_)
            refine WL.nil ?_
            (repeat refine J.seq ?_)
            refine J.condT (by rfl) ?_
            (repeat refine J.seq ?_)
            refine J.skip ?_
            (repeat refine J.seq ?_)
            refine J.block ?_
            (repeat refine J.seq ?_)
            refine J.region ?_
            refine WL.yes (by rfl) (Ex.h (h_entry (e := prE) (f := enE) (k := nv.p) (v := nv) (by rfl) (by rfl)) (by rfl) ?_)
            first | (refine WL.yes (by rfl) (Ex.q (q_extract2 (by rfl) (by rfl)) (by rfl) ?_)) | (refine WL.yes (by rfl) (Ex.q (q_extract3 (by rfl) (by rfl)) (by rfl) ?_))
            refine WL.yes (by rfl) (Ex.alloc (by rfl) ?_)
            intro b12
            first | (refine WL.yes (by rfl) (Ex.store (by rfl) (by rfl) (by rfl) (by rfl) (by rfl) (by rfl) ?_)) | (refine WL.yes (by rfl) (Ex.store_pel (by rfl) (by rfl) (by rfl) (by rfl) (by rfl) ?_ (by rfl) ?_); (· (omega)))
            refine WL.nil ?_
            (repeat refine J.seq ?_)
            refine J.region ?_
            first | (refine WL.yes (by rfl) (Ex.q (q_fieldAddr (by rfl)) (by rfl) ?_)) | (refine WL.yes (by rfl) (Ex.q (q_fieldAddr_rop (by rfl) (by rfl)) (by rfl) ?_)) | (refine WL.yes (by rfl) (Ex.q (q_fieldAddr_pel (by rfl)) (by rfl) ?_))
            first | (refine WL.yes (by rfl) (Ex.q (q_fieldAddr (by rfl)) (by rfl) ?_)) | (refine WL.yes (by rfl) (Ex.q (q_fieldAddr_rop (by rfl) (by rfl)) (by rfl) ?_)) | (refine WL.yes (by rfl) (Ex.q (q_fieldAddr_pel (by rfl)) (by rfl) ?_))
            first | (refine WL.yes (by rfl) (Ex.h (h_load (by rfl) (by rfl) (by rfl)) (by rfl) ?_)) | (refine WL.yes (by rfl) (Ex.q (q_load (by rfl) (by rfl) (by rfl)) (by rfl) ?_)) | (refine WL.yes (by rfl) (Ex.q (q_load_rop (by rfl) (by rfl)) (by rfl) ?_)) | (refine WL.yes (by rfl) (Ex.h (h_load_pel (by rfl) (by rfl) ?_ (by rfl)) (by rfl) ?_); (· (omega))) | (refine WL.yes (by rfl) (Ex.q (q_load_pel (by rfl) (by rfl) ?_ (by rfl)) (by rfl) ?_); (· (omega)))
            refine WL.yes (by rfl) (Ex.alloc (by rfl) ?_)
            intro b13
            first | (refine WL.yes (by rfl) (Ex.store (by rfl) (by rfl) (by rfl) (by rfl) (by rfl) (by rfl) ?_)) | (refine WL.yes (by rfl) (Ex.store_pel (by rfl) (by rfl) (by rfl) (by rfl) (by rfl) ?_ (by rfl) ?_); (· (omega)))
            refine WL.nil ?_
            (repeat refine J.seq ?_)
            refine J.draw [5, 13] 9999 [(0, true), (2, true), (1, false), (3, false), (4, true), (5, true), (6, true), (7, true), (8, false), (9, true), (10, true)] (by kernel_rfl) rfl (by kernel_rfl) ?_
            intro F7 hF7
            first | (refine WS.take rfl (by rfl) (by rfl) (q_load (by rfl) (by rfl) (by rfl)) ?_) | (refine WS.take rfl (by rfl) (by rfl) (q_load_rop (by rfl) (by rfl)) ?_) | (refine WS.take rfl (by rfl) (by rfl) (q_load_pel (by rfl) (by rfl) ?_ (by rfl)) ?_; (· (omega)))
            first | (refine WS.take rfl (by rfl) (by rfl) (q_load (by rfl) (by rfl) (by rfl)) ?_) | (refine WS.take rfl (by rfl) (by rfl) (q_load_rop (by rfl) (by rfl)) ?_) | (refine WS.take rfl (by rfl) (by rfl) (q_load_pel (by rfl) (by rfl) ?_ (by rfl)) ?_; (· (omega)))
            refine WS.ex rfl (by rfl) (Ex.callq (famP_spec _ _) (by rfl) (by rfl) rfl (fun _ h => h) ?_)
            refine WS.ex rfl (by rfl) (Ex.callq (fam_spec _) (by rfl) (by rfl) rfl (fun _ h => h) ?_)
            first | (refine WS.take rfl (by rfl) (by rfl) (q_int (by rfl) (by rfl) (by rfl)) ?_) | (refine WS.take rfl (by rfl) (by rfl) (q_neb (by rfl) (by rfl)) ?_) | (refine WS.take rfl (by rfl) (by rfl) (q_nep rfl rfl (by rfl) (by rfl) ?_) ?_; (· (rfl))) | (refine WS.take rfl (by rfl) (by rfl) (q_eqs (by rfl) (by rfl)) ?_)
            refine WS.take rfl (by rfl) (by rfl) (q_move (by rfl)) ?_
            refine WS.split 54 (by rfl) (fun g54 => ?_) (fun g54 => ?_)
            · skip
              (first | have eg54 := of_decide_eq_true g54 | have eg54 := of_decide_eq_false g54 | have eg54 := ndec_t g54 | have eg54 := ndec_f g54 | skip)
              have hf : decide (famP nv.p.d.a nv.p.d.n = famA dst) = false := by simpa using g54
              have hcand : cand dst nv = false := by unfold cand; rw [hf]; rfl
              refine WS.takeNo rfl (by rfl) (by rfl) ?_
              refine WS.takeNo rfl (by rfl) (by rfl) ?_
              refine WS.takeNo rfl (by rfl) (by rfl) ?_
              refine WS.takeNo rfl (by rfl) (by rfl) ?_
              refine WS.take rfl (by rfl) (by rfl) (q_pick_t (by rfl) (by rfl)) ?_
              refine WS.nil ?_
              (repeat refine J.seq ?_)
              refine J.condT (by rfl) ?_
              (repeat refine J.seq ?_)
              refine J.exit ?_
              first | (refine Kloop.nextP ((Lr2, W ++ [nv], h, a9, cap9)) ?_ ?_ ⟨(by first | exact same rfl | exact ⟨_, rfl, rfl, fun _ => trivial⟩), trivial⟩ ⟨same rfl, same rfl, same rfl, same rfl, same rfl, same rfl, same rfl, same rfl, trivial⟩ (.cons (s := 1052) rfl CLe.mitcur rfl (.cons (s := 8) rfl (CLe.refl _ _) rfl (.cons (s := 4) rfl (CLe.refl _ _) rfl (.cons (s := 5) rfl (CLe.refl _ _) rfl (.cons (s := 6) rfl (CLe.refl _ _) rfl (.cons (s := 34) rfl (CLe.refl _ _) rfl (.cons (s := 1051) rfl (CLe.refl _ _) rfl (.cons (s := 1060) rfl (CLe.refl _ _) rfl .nil)))))))); (· (exact ⟨hp2, hl2, by rw [ev, ← hh2]; exact (hs_no hcand).symm⟩)); (· (exact hmu))) | ((have hif := hstep_cand (h := h) hcand; rw [← hm, if_pos (by first | exact .inl h0 | exact .inr heq)] at hif); refine Kloop.nextP ((Lr2, W ++ [nv], h1 ++ [nv], a91, cap91)) ?_ ?_ ⟨⟨_, rfl, by cases a91 <;> rfl, fun _ => trivial⟩, trivial⟩ ⟨same rfl, same rfl, same rfl, same rfl, same rfl, same rfl, same rfl, same rfl, trivial⟩ (.cons (s := 1052) rfl CLe.mitcur rfl (.cons (s := 91) rfl (CLe.refl _ _) rfl (.cons (s := 4) rfl (CLe.refl _ _) rfl (.cons (s := 5) rfl (CLe.refl _ _) rfl (.cons (s := 6) rfl (CLe.refl _ _) rfl (.cons (s := 34) rfl (CLe.refl _ _) rfl (.cons (s := 1051) rfl (CLe.refl _ _) rfl (.cons (s := 1060) rfl (CLe.refl _ _) rfl .nil)))))))); (· (exact ⟨hp2, hl2, by rw [ev, ← hh2, hif]⟩)); (· (exact hmu))) | ((have hif := hstep_cand (h := h) hcand; rw [← hm, if_neg (by rintro (x | x); (· exact h0 x); (· exact heq x))] at hif); refine Kloop.nextP ((Lr2, W ++ [nv], h1, _, cap10)) ?_ ?_ ⟨(by first | exact same rfl | exact ⟨_, rfl, rfl, fun _ => trivial⟩), trivial⟩ ⟨same rfl, same rfl, same rfl, same rfl, same rfl, same rfl, same rfl, same rfl, trivial⟩ (.cons (s := 1052) rfl CLe.mitcur rfl (.cons (s := 8) rfl (CLe.refl _ _) rfl (.cons (s := 4) rfl (CLe.refl _ _) rfl (.cons (s := 5) rfl (CLe.refl _ _) rfl (.cons (s := 6) rfl (CLe.refl _ _) rfl (.cons (s := 34) rfl (CLe.refl _ _) rfl (.cons (s := 1051) rfl (CLe.refl _ _) rfl (.cons (s := 1060) rfl (CLe.refl _ _) rfl .nil)))))))); (· (exact ⟨hp2, hl2, by rw [ev, ← hh2, hif]⟩)); (· (exact hmu)))
            · skip
              (first | have eg54 := of_decide_eq_true g54 | have eg54 := of_decide_eq_false g54 | have eg54 := ndec_t g54 | have eg54 := ndec_f g54 | skip)
              have hf : decide (famP nv.p.d.a nv.p.d.n = famA dst) = true := by simpa using g54
              first | (refine WS.take rfl (by rfl) (by rfl) (q_load (by rfl) (by rfl) (by rfl)) ?_) | (refine WS.take rfl (by rfl) (by rfl) (q_load_rop (by rfl) (by rfl)) ?_) | (refine WS.take rfl (by rfl) (by rfl) (q_load_pel (by rfl) (by rfl) ?_ (by rfl)) ?_; (· (omega)))
              first | (refine WS.take rfl (by rfl) (by rfl) (q_load (by rfl) (by rfl) (by rfl)) ?_) | (refine WS.take rfl (by rfl) (by rfl) (q_load_rop (by rfl) (by rfl)) ?_) | (refine WS.take rfl (by rfl) (by rfl) (q_load_pel (by rfl) (by rfl) ?_ (by rfl)) ?_; (· (omega)))
              refine WS.ex rfl (by rfl) (Ex.callq (contains_spec _ _ _) (by rfl) (by rfl) rfl (fun _ h => h) ?_)
              refine WS.take rfl (by rfl) (by rfl) (q_not (by rfl)) ?_
              refine WS.take rfl (by rfl) (by rfl) (q_pick_f (by rfl) (by rfl)) ?_
              refine WS.nil ?_
              (repeat refine J.seq ?_)
              refine J.cond (by rfl) (fun c59 => ?_) (fun c59 => ?_)
              · skip
                (first | have e59 := of_decide_eq_true c59 | have e59 := of_decide_eq_false c59 | have e59 := ndec_t c59 | have e59 := ndec_f c59 | skip)
                (have hcand : cand dst nv = false := by unfold cand; rw [hf]; simpa using c59)
                (repeat refine J.seq ?_)
                refine J.exit ?_
                first | (refine Kloop.nextP ((Lr2, W ++ [nv], h, a9, cap9)) ?_ ?_ ⟨(by first | exact same rfl | exact ⟨_, rfl, rfl, fun _ => trivial⟩), trivial⟩ ⟨same rfl, same rfl, same rfl, same rfl, same rfl, same rfl, same rfl, same rfl, trivial⟩ (.cons (s := 1052) rfl CLe.mitcur rfl (.cons (s := 8) rfl (CLe.refl _ _) rfl (.cons (s := 4) rfl (CLe.refl _ _) rfl (.cons (s := 5) rfl (CLe.refl _ _) rfl (.cons (s := 6) rfl (CLe.refl _ _) rfl (.cons (s := 34) rfl (CLe.refl _ _) rfl (.cons (s := 1051) rfl (CLe.refl _ _) rfl (.cons (s := 1060) rfl (CLe.refl _ _) rfl .nil)))))))); (· (exact ⟨hp2, hl2, by rw [ev, ← hh2]; exact (hs_no hcand).symm⟩)); (· (exact hmu))) | ((have hif := hstep_cand (h := h) hcand; rw [← hm, if_pos (by first | exact .inl h0 | exact .inr heq)] at hif); refine Kloop.nextP ((Lr2, W ++ [nv], h1 ++ [nv], a91, cap91)) ?_ ?_ ⟨⟨_, rfl, by cases a91 <;> rfl, fun _ => trivial⟩, trivial⟩ ⟨same rfl, same rfl, same rfl, same rfl, same rfl, same rfl, same rfl, same rfl, trivial⟩ (.cons (s := 1052) rfl CLe.mitcur rfl (.cons (s := 91) rfl (CLe.refl _ _) rfl (.cons (s := 4) rfl (CLe.refl _ _) rfl (.cons (s := 5) rfl (CLe.refl _ _) rfl (.cons (s := 6) rfl (CLe.refl _ _) rfl (.cons (s := 34) rfl (CLe.refl _ _) rfl (.cons (s := 1051) rfl (CLe.refl _ _) rfl (.cons (s := 1060) rfl (CLe.refl _ _) rfl .nil)))))))); (· (exact ⟨hp2, hl2, by rw [ev, ← hh2, hif]⟩)); (· (exact hmu))) | ((have hif := hstep_cand (h := h) hcand; rw [← hm, if_neg (by rintro (x | x); (· exact h0 x); (· exact heq x))] at hif); refine Kloop.nextP ((Lr2, W ++ [nv], h1, _, cap10)) ?_ ?_ ⟨(by first | exact same rfl | exact ⟨_, rfl, rfl, fun _ => trivial⟩), trivial⟩ ⟨same rfl, same rfl, same rfl, same rfl, same rfl, same rfl, same rfl, same rfl, trivial⟩ (.cons (s := 1052) rfl CLe.mitcur rfl (.cons (s := 8) rfl (CLe.refl _ _) rfl (.cons (s := 4) rfl (CLe.refl _ _) rfl (.cons (s := 5) rfl (CLe.refl _ _) rfl (.cons (s := 6) rfl (CLe.refl _ _) rfl (.cons (s := 34) rfl (CLe.refl _ _) rfl (.cons (s := 1051) rfl (CLe.refl _ _) rfl (.cons (s := 1060) rfl (CLe.refl _ _) rfl .nil)))))))); (· (exact ⟨hp2, hl2, by rw [ev, ← hh2, hif]⟩)); (· (exact hmu)))
              · skip
                (first | have e59 := of_decide_eq_true c59 | have e59 := of_decide_eq_false c59 | have e59 := ndec_t c59 | have e59 := ndec_f c59 | skip)
                have hcand : cand dst nv = true := by unfold cand; rw [hf]; simpa using c59
                (repeat refine J.seq ?_)
                refine J.skip ?_
                (repeat refine J.seq ?_)
                refine J.draw [8, 12, 13] 9999 [(0, true), (1, true), (2, true), (3, true), (4, true), (5, true), (6, true), (7, true), (8, true), (9, true), (10, true), (11, true), (12, true), (13, true)] (by kernel_rfl) rfl (by kernel_rfl) ?_
                intro F8 hF8
                refine WS.take rfl (by rfl) (by rfl) (q_move (by rfl)) ?_
                first | (refine WS.take rfl (by rfl) (by rfl) (q_len_slice (by rfl) (by rfl)) ?_) | (refine WS.take rfl (by rfl) (by rfl) (q_len_string (by rfl)) ?_)
                refine WS.take rfl (by rfl) (by rfl) (q_int (by rfl) (by rfl) (by rfl)) ?_
                refine WS.take rfl (by rfl) (by rfl) (q_move (by rfl)) ?_
                refine WS.split 63 (by rfl) (fun g63 => ?_) (fun g63 => ?_)
                · skip
                  (first | have eg63 := of_decide_eq_true g63 | have eg63 := of_decide_eq_false g63 | have eg63 := ndec_t g63 | have eg63 := ndec_f g63 | skip)
                  first | (refine WS.take rfl (by rfl) (by rfl) (q_fieldAddr (by rfl)) ?_) | (refine WS.take rfl (by rfl) (by rfl) (q_fieldAddr_rop (by rfl) (by rfl)) ?_) | (refine WS.take rfl (by rfl) (by rfl) (q_fieldAddr_pel (by rfl)) ?_)
                  first | (refine WS.take rfl (by rfl) (by rfl) (q_load (by rfl) (by rfl) (by rfl)) ?_) | (refine WS.take rfl (by rfl) (by rfl) (q_load_rop (by rfl) (by rfl)) ?_) | (refine WS.take rfl (by rfl) (by rfl) (q_load_pel (by rfl) (by rfl) ?_ (by rfl)) ?_; (· (omega)))
                  refine WS.take rfl (by rfl) (by rfl) (q_move (by rfl)) ?_
                  refine WS.vecsome (t := 8) rfl (by omega) ?_
                  intro b8 hb8
                  subst hb8
                  first | (refine WS.take rfl (by rfl) (by rfl) (q_indexAddr_ros (by rfl) (by rfl) (by intro _; rfl) ?_ ?_) ?_; (· (omega)); (· (omega))) | (refine WS.take rfl (by rfl) (by rfl) (q_indexAddr_sl (by rfl) (by rfl) ?_ ?_) ?_; (· (omega)); (· (omega))) | (refine WS.take rfl (by rfl) (by rfl) (q_indexAddr_arr (by rfl) (by rfl) ?_ ?_) ?_; (· (omega)); (· (omega)))
                  first | (refine WS.take rfl (by rfl) (by rfl) (q_fieldAddr (by rfl)) ?_) | (refine WS.take rfl (by rfl) (by rfl) (q_fieldAddr_rop (by rfl) (by rfl)) ?_) | (refine WS.take rfl (by rfl) (by rfl) (q_fieldAddr_pel (by rfl)) ?_)
                  first | (refine WS.take rfl (by rfl) (by rfl) (q_fieldAddr (by rfl)) ?_) | (refine WS.take rfl (by rfl) (by rfl) (q_fieldAddr_rop (by rfl) (by rfl)) ?_) | (refine WS.take rfl (by rfl) (by rfl) (q_fieldAddr_pel (by rfl)) ?_)
                  first | (refine WS.take rfl (by rfl) (by rfl) (q_fieldAddr (by rfl)) ?_) | (refine WS.take rfl (by rfl) (by rfl) (q_fieldAddr_rop (by rfl) (by rfl)) ?_) | (refine WS.take rfl (by rfl) (by rfl) (q_fieldAddr_pel (by rfl)) ?_)
                  first | (refine WS.take rfl (by rfl) (by rfl) (q_load (by rfl) (by rfl) (by rfl)) ?_) | (refine WS.take rfl (by rfl) (by rfl) (q_load_rop (by rfl) (by rfl)) ?_) | (refine WS.take rfl (by rfl) (by rfl) (q_load_pel (by rfl) (by rfl) ?_ (by rfl)) ?_; (· (omega)))
                  refine WS.take rfl (by rfl) (by rfl) (q_int (by rfl) (by rfl) (by rfl)) ?_
                  refine WS.take rfl (by rfl) (by rfl) (q_pick_t (by rfl) (by rfl)) ?_
                  refine WS.nil ?_
                  (repeat refine J.seq ?_)
                  refine J.cutP (fun x : List En × Option Nat × Nat => x.1 = hmid h nv) (fun x => [(8, .sl 8 x.2.1 51 0 x.2.2 x.1.length)]) (fun x => [(8, lvec x.2.1 37 51 x.2.2 enE x.1)]) [(4, _), (5, _), (6, _), (7, _), (12, _), (13, _), (34, _), (35, _), (36, _), (41, _)] [(4, _), (5, _), (6, _), (12, _), (13, _), (34, _), (1051, _), (1052, _), (1060, _)] ⟨same rfl, same rfl, same rfl, same rfl, same rfl, same rfl, same rfl, same rfl, same rfl, same rfl, trivial⟩ (.cons (s := 4) rfl (CLe.refl _ _) rfl (.cons (s := 5) rfl (CLe.refl _ _) rfl (.cons (s := 6) rfl (CLe.refl _ _) rfl (.cons (s := 12) rfl (CLe.refl _ _) rfl (.cons (s := 13) rfl (CLe.refl _ _) rfl (.cons (s := 34) rfl (CLe.refl _ _) rfl (.cons (s := 1051) rfl (CLe.refl _ _) rfl (.cons (s := 1052) rfl (CLe.refl _ _) rfl (.cons (s := 1060) rfl (CLe.refl _ _) rfl .nil))))))))) ?_ ?_
                  · skip
                    (repeat refine J.seq ?_)
                    refine J.cond (by rfl) (fun c73 => ?_) (fun c73 => ?_)
                    · skip
                      (first | have e73 := of_decide_eq_true c73 | have e73 := of_decide_eq_false c73 | have e73 := ndec_t c73 | have e73 := ndec_f c73 | skip)
                      (repeat refine J.seq ?_)
                      refine J.region ?_
                      refine WL.yes (by rfl) (Ex.q (q_assign (by rfl)) (by rfl) ?_)
                      refine WL.nil ?_
                      first | (refine Kcut.mkP ((h, _, cap9)) ?_ ⟨(by first | exact same rfl | exact ⟨_, rfl, rfl, fun _ => trivial⟩), trivial⟩ ⟨same rfl, same rfl, same rfl, same rfl, same rfl, same rfl, same rfl, same rfl, same rfl, same rfl, trivial⟩ (.cons (s := 8) rfl (CLe.refl _ _) rfl (.cons (s := 4) rfl (CLe.refl _ _) rfl (.cons (s := 5) rfl (CLe.refl _ _) rfl (.cons (s := 6) rfl (CLe.refl _ _) rfl (.cons (s := 12) rfl (CLe.refl _ _) rfl (.cons (s := 13) rfl (CLe.refl _ _) rfl (.cons (s := 34) rfl (CLe.refl _ _) rfl (.cons (s := 1051) rfl (CLe.refl _ _) rfl (.cons (s := 1052) rfl (CLe.refl _ _) rfl (.cons (s := 1060) rfl (CLe.refl _ _) rfl .nil)))))))))); (· (unfold hmid; rw [if_neg (fun x => by first | exact e73 x.2 | omega)]))) | (refine Kcut.mkP (([], none, 0)) ?_ ⟨⟨_, rfl, rfl, fun _ => trivial⟩, trivial⟩ ⟨same rfl, same rfl, same rfl, same rfl, same rfl, same rfl, same rfl, same rfl, same rfl, same rfl, trivial⟩ (.non (.cons (s := 4) rfl (CLe.refl _ _) rfl (.cons (s := 5) rfl (CLe.refl _ _) rfl (.cons (s := 6) rfl (CLe.refl _ _) rfl (.cons (s := 12) rfl (CLe.refl _ _) rfl (.cons (s := 13) rfl (CLe.refl _ _) rfl (.cons (s := 34) rfl (CLe.refl _ _) rfl (.cons (s := 1051) rfl (CLe.refl _ _) rfl (.cons (s := 1052) rfl (CLe.refl _ _) rfl (.cons (s := 1060) rfl (CLe.refl _ _) rfl .nil)))))))))); (· (unfold hmid; rw [if_pos ⟨by omega, e73⟩])))
                    · skip
                      (first | have e73 := of_decide_eq_true c73 | have e73 := of_decide_eq_false c73 | have e73 := ndec_t c73 | have e73 := ndec_f c73 | skip)
                      (repeat refine J.seq ?_)
                      refine J.skip ?_
                      first | (refine Kcut.mkP ((h, _, cap9)) ?_ ⟨(by first | exact same rfl | exact ⟨_, rfl, rfl, fun _ => trivial⟩), trivial⟩ ⟨same rfl, same rfl, same rfl, same rfl, same rfl, same rfl, same rfl, same rfl, same rfl, same rfl, trivial⟩ (.cons (s := 8) rfl (CLe.refl _ _) rfl (.cons (s := 4) rfl (CLe.refl _ _) rfl (.cons (s := 5) rfl (CLe.refl _ _) rfl (.cons (s := 6) rfl (CLe.refl _ _) rfl (.cons (s := 12) rfl (CLe.refl _ _) rfl (.cons (s := 13) rfl (CLe.refl _ _) rfl (.cons (s := 34) rfl (CLe.refl _ _) rfl (.cons (s := 1051) rfl (CLe.refl _ _) rfl (.cons (s := 1052) rfl (CLe.refl _ _) rfl (.cons (s := 1060) rfl (CLe.refl _ _) rfl .nil)))))))))); (· (unfold hmid; rw [if_neg (fun x => by first | exact e73 x.2 | omega)]))) | (refine Kcut.mkP (([], none, 0)) ?_ ⟨⟨_, rfl, rfl, fun _ => trivial⟩, trivial⟩ ⟨same rfl, same rfl, same rfl, same rfl, same rfl, same rfl, same rfl, same rfl, same rfl, same rfl, trivial⟩ (.non (.cons (s := 4) rfl (CLe.refl _ _) rfl (.cons (s := 5) rfl (CLe.refl _ _) rfl (.cons (s := 6) rfl (CLe.refl _ _) rfl (.cons (s := 12) rfl (CLe.refl _ _) rfl (.cons (s := 13) rfl (CLe.refl _ _) rfl (.cons (s := 34) rfl (CLe.refl _ _) rfl (.cons (s := 1051) rfl (CLe.refl _ _) rfl (.cons (s := 1052) rfl (CLe.refl _ _) rfl (.cons (s := 1060) rfl (CLe.refl _ _) rfl .nil)))))))))); (· (unfold hmid; rw [if_pos ⟨by omega, e73⟩])))
                  rintro ⟨h1, a10, cap10⟩ hcut
                  (try dsimp only at hcut ⊢)
                  have hm : h1 = hmid h nv := hcut
                  have hhl1 : h1.length ≤ 3000 := by rw [hm]; unfold hmid; split; (· exact Nat.zero_le _); (· exact hhl)
                  (repeat refine J.seq ?_)
                  refine J.draw [8, 12, 13] 9999 [(0, true), (1, true), (2, true), (3, true), (4, true), (5, true), (6, true), (7, true), (8, true), (9, true), (10, true), (11, true), (12, true), (13, true)] (by kernel_rfl) rfl (by kernel_rfl) ?_
                  intro F9 hF9
                  refine WS.take rfl (by rfl) (by rfl) (q_move (by rfl)) ?_
                  first | (refine WS.take rfl (by rfl) (by rfl) (q_len_slice (by rfl) (by rfl)) ?_) | (refine WS.take rfl (by rfl) (by rfl) (q_len_string (by rfl)) ?_)
                  first | (refine WS.take rfl (by rfl) (by rfl) (q_int (by rfl) (by rfl) (by rfl)) ?_) | (refine WS.take rfl (by rfl) (by rfl) (q_eqb (by rfl) (by rfl)) ?_) | (refine WS.take rfl (by rfl) (by rfl) (q_eqp rfl rfl (by rfl) (by rfl) ?_) ?_; (· (rfl))) | (refine WS.take rfl (by rfl) (by rfl) (q_eqs (by rfl) (by rfl)) ?_)
                  refine WS.take rfl (by rfl) (by rfl) (q_move (by rfl)) ?_
                  refine WS.split 77 (by rfl) (fun g77 => ?_) (fun g77 => ?_)
                  · skip
                    (first | have eg77 := of_decide_eq_true g77 | have eg77 := of_decide_eq_false g77 | have eg77 := ndec_t g77 | have eg77 := ndec_f g77 | skip)
                    have h0 : h1.length = 0 := by omega
                    refine WS.takeNo rfl (by rfl) (by rfl) ?_
                    refine WS.takeNo rfl (by rfl) (by rfl) ?_
                    refine WS.takeNo rfl (by rfl) (by rfl) ?_
                    refine WS.takeNo rfl (by rfl) (by rfl) ?_
                    refine WS.takeNo rfl (by rfl) (by rfl) ?_
                    refine WS.takeNo rfl (by rfl) (by rfl) ?_
                    refine WS.takeNo rfl (by rfl) (by rfl) ?_
                    refine WS.takeNo rfl (by rfl) (by rfl) ?_
                    refine WS.takeNo rfl (by rfl) (by rfl) ?_
                    refine WS.take rfl (by rfl) (by rfl) (q_pick_t (by rfl) (by rfl)) ?_
                    refine WS.nil ?_
                    (repeat refine J.seq ?_)
                    refine J.condT (by rfl) ?_
                    (repeat refine J.seq ?_)
                    refine J.region ?_
                    refine WL.yes (by rfl) (Ex.q (q_move (by rfl)) (by rfl) ?_)
                    first | (refine WL.yes (by rfl) (Ex.h (h_load (by rfl) (by rfl) (by rfl)) (by rfl) ?_)) | (refine WL.yes (by rfl) (Ex.q (q_load (by rfl) (by rfl) (by rfl)) (by rfl) ?_)) | (refine WL.yes (by rfl) (Ex.q (q_load_rop (by rfl) (by rfl)) (by rfl) ?_)) | (refine WL.yes (by rfl) (Ex.h (h_load_pel (by rfl) (by rfl) ?_ (by rfl)) (by rfl) ?_); (· (omega))) | (refine WL.yes (by rfl) (Ex.q (q_load_pel (by rfl) (by rfl) ?_ (by rfl)) (by rfl) ?_); (· (omega)))
                    refine WL.yes (by rfl) (Ex.buildSlice (parts := [(0, .tmp 89)]) (us := [_]) (by rfl) (by rfl) rfl (by rfl) (by rfl) ?_)
                    intro b90
                    refine WL.yes (by rfl) (Ex.append (e := enE) (l := h1) (l' := [nv]) (by rfl) (by rfl) (by rfl) (by rfl) (Rd.lit [nv] rfl rfl rfl) ?_ ?_); (· (simp only [List.length_singleton]; omega))
                    intro a91 cap91
                    refine WL.yes (by rfl) (Ex.q (q_assign (by rfl)) (by rfl) ?_)
                    refine WL.nil ?_
                    first | (refine Kloop.nextP ((Lr2, W ++ [nv], h, a9, cap9)) ?_ ?_ ⟨(by first | exact same rfl | exact ⟨_, rfl, rfl, fun _ => trivial⟩), trivial⟩ ⟨same rfl, same rfl, same rfl, same rfl, same rfl, same rfl, same rfl, same rfl, trivial⟩ (.cons (s := 1052) rfl CLe.mitcur rfl (.cons (s := 8) rfl (CLe.refl _ _) rfl (.cons (s := 4) rfl (CLe.refl _ _) rfl (.cons (s := 5) rfl (CLe.refl _ _) rfl (.cons (s := 6) rfl (CLe.refl _ _) rfl (.cons (s := 34) rfl (CLe.refl _ _) rfl (.cons (s := 1051) rfl (CLe.refl _ _) rfl (.cons (s := 1060) rfl (CLe.refl _ _) rfl .nil)))))))); (· (exact ⟨hp2, hl2, by rw [ev, ← hh2]; exact (hs_no hcand).symm⟩)); (· (exact hmu))) | ((have hif := hstep_cand (h := h) hcand; rw [← hm, if_pos (by first | exact .inl h0 | exact .inr heq)] at hif); refine Kloop.nextP ((Lr2, W ++ [nv], h1 ++ [nv], a91, cap91)) ?_ ?_ ⟨⟨_, rfl, by cases a91 <;> rfl, fun _ => trivial⟩, trivial⟩ ⟨same rfl, same rfl, same rfl, same rfl, same rfl, same rfl, same rfl, same rfl, trivial⟩ (.cons (s := 1052) rfl CLe.mitcur rfl (.cons (s := 91) rfl (CLe.refl _ _) rfl (.cons (s := 4) rfl (CLe.refl _ _) rfl (.cons (s := 5) rfl (CLe.refl _ _) rfl (.cons (s := 6) rfl (CLe.refl _ _) rfl (.cons (s := 34) rfl (CLe.refl _ _) rfl (.cons (s := 1051) rfl (CLe.refl _ _) rfl (.cons (s := 1060) rfl (CLe.refl _ _) rfl .nil)))))))); (· (exact ⟨hp2, hl2, by rw [ev, ← hh2, hif]⟩)); (· (exact hmu))) | ((have hif := hstep_cand (h := h) hcand; rw [← hm, if_neg (by rintro (x | x); (· exact h0 x); (· exact heq x))] at hif); refine Kloop.nextP ((Lr2, W ++ [nv], h1, _, cap10)) ?_ ?_ ⟨(by first | exact same rfl | exact ⟨_, rfl, rfl, fun _ => trivial⟩), trivial⟩ ⟨same rfl, same rfl, same rfl, same rfl, same rfl, same rfl, same rfl, same rfl, trivial⟩ (.cons (s := 1052) rfl CLe.mitcur rfl (.cons (s := 8) rfl (CLe.refl _ _) rfl (.cons (s := 4) rfl (CLe.refl _ _) rfl (.cons (s := 5) rfl (CLe.refl _ _) rfl (.cons (s := 6) rfl (CLe.refl _ _) rfl (.cons (s := 34) rfl (CLe.refl _ _) rfl (.cons (s := 1051) rfl (CLe.refl _ _) rfl (.cons (s := 1060) rfl (CLe.refl _ _) rfl .nil)))))))); (· (exact ⟨hp2, hl2, by rw [ev, ← hh2, hif]⟩)); (· (exact hmu)))
                  · skip
                    (first | have eg77 := of_decide_eq_true g77 | have eg77 := of_decide_eq_false g77 | have eg77 := ndec_t g77 | have eg77 := ndec_f g77 | skip)
                    have h0 : ¬ h1.length = 0 := by omega
                    first | (refine WS.take rfl (by rfl) (by rfl) (q_fieldAddr (by rfl)) ?_) | (refine WS.take rfl (by rfl) (by rfl) (q_fieldAddr_rop (by rfl) (by rfl)) ?_) | (refine WS.take rfl (by rfl) (by rfl) (q_fieldAddr_pel (by rfl)) ?_)
                    first | (refine WS.take rfl (by rfl) (by rfl) (q_load (by rfl) (by rfl) (by rfl)) ?_) | (refine WS.take rfl (by rfl) (by rfl) (q_load_rop (by rfl) (by rfl)) ?_) | (refine WS.take rfl (by rfl) (by rfl) (q_load_pel (by rfl) (by rfl) ?_ (by rfl)) ?_; (· (omega)))
                    refine WS.take rfl (by rfl) (by rfl) (q_move (by rfl)) ?_
                    refine WS.vecsome (t := 8) rfl (by omega) ?_
                    intro b8 hb8
                    subst hb8
                    first | (refine WS.take rfl (by rfl) (by rfl) (q_indexAddr_ros (by rfl) (by rfl) (by intro _; rfl) ?_ ?_) ?_; (· (omega)); (· (omega))) | (refine WS.take rfl (by rfl) (by rfl) (q_indexAddr_sl (by rfl) (by rfl) ?_ ?_) ?_; (· (omega)); (· (omega))) | (refine WS.take rfl (by rfl) (by rfl) (q_indexAddr_arr (by rfl) (by rfl) ?_ ?_) ?_; (· (omega)); (· (omega)))
                    first | (refine WS.take rfl (by rfl) (by rfl) (q_fieldAddr (by rfl)) ?_) | (refine WS.take rfl (by rfl) (by rfl) (q_fieldAddr_rop (by rfl) (by rfl)) ?_) | (refine WS.take rfl (by rfl) (by rfl) (q_fieldAddr_pel (by rfl)) ?_)
                    first | (refine WS.take rfl (by rfl) (by rfl) (q_fieldAddr (by rfl)) ?_) | (refine WS.take rfl (by rfl) (by rfl) (q_fieldAddr_rop (by rfl) (by rfl)) ?_) | (refine WS.take rfl (by rfl) (by rfl) (q_fieldAddr_pel (by rfl)) ?_)
                    first | (refine WS.take rfl (by rfl) (by rfl) (q_fieldAddr (by rfl)) ?_) | (refine WS.take rfl (by rfl) (by rfl) (q_fieldAddr_rop (by rfl) (by rfl)) ?_) | (refine WS.take rfl (by rfl) (by rfl) (q_fieldAddr_pel (by rfl)) ?_)
                    first | (refine WS.take rfl (by rfl) (by rfl) (q_load (by rfl) (by rfl) (by rfl)) ?_) | (refine WS.take rfl (by rfl) (by rfl) (q_load_rop (by rfl) (by rfl)) ?_) | (refine WS.take rfl (by rfl) (by rfl) (q_load_pel (by rfl) (by rfl) ?_ (by rfl)) ?_; (· (omega)))
                    first | (refine WS.take rfl (by rfl) (by rfl) (q_int (by rfl) (by rfl) (by rfl)) ?_) | (refine WS.take rfl (by rfl) (by rfl) (q_eqb (by rfl) (by rfl)) ?_) | (refine WS.take rfl (by rfl) (by rfl) (q_eqp rfl rfl (by rfl) (by rfl) ?_) ?_; (· (rfl))) | (refine WS.take rfl (by rfl) (by rfl) (q_eqs (by rfl) (by rfl)) ?_)
                    refine WS.take rfl (by rfl) (by rfl) (q_pick_f (by rfl) (by rfl)) ?_
                    refine WS.nil ?_
                    (repeat refine J.seq ?_)
                    refine J.cond (by rfl) (fun c87 => ?_) (fun c87 => ?_)
                    · skip
                      (first | have e87 := of_decide_eq_true c87 | have e87 := of_decide_eq_false c87 | have e87 := ndec_t c87 | have e87 := ndec_f c87 | skip)
                      have heq : nv.p.d.n = (lat h1 0).p.d.n := e87
                      (repeat refine J.seq ?_)
                      refine J.region ?_
                      refine WL.yes (by rfl) (Ex.q (q_move (by rfl)) (by rfl) ?_)
                      first | (refine WL.yes (by rfl) (Ex.h (h_load (by rfl) (by rfl) (by rfl)) (by rfl) ?_)) | (refine WL.yes (by rfl) (Ex.q (q_load (by rfl) (by rfl) (by rfl)) (by rfl) ?_)) | (refine WL.yes (by rfl) (Ex.q (q_load_rop (by rfl) (by rfl)) (by rfl) ?_)) | (refine WL.yes (by rfl) (Ex.h (h_load_pel (by rfl) (by rfl) ?_ (by rfl)) (by rfl) ?_); (· (omega))) | (refine WL.yes (by rfl) (Ex.q (q_load_pel (by rfl) (by rfl) ?_ (by rfl)) (by rfl) ?_); (· (omega)))
                      refine WL.yes (by rfl) (Ex.buildSlice (parts := [(0, .tmp 89)]) (us := [_]) (by rfl) (by rfl) rfl (by rfl) (by rfl) ?_)
                      intro b90
                      refine WL.yes (by rfl) (Ex.append (e := enE) (l := h1) (l' := [nv]) (by rfl) (by rfl) (by rfl) (by rfl) (Rd.lit [nv] rfl rfl rfl) ?_ ?_); (· (simp only [List.length_singleton]; omega))
                      intro a91 cap91
                      refine WL.yes (by rfl) (Ex.q (q_assign (by rfl)) (by rfl) ?_)
                      refine WL.nil ?_
                      first | (refine Kloop.nextP ((Lr2, W ++ [nv], h, a9, cap9)) ?_ ?_ ⟨(by first | exact same rfl | exact ⟨_, rfl, rfl, fun _ => trivial⟩), trivial⟩ ⟨same rfl, same rfl, same rfl, same rfl, same rfl, same rfl, same rfl, same rfl, trivial⟩ (.cons (s := 1052) rfl CLe.mitcur rfl (.cons (s := 8) rfl (CLe.refl _ _) rfl (.cons (s := 4) rfl (CLe.refl _ _) rfl (.cons (s := 5) rfl (CLe.refl _ _) rfl (.cons (s := 6) rfl (CLe.refl _ _) rfl (.cons (s := 34) rfl (CLe.refl _ _) rfl (.cons (s := 1051) rfl (CLe.refl _ _) rfl (.cons (s := 1060) rfl (CLe.refl _ _) rfl .nil)))))))); (· (exact ⟨hp2, hl2, by rw [ev, ← hh2]; exact (hs_no hcand).symm⟩)); (· (exact hmu))) | ((have hif := hstep_cand (h := h) hcand; rw [← hm, if_pos (by first | exact .inl h0 | exact .inr heq)] at hif); refine Kloop.nextP ((Lr2, W ++ [nv], h1 ++ [nv], a91, cap91)) ?_ ?_ ⟨⟨_, rfl, by cases a91 <;> rfl, fun _ => trivial⟩, trivial⟩ ⟨same rfl, same rfl, same rfl, same rfl, same rfl, same rfl, same rfl, same rfl, trivial⟩ (.cons (s := 1052) rfl CLe.mitcur rfl (.cons (s := 91) rfl (CLe.refl _ _) rfl (.cons (s := 4) rfl (CLe.refl _ _) rfl (.cons (s := 5) rfl (CLe.refl _ _) rfl (.cons (s := 6) rfl (CLe.refl _ _) rfl (.cons (s := 34) rfl (CLe.refl _ _) rfl (.cons (s := 1051) rfl (CLe.refl _ _) rfl (.cons (s := 1060) rfl (CLe.refl _ _) rfl .nil)))))))); (· (exact ⟨hp2, hl2, by rw [ev, ← hh2, hif]⟩)); (· (exact hmu))) | ((have hif := hstep_cand (h := h) hcand; rw [← hm, if_neg (by rintro (x | x); (· exact h0 x); (· exact heq x))] at hif); refine Kloop.nextP ((Lr2, W ++ [nv], h1, _, cap10)) ?_ ?_ ⟨(by first | exact same rfl | exact ⟨_, rfl, rfl, fun _ => trivial⟩), trivial⟩ ⟨same rfl, same rfl, same rfl, same rfl, same rfl, same rfl, same rfl, same rfl, trivial⟩ (.cons (s := 1052) rfl CLe.mitcur rfl (.cons (s := 8) rfl (CLe.refl _ _) rfl (.cons (s := 4) rfl (CLe.refl _ _) rfl (.cons (s := 5) rfl (CLe.refl _ _) rfl (.cons (s := 6) rfl (CLe.refl _ _) rfl (.cons (s := 34) rfl (CLe.refl _ _) rfl (.cons (s := 1051) rfl (CLe.refl _ _) rfl (.cons (s := 1060) rfl (CLe.refl _ _) rfl .nil)))))))); (· (exact ⟨hp2, hl2, by rw [ev, ← hh2, hif]⟩)); (· (exact hmu)))
                    · skip
                      (first | have e87 := of_decide_eq_true c87 | have e87 := of_decide_eq_false c87 | have e87 := ndec_t c87 | have e87 := ndec_f c87 | skip)
                      have heq : ¬ nv.p.d.n = (lat h1 0).p.d.n := e87
                      (repeat refine J.seq ?_)
                      refine J.skip ?_
                      first | (refine Kloop.nextP ((Lr2, W ++ [nv], h, a9, cap9)) ?_ ?_ ⟨(by first | exact same rfl | exact ⟨_, rfl, rfl, fun _ => trivial⟩), trivial⟩ ⟨same rfl, same rfl, same rfl, same rfl, same rfl, same rfl, same rfl, same rfl, trivial⟩ (.cons (s := 1052) rfl CLe.mitcur rfl (.cons (s := 8) rfl (CLe.refl _ _) rfl (.cons (s := 4) rfl (CLe.refl _ _) rfl (.cons (s := 5) rfl (CLe.refl _ _) rfl (.cons (s := 6) rfl (CLe.refl _ _) rfl (.cons (s := 34) rfl (CLe.refl _ _) rfl (.cons (s := 1051) rfl (CLe.refl _ _) rfl (.cons (s := 1060) rfl (CLe.refl _ _) rfl .nil)))))))); (· (exact ⟨hp2, hl2, by rw [ev, ← hh2]; exact (hs_no hcand).symm⟩)); (· (exact hmu))) | ((have hif := hstep_cand (h := h) hcand; rw [← hm, if_pos (by first | exact .inl h0 | exact .inr heq)] at hif); refine Kloop.nextP ((Lr2, W ++ [nv], h1 ++ [nv], a91, cap91)) ?_ ?_ ⟨⟨_, rfl, by cases a91 <;> rfl, fun _ => trivial⟩, trivial⟩ ⟨same rfl, same rfl, same rfl, same rfl, same rfl, same rfl, same rfl, same rfl, trivial⟩ (.cons (s := 1052) rfl CLe.mitcur rfl (.cons (s := 91) rfl (CLe.refl _ _) rfl (.cons (s := 4) rfl (CLe.refl _ _) rfl (.cons (s := 5) rfl (CLe.refl _ _) rfl (.cons (s := 6) rfl (CLe.refl _ _) rfl (.cons (s := 34) rfl (CLe.refl _ _) rfl (.cons (s := 1051) rfl (CLe.refl _ _) rfl (.cons (s := 1060) rfl (CLe.refl _ _) rfl .nil)))))))); (· (exact ⟨hp2, hl2, by rw [ev, ← hh2, hif]⟩)); (· (exact hmu))) | ((have hif := hstep_cand (h := h) hcand; rw [← hm, if_neg (by rintro (x | x); (· exact h0 x); (· exact heq x))] at hif); refine Kloop.nextP ((Lr2, W ++ [nv], h1, _, cap10)) ?_ ?_ ⟨(by first | exact same rfl | exact ⟨_, rfl, rfl, fun _ => trivial⟩), trivial⟩ ⟨same rfl, same rfl, same rfl, same rfl, same rfl, same rfl, same rfl, same rfl, trivial⟩ (.cons (s := 1052) rfl CLe.mitcur rfl (.cons (s := 8) rfl (CLe.refl _ _) rfl (.cons (s := 4) rfl (CLe.refl _ _) rfl (.cons (s := 5) rfl (CLe.refl _ _) rfl (.cons (s := 6) rfl (CLe.refl _ _) rfl (.cons (s := 34) rfl (CLe.refl _ _) rfl (.cons (s := 1051) rfl (CLe.refl _ _) rfl (.cons (s := 1060) rfl (CLe.refl _ _) rfl .nil)))))))); (· (exact ⟨hp2, hl2, by rw [ev, ← hh2, hif]⟩)); (· (exact hmu)))
                · skip
                  (first | have eg63 := of_decide_eq_true g63 | have eg63 := of_decide_eq_false g63 | have eg63 := ndec_t g63 | have eg63 := ndec_f g63 | skip)
                  refine WS.takeNo rfl (by rfl) (by rfl) ?_
                  refine WS.takeNo rfl (by rfl) (by rfl) ?_
                  refine WS.takeNo rfl (by rfl) (by rfl) ?_
                  refine WS.takeNo rfl (by rfl) (by rfl) ?_
                  refine WS.takeNo rfl (by rfl) (by rfl) ?_
                  refine WS.takeNo rfl (by rfl) (by rfl) ?_
                  refine WS.takeNo rfl (by rfl) (by rfl) ?_
                  refine WS.takeNo rfl (by rfl) (by rfl) ?_
                  refine WS.takeNo rfl (by rfl) (by rfl) ?_
                  refine WS.take rfl (by rfl) (by rfl) (q_pick_f (by rfl) (by rfl)) ?_
                  refine WS.nil ?_
                  (repeat refine J.seq ?_)
                  refine J.cutP (fun x : List En × Option Nat × Nat => x.1 = hmid h nv) (fun x => [(8, .sl 8 x.2.1 51 0 x.2.2 x.1.length)]) (fun x => [(8, lvec x.2.1 37 51 x.2.2 enE x.1)]) [(4, _), (5, _), (6, _), (7, _), (12, _), (13, _), (34, _), (35, _), (36, _), (41, _)] [(4, _), (5, _), (6, _), (12, _), (13, _), (34, _), (1051, _), (1052, _), (1060, _)] ⟨same rfl, same rfl, same rfl, same rfl, same rfl, same rfl, same rfl, same rfl, same rfl, same rfl, trivial⟩ (.cons (s := 4) rfl (CLe.refl _ _) rfl (.cons (s := 5) rfl (CLe.refl _ _) rfl (.cons (s := 6) rfl (CLe.refl _ _) rfl (.cons (s := 12) rfl (CLe.refl _ _) rfl (.cons (s := 13) rfl (CLe.refl _ _) rfl (.cons (s := 34) rfl (CLe.refl _ _) rfl (.cons (s := 1051) rfl (CLe.refl _ _) rfl (.cons (s := 1052) rfl (CLe.refl _ _) rfl (.cons (s := 1060) rfl (CLe.refl _ _) rfl .nil))))))))) ?_ ?_
                  · skip
                    (repeat refine J.seq ?_)
                    refine J.condF (by rfl) ?_
                    (repeat refine J.seq ?_)
                    refine J.skip ?_
                    first | (refine Kcut.mkP ((h, _, cap9)) ?_ ⟨(by first | exact same rfl | exact ⟨_, rfl, rfl, fun _ => trivial⟩), trivial⟩ ⟨same rfl, same rfl, same rfl, same rfl, same rfl, same rfl, same rfl, same rfl, same rfl, same rfl, trivial⟩ (.cons (s := 8) rfl (CLe.refl _ _) rfl (.cons (s := 4) rfl (CLe.refl _ _) rfl (.cons (s := 5) rfl (CLe.refl _ _) rfl (.cons (s := 6) rfl (CLe.refl _ _) rfl (.cons (s := 12) rfl (CLe.refl _ _) rfl (.cons (s := 13) rfl (CLe.refl _ _) rfl (.cons (s := 34) rfl (CLe.refl _ _) rfl (.cons (s := 1051) rfl (CLe.refl _ _) rfl (.cons (s := 1052) rfl (CLe.refl _ _) rfl (.cons (s := 1060) rfl (CLe.refl _ _) rfl .nil)))))))))); (· (unfold hmid; rw [if_neg (fun x => by first | exact e73 x.2 | omega)]))) | (refine Kcut.mkP (([], none, 0)) ?_ ⟨⟨_, rfl, rfl, fun _ => trivial⟩, trivial⟩ ⟨same rfl, same rfl, same rfl, same rfl, same rfl, same rfl, same rfl, same rfl, same rfl, same rfl, trivial⟩ (.non (.cons (s := 4) rfl (CLe.refl _ _) rfl (.cons (s := 5) rfl (CLe.refl _ _) rfl (.cons (s := 6) rfl (CLe.refl _ _) rfl (.cons (s := 12) rfl (CLe.refl _ _) rfl (.cons (s := 13) rfl (CLe.refl _ _) rfl (.cons (s := 34) rfl (CLe.refl _ _) rfl (.cons (s := 1051) rfl (CLe.refl _ _) rfl (.cons (s := 1052) rfl (CLe.refl _ _) rfl (.cons (s := 1060) rfl (CLe.refl _ _) rfl .nil)))))))))); (· (unfold hmid; rw [if_pos ⟨by omega, e73⟩])))
                  rintro ⟨h1, a10, cap10⟩ hcut
                  (try dsimp only at hcut ⊢)
                  have hm : h1 = hmid h nv := hcut
                  have hhl1 : h1.length ≤ 3000 := by rw [hm]; unfold hmid; split; (· exact Nat.zero_le _); (· exact hhl)
                  (repeat refine J.seq ?_)
                  refine J.draw [8, 12, 13] 9999 [(0, true), (1, true), (2, true), (3, true), (4, true), (5, true), (6, true), (7, true), (8, true), (9, true), (10, true), (11, true), (12, true), (13, true)] (by kernel_rfl) rfl (by kernel_rfl) ?_
                  intro F10 hF10
                  refine WS.take rfl (by rfl) (by rfl) (q_move (by rfl)) ?_
                  first | (refine WS.take rfl (by rfl) (by rfl) (q_len_slice (by rfl) (by rfl)) ?_) | (refine WS.take rfl (by rfl) (by rfl) (q_len_string (by rfl)) ?_)
                  first | (refine WS.take rfl (by rfl) (by rfl) (q_int (by rfl) (by rfl) (by rfl)) ?_) | (refine WS.take rfl (by rfl) (by rfl) (q_eqb (by rfl) (by rfl)) ?_) | (refine WS.take rfl (by rfl) (by rfl) (q_eqp rfl rfl (by rfl) (by rfl) ?_) ?_; (· (rfl))) | (refine WS.take rfl (by rfl) (by rfl) (q_eqs (by rfl) (by rfl)) ?_)
                  refine WS.take rfl (by rfl) (by rfl) (q_move (by rfl)) ?_
                  refine WS.split 77 (by rfl) (fun g77 => ?_) (fun g77 => ?_)
                  · skip
                    (first | have eg77 := of_decide_eq_true g77 | have eg77 := of_decide_eq_false g77 | have eg77 := ndec_t g77 | have eg77 := ndec_f g77 | skip)
                    have h0 : h1.length = 0 := by omega
                    refine WS.takeNo rfl (by rfl) (by rfl) ?_
                    refine WS.takeNo rfl (by rfl) (by rfl) ?_
                    refine WS.takeNo rfl (by rfl) (by rfl) ?_
                    refine WS.takeNo rfl (by rfl) (by rfl) ?_
                    refine WS.takeNo rfl (by rfl) (by rfl) ?_
                    refine WS.takeNo rfl (by rfl) (by rfl) ?_
                    refine WS.takeNo rfl (by rfl) (by rfl) ?_
                    refine WS.takeNo rfl (by rfl) (by rfl) ?_
                    refine WS.takeNo rfl (by rfl) (by rfl) ?_
                    refine WS.take rfl (by rfl) (by rfl) (q_pick_t (by rfl) (by rfl)) ?_
                    refine WS.nil ?_
                    (repeat refine J.seq ?_)
                    refine J.condT (by rfl) ?_
                    (repeat refine J.seq ?_)
                    refine J.region ?_
                    refine WL.yes (by rfl) (Ex.q (q_move (by rfl)) (by rfl) ?_)
                    first | (refine WL.yes (by rfl) (Ex.h (h_load (by rfl) (by rfl) (by rfl)) (by rfl) ?_)) | (refine WL.yes (by rfl) (Ex.q (q_load (by rfl) (by rfl) (by rfl)) (by rfl) ?_)) | (refine WL.yes (by rfl) (Ex.q (q_load_rop (by rfl) (by rfl)) (by rfl) ?_)) | (refine WL.yes (by rfl) (Ex.h (h_load_pel (by rfl) (by rfl) ?_ (by rfl)) (by rfl) ?_); (· (omega))) | (refine WL.yes (by rfl) (Ex.q (q_load_pel (by rfl) (by rfl) ?_ (by rfl)) (by rfl) ?_); (· (omega)))
                    refine WL.yes (by rfl) (Ex.buildSlice (parts := [(0, .tmp 89)]) (us := [_]) (by rfl) (by rfl) rfl (by rfl) (by rfl) ?_)
                    intro b90
                    refine WL.yes (by rfl) (Ex.append (e := enE) (l := h1) (l' := [nv]) (by rfl) (by rfl) (by rfl) (by rfl) (Rd.lit [nv] rfl rfl rfl) ?_ ?_); (· (simp only [List.length_singleton]; omega))
                    intro a91 cap91
                    refine WL.yes (by rfl) (Ex.q (q_assign (by rfl)) (by rfl) ?_)
                    refine WL.nil ?_
                    first | (refine Kloop.nextP ((Lr2, W ++ [nv], h, a9, cap9)) ?_ ?_ ⟨(by first | exact same rfl | exact ⟨_, rfl, rfl, fun _ => trivial⟩), trivial⟩ ⟨same rfl, same rfl, same rfl, same rfl, same rfl, same rfl, same rfl, same rfl, trivial⟩ (.cons (s := 1052) rfl CLe.mitcur rfl (.cons (s := 8) rfl (CLe.refl _ _) rfl (.cons (s := 4) rfl (CLe.refl _ _) rfl (.cons (s := 5) rfl (CLe.refl _ _) rfl (.cons (s := 6) rfl (CLe.refl _ _) rfl (.cons (s := 34) rfl (CLe.refl _ _) rfl (.cons (s := 1051) rfl (CLe.refl _ _) rfl (.cons (s := 1060) rfl (CLe.refl _ _) rfl .nil)))))))); (· (exact ⟨hp2, hl2, by rw [ev, ← hh2]; exact (hs_no hcand).symm⟩)); (· (exact hmu))) | ((have hif := hstep_cand (h := h) hcand; rw [← hm, if_pos (by first | exact .inl h0 | exact .inr heq)] at hif); refine Kloop.nextP ((Lr2, W ++ [nv], h1 ++ [nv], a91, cap91)) ?_ ?_ ⟨⟨_, rfl, by cases a91 <;> rfl, fun _ => trivial⟩, trivial⟩ ⟨same rfl, same rfl, same rfl, same rfl, same rfl, same rfl, same rfl, same rfl, trivial⟩ (.cons (s := 1052) rfl CLe.mitcur rfl (.cons (s := 91) rfl (CLe.refl _ _) rfl (.cons (s := 4) rfl (CLe.refl _ _) rfl (.cons (s := 5) rfl (CLe.refl _ _) rfl (.cons (s := 6) rfl (CLe.refl _ _) rfl (.cons (s := 34) rfl (CLe.refl _ _) rfl (.cons (s := 1051) rfl (CLe.refl _ _) rfl (.cons (s := 1060) rfl (CLe.refl _ _) rfl .nil)))))))); (· (exact ⟨hp2, hl2, by rw [ev, ← hh2, hif]⟩)); (· (exact hmu))) | ((have hif := hstep_cand (h := h) hcand; rw [← hm, if_neg (by rintro (x | x); (· exact h0 x); (· exact heq x))] at hif); refine Kloop.nextP ((Lr2, W ++ [nv], h1, _, cap10)) ?_ ?_ ⟨(by first | exact same rfl | exact ⟨_, rfl, rfl, fun _ => trivial⟩), trivial⟩ ⟨same rfl, same rfl, same rfl, same rfl, same rfl, same rfl, same rfl, same rfl, trivial⟩ (.cons (s := 1052) rfl CLe.mitcur rfl (.cons (s := 8) rfl (CLe.refl _ _) rfl (.cons (s := 4) rfl (CLe.refl _ _) rfl (.cons (s := 5) rfl (CLe.refl _ _) rfl (.cons (s := 6) rfl (CLe.refl _ _) rfl (.cons (s := 34) rfl (CLe.refl _ _) rfl (.cons (s := 1051) rfl (CLe.refl _ _) rfl (.cons (s := 1060) rfl (CLe.refl _ _) rfl .nil)))))))); (· (exact ⟨hp2, hl2, by rw [ev, ← hh2, hif]⟩)); (· (exact hmu)))
                  · skip
                    (first | have eg77 := of_decide_eq_true g77 | have eg77 := of_decide_eq_false g77 | have eg77 := ndec_t g77 | have eg77 := ndec_f g77 | skip)
                    have h0 : ¬ h1.length = 0 := by omega
                    first | (refine WS.take rfl (by rfl) (by rfl) (q_fieldAddr (by rfl)) ?_) | (refine WS.take rfl (by rfl) (by rfl) (q_fieldAddr_rop (by rfl) (by rfl)) ?_) | (refine WS.take rfl (by rfl) (by rfl) (q_fieldAddr_pel (by rfl)) ?_)
                    first | (refine WS.take rfl (by rfl) (by rfl) (q_load (by rfl) (by rfl) (by rfl)) ?_) | (refine WS.take rfl (by rfl) (by rfl) (q_load_rop (by rfl) (by rfl)) ?_) | (refine WS.take rfl (by rfl) (by rfl) (q_load_pel (by rfl) (by rfl) ?_ (by rfl)) ?_; (· (omega)))
                    refine WS.take rfl (by rfl) (by rfl) (q_move (by rfl)) ?_
                    refine WS.vecsome (t := 8) rfl (by omega) ?_
                    intro b8 hb8
                    subst hb8
                    first | (refine WS.take rfl (by rfl) (by rfl) (q_indexAddr_ros (by rfl) (by rfl) (by intro _; rfl) ?_ ?_) ?_; (· (omega)); (· (omega))) | (refine WS.take rfl (by rfl) (by rfl) (q_indexAddr_sl (by rfl) (by rfl) ?_ ?_) ?_; (· (omega)); (· (omega))) | (refine WS.take rfl (by rfl) (by rfl) (q_indexAddr_arr (by rfl) (by rfl) ?_ ?_) ?_; (· (omega)); (· (omega)))
                    first | (refine WS.take rfl (by rfl) (by rfl) (q_fieldAddr (by rfl)) ?_) | (refine WS.take rfl (by rfl) (by rfl) (q_fieldAddr_rop (by rfl) (by rfl)) ?_) | (refine WS.take rfl (by rfl) (by rfl) (q_fieldAddr_pel (by rfl)) ?_)
                    first | (refine WS.take rfl (by rfl) (by rfl) (q_fieldAddr (by rfl)) ?_) | (refine WS.take rfl (by rfl) (by rfl) (q_fieldAddr_rop (by rfl) (by rfl)) ?_) | (refine WS.take rfl (by rfl) (by rfl) (q_fieldAddr_pel (by rfl)) ?_)
                    first | (refine WS.take rfl (by rfl) (by rfl) (q_fieldAddr (by rfl)) ?_) | (refine WS.take rfl (by rfl) (by rfl) (q_fieldAddr_rop (by rfl) (by rfl)) ?_) | (refine WS.take rfl (by rfl) (by rfl) (q_fieldAddr_pel (by rfl)) ?_)
                    first | (refine WS.take rfl (by rfl) (by rfl) (q_load (by rfl) (by rfl) (by rfl)) ?_) | (refine WS.take rfl (by rfl) (by rfl) (q_load_rop (by rfl) (by rfl)) ?_) | (refine WS.take rfl (by rfl) (by rfl) (q_load_pel (by rfl) (by rfl) ?_ (by rfl)) ?_; (· (omega)))
                    first | (refine WS.take rfl (by rfl) (by rfl) (q_int (by rfl) (by rfl) (by rfl)) ?_) | (refine WS.take rfl (by rfl) (by rfl) (q_eqb (by rfl) (by rfl)) ?_) | (refine WS.take rfl (by rfl) (by rfl) (q_eqp rfl rfl (by rfl) (by rfl) ?_) ?_; (· (rfl))) | (refine WS.take rfl (by rfl) (by rfl) (q_eqs (by rfl) (by rfl)) ?_)
                    refine WS.take rfl (by rfl) (by rfl) (q_pick_f (by rfl) (by rfl)) ?_
                    refine WS.nil ?_
                    (repeat refine J.seq ?_)
                    refine J.cond (by rfl) (fun c87 => ?_) (fun c87 => ?_)
                    · skip
                      (first | have e87 := of_decide_eq_true c87 | have e87 := of_decide_eq_false c87 | have e87 := ndec_t c87 | have e87 := ndec_f c87 | skip)
                      have heq : nv.p.d.n = (lat h1 0).p.d.n := e87
                      (repeat refine J.seq ?_)
                      refine J.region ?_
                      refine WL.yes (by rfl) (Ex.q (q_move (by rfl)) (by rfl) ?_)
                      first | (refine WL.yes (by rfl) (Ex.h (h_load (by rfl) (by rfl) (by rfl)) (by rfl) ?_)) | (refine WL.yes (by rfl) (Ex.q (q_load (by rfl) (by rfl) (by rfl)) (by rfl) ?_)) | (refine WL.yes (by rfl) (Ex.q (q_load_rop (by rfl) (by rfl)) (by rfl) ?_)) | (refine WL.yes (by rfl) (Ex.h (h_load_pel (by rfl) (by rfl) ?_ (by rfl)) (by rfl) ?_); (· (omega))) | (refine WL.yes (by rfl) (Ex.q (q_load_pel (by rfl) (by rfl) ?_ (by rfl)) (by rfl) ?_); (· (omega)))
                      refine WL.yes (by rfl) (Ex.buildSlice (parts := [(0, .tmp 89)]) (us := [_]) (by rfl) (by rfl) rfl (by rfl) (by rfl) ?_)
                      intro b90
                      refine WL.yes (by rfl) (Ex.append (e := enE) (l := h1) (l' := [nv]) (by rfl) (by rfl) (by rfl) (by rfl) (Rd.lit [nv] rfl rfl rfl) ?_ ?_); (· (simp only [List.length_singleton]; omega))
                      intro a91 cap91
                      refine WL.yes (by rfl) (Ex.q (q_assign (by rfl)) (by rfl) ?_)
                      refine WL.nil ?_
                      first | (refine Kloop.nextP ((Lr2, W ++ [nv], h, a9, cap9)) ?_ ?_ ⟨(by first | exact same rfl | exact ⟨_, rfl, rfl, fun _ => trivial⟩), trivial⟩ ⟨same rfl, same rfl, same rfl, same rfl, same rfl, same rfl, same rfl, same rfl, trivial⟩ (.cons (s := 1052) rfl CLe.mitcur rfl (.cons (s := 8) rfl (CLe.refl _ _) rfl (.cons (s := 4) rfl (CLe.refl _ _) rfl (.cons (s := 5) rfl (CLe.refl _ _) rfl (.cons (s := 6) rfl (CLe.refl _ _) rfl (.cons (s := 34) rfl (CLe.refl _ _) rfl (.cons (s := 1051) rfl (CLe.refl _ _) rfl (.cons (s := 1060) rfl (CLe.refl _ _) rfl .nil)))))))); (· (exact ⟨hp2, hl2, by rw [ev, ← hh2]; exact (hs_no hcand).symm⟩)); (· (exact hmu))) | ((have hif := hstep_cand (h := h) hcand; rw [← hm, if_pos (by first | exact .inl h0 | exact .inr heq)] at hif); refine Kloop.nextP ((Lr2, W ++ [nv], h1 ++ [nv], a91, cap91)) ?_ ?_ ⟨⟨_, rfl, by cases a91 <;> rfl, fun _ => trivial⟩, trivial⟩ ⟨same rfl, same rfl, same rfl, same rfl, same rfl, same rfl, same rfl, same rfl, trivial⟩ (.cons (s := 1052) rfl CLe.mitcur rfl (.cons (s := 91) rfl (CLe.refl _ _) rfl (.cons (s := 4) rfl (CLe.refl _ _) rfl (.cons (s := 5) rfl (CLe.refl _ _) rfl (.cons (s := 6) rfl (CLe.refl _ _) rfl (.cons (s := 34) rfl (CLe.refl _ _) rfl (.cons (s := 1051) rfl (CLe.refl _ _) rfl (.cons (s := 1060) rfl (CLe.refl _ _) rfl .nil)))))))); (· (exact ⟨hp2, hl2, by rw [ev, ← hh2, hif]⟩)); (· (exact hmu))) | ((have hif := hstep_cand (h := h) hcand; rw [← hm, if_neg (by rintro (x | x); (· exact h0 x); (· exact heq x))] at hif); refine Kloop.nextP ((Lr2, W ++ [nv], h1, _, cap10)) ?_ ?_ ⟨(by first | exact same rfl | exact ⟨_, rfl, rfl, fun _ => trivial⟩), trivial⟩ ⟨same rfl, same rfl, same rfl, same rfl, same rfl, same rfl, same rfl, same rfl, trivial⟩ (.cons (s := 1052) rfl CLe.mitcur rfl (.cons (s := 8) rfl (CLe.refl _ _) rfl (.cons (s := 4) rfl (CLe.refl _ _) rfl (.cons (s := 5) rfl (CLe.refl _ _) rfl (.cons (s := 6) rfl (CLe.refl _ _) rfl (.cons (s := 34) rfl (CLe.refl _ _) rfl (.cons (s := 1051) rfl (CLe.refl _ _) rfl (.cons (s := 1060) rfl (CLe.refl _ _) rfl .nil)))))))); (· (exact ⟨hp2, hl2, by rw [ev, ← hh2, hif]⟩)); (· (exact hmu)))
                    · skip
                      (first | have e87 := of_decide_eq_true c87 | have e87 := of_decide_eq_false c87 | have e87 := ndec_t c87 | have e87 := ndec_f c87 | skip)
                      have heq : ¬ nv.p.d.n = (lat h1 0).p.d.n := e87
                      (repeat refine J.seq ?_)
                      refine J.skip ?_
                      first | (refine Kloop.nextP ((Lr2, W ++ [nv], h, a9, cap9)) ?_ ?_ ⟨(by first | exact same rfl | exact ⟨_, rfl, rfl, fun _ => trivial⟩), trivial⟩ ⟨same rfl, same rfl, same rfl, same rfl, same rfl, same rfl, same rfl, same rfl, trivial⟩ (.cons (s := 1052) rfl CLe.mitcur rfl (.cons (s := 8) rfl (CLe.refl _ _) rfl (.cons (s := 4) rfl (CLe.refl _ _) rfl (.cons (s := 5) rfl (CLe.refl _ _) rfl (.cons (s := 6) rfl (CLe.refl _ _) rfl (.cons (s := 34) rfl (CLe.refl _ _) rfl (.cons (s := 1051) rfl (CLe.refl _ _) rfl (.cons (s := 1060) rfl (CLe.refl _ _) rfl .nil)))))))); (· (exact ⟨hp2, hl2, by rw [ev, ← hh2]; exact (hs_no hcand).symm⟩)); (· (exact hmu))) | ((have hif := hstep_cand (h := h) hcand; rw [← hm, if_pos (by first | exact .inl h0 | exact .inr heq)] at hif); refine Kloop.nextP ((Lr2, W ++ [nv], h1 ++ [nv], a91, cap91)) ?_ ?_ ⟨⟨_, rfl, by cases a91 <;> rfl, fun _ => trivial⟩, trivial⟩ ⟨same rfl, same rfl, same rfl, same rfl, same rfl, same rfl, same rfl, same rfl, trivial⟩ (.cons (s := 1052) rfl CLe.mitcur rfl (.cons (s := 91) rfl (CLe.refl _ _) rfl (.cons (s := 4) rfl (CLe.refl _ _) rfl (.cons (s := 5) rfl (CLe.refl _ _) rfl (.cons (s := 6) rfl (CLe.refl _ _) rfl (.cons (s := 34) rfl (CLe.refl _ _) rfl (.cons (s := 1051) rfl (CLe.refl _ _) rfl (.cons (s := 1060) rfl (CLe.refl _ _) rfl .nil)))))))); (· (exact ⟨hp2, hl2, by rw [ev, ← hh2, hif]⟩)); (· (exact hmu))) | ((have hif := hstep_cand (h := h) hcand; rw [← hm, if_neg (by rintro (x | x); (· exact h0 x); (· exact heq x))] at hif); refine Kloop.nextP ((Lr2, W ++ [nv], h1, _, cap10)) ?_ ?_ ⟨(by first | exact same rfl | exact ⟨_, rfl, rfl, fun _ => trivial⟩), trivial⟩ ⟨same rfl, same rfl, same rfl, same rfl, same rfl, same rfl, same rfl, same rfl, trivial⟩ (.cons (s := 1052) rfl CLe.mitcur rfl (.cons (s := 8) rfl (CLe.refl _ _) rfl (.cons (s := 4) rfl (CLe.refl _ _) rfl (.cons (s := 5) rfl (CLe.refl _ _) rfl (.cons (s := 6) rfl (CLe.refl _ _) rfl (.cons (s := 34) rfl (CLe.refl _ _) rfl (.cons (s := 1051) rfl (CLe.refl _ _) rfl (.cons (s := 1060) rfl (CLe.refl _ _) rfl .nil)))))))); (· (exact ⟨hp2, hl2, by rw [ev, ← hh2, hif]⟩)); (· (exact hmu)))
        · skip
          (exfalso; revert c37; simp)
      · skip
        have hV2 : V.Perm (s.T ++ s.U) := hV
        have hVl : h.length ≤ 3000 := by
          have h1 := hereF_len dst V
          have h2 := hV.length_eq
          have h3 := hs.lt
          have h4 := hs.lu
          simp [pref] at h2
          rw [← hh] at h1
          omega
        (repeat refine J.seq ?_)
        refine J.region ?_
        refine WL.yes (by rfl) (Ex.q (q_int (by rfl) (by rfl) (by rfl)) (by rfl) ?_)
        refine WL.nil ?_
        (repeat refine J.seq ?_)
        refine J.cond (by rfl) (fun c37 => ?_) (fun c37 => ?_)
        · skip
          (exfalso; revert c37; simp)
        · skip
          (first | have e37 := of_decide_eq_true c37 | have e37 := of_decide_eq_false c37 | have e37 := ndec_t c37 | have e37 := ndec_f c37 | skip)
          (repeat refine J.seq ?_)
          refine J.exit ?_
          (repeat refine J.seq ?_)
          refine J.region ?_
          refine WL.yes (by rfl) (Ex.q (q_move (by rfl)) (by rfl) ?_)
          first | (refine WL.yes (by rfl) (Ex.q (q_len_slice (by rfl) (by rfl)) (by rfl) ?_)) | (refine WL.yes (by rfl) (Ex.q (q_len_string (by rfl)) (by rfl) ?_))
          refine WL.yes (by rfl) (Ex.q (q_move (by rfl)) (by rfl) ?_)
          refine WL.nil ?_
          (repeat refine J.seq ?_)
          refine J.block ?_
          (repeat refine J.seq ?_)
          refine J.loopP (fun x : Nat => x ≤ h.length) (fun x => [(7, .bool (ksel src (h.take x)).2), (95, iV x)]) (fun x => [(6, .box b6 37 (enE (ksel src (h.take x)).1))]) (fun x => h.length - x) (0) [(4, _), (6, _), (93, _), (94, _)] [(4, _), (8, _), (34, _), (1051, _), (1052, _), (1060, _)] ⟨same rfl, same rfl, same rfl, same rfl, trivial⟩ ⟨same rfl, same rfl, trivial⟩ (.cons (s := 6) rfl (CLe.refl _ _) rfl (.cons (s := 4) rfl (CLe.refl _ _) rfl (.cons (s := 8) rfl (CLe.refl _ _) rfl (.cons (s := 34) rfl (CLe.refl _ _) rfl (.cons (s := 1051) rfl (CLe.refl _ _) rfl (.cons (s := 1052) rfl (CLe.refl _ _) rfl (.cons (s := 1060) rfl (CLe.refl _ _) rfl .nil))))))) ?_ ?_
          · ((try dsimp only) <;> omega)
          rintro j hx
          (try dsimp only at hx)
          (repeat refine J.seq ?_)
          refine J.region ?_
          refine WL.yes (by rfl) (Ex.q (q_int (by rfl) (by rfl) (by rfl)) (by rfl) ?_)
          refine WL.nil ?_
          (repeat refine J.seq ?_)
          refine J.cond (by rfl) (fun c96 => ?_) (fun c96 => ?_)
          · skip
            (first | have e96 := of_decide_eq_true c96 | have e96 := of_decide_eq_false c96 | have e96 := ndec_t c96 | have e96 := ndec_f c96 | skip)
            (repeat refine J.seq ?_)
            refine J.skip ?_
            (repeat refine J.seq ?_)
            refine J.block ?_
            (repeat refine J.seq ?_)
            have hj2 : j < h.length := by omega
            refine J.vecsome (t := 8) rfl (by omega) ?_
            intro b8 hb8
            subst hb8
            refine J.region ?_
            first | (refine WL.yes (by rfl) (Ex.q (q_indexAddr_ros (by rfl) (by rfl) (by intro _; rfl) ?_ ?_) (by rfl) ?_); (· (omega)); (· (omega))) | (refine WL.yes (by rfl) (Ex.q (q_indexAddr_sl (by rfl) (by rfl) ?_ ?_) (by rfl) ?_); (· (omega)); (· (omega))) | (refine WL.yes (by rfl) (Ex.q (q_indexAddr_arr (by rfl) (by rfl) ?_ ?_) (by rfl) ?_); (· (omega)); (· (omega)))
            first | (refine WL.yes (by rfl) (Ex.h (h_load (by rfl) (by rfl) (by rfl)) (by rfl) ?_)) | (refine WL.yes (by rfl) (Ex.q (q_load (by rfl) (by rfl) (by rfl)) (by rfl) ?_)) | (refine WL.yes (by rfl) (Ex.q (q_load_rop (by rfl) (by rfl)) (by rfl) ?_)) | (refine WL.yes (by rfl) (Ex.h (h_load_pel (by rfl) (by rfl) ?_ (by rfl)) (by rfl) ?_); (· (omega))) | (refine WL.yes (by rfl) (Ex.q (q_load_pel (by rfl) (by rfl) ?_ (by rfl)) (by rfl) ?_); (· (omega)))
            refine WL.set 98 (enE (lat h j)) (by rfl) (by rw [Nat.zero_add, Int.toNat_natCast]) ?_
            refine WL.yes (by rfl) (Ex.alloc (by rfl) ?_)
            intro b15
            first | (refine WL.yes (by rfl) (Ex.store (by rfl) (by rfl) (by rfl) (by rfl) (by rfl) (by rfl) ?_)) | (refine WL.yes (by rfl) (Ex.store_pel (by rfl) (by rfl) (by rfl) (by rfl) (by rfl) ?_ (by rfl) ?_); (· (omega)))
            refine WL.nil ?_
            (repeat refine J.seq ?_)
            refine J.region ?_
            first | (refine WL.yes (by rfl) (Ex.q (q_fieldAddr (by rfl)) (by rfl) ?_)) | (refine WL.yes (by rfl) (Ex.q (q_fieldAddr_rop (by rfl) (by rfl)) (by rfl) ?_)) | (refine WL.yes (by rfl) (Ex.q (q_fieldAddr_pel (by rfl)) (by rfl) ?_))
            first | (refine WL.yes (by rfl) (Ex.q (q_fieldAddr (by rfl)) (by rfl) ?_)) | (refine WL.yes (by rfl) (Ex.q (q_fieldAddr_rop (by rfl) (by rfl)) (by rfl) ?_)) | (refine WL.yes (by rfl) (Ex.q (q_fieldAddr_pel (by rfl)) (by rfl) ?_))
            first | (refine WL.yes (by rfl) (Ex.h (h_load (by rfl) (by rfl) (by rfl)) (by rfl) ?_)) | (refine WL.yes (by rfl) (Ex.q (q_load (by rfl) (by rfl) (by rfl)) (by rfl) ?_)) | (refine WL.yes (by rfl) (Ex.q (q_load_rop (by rfl) (by rfl)) (by rfl) ?_)) | (refine WL.yes (by rfl) (Ex.h (h_load_pel (by rfl) (by rfl) ?_ (by rfl)) (by rfl) ?_); (· (omega))) | (refine WL.yes (by rfl) (Ex.q (q_load_pel (by rfl) (by rfl) ?_ (by rfl)) (by rfl) ?_); (· (omega)))
            first | (refine WL.yes (by rfl) (Ex.h (h_load (by rfl) (by rfl) (by rfl)) (by rfl) ?_)) | (refine WL.yes (by rfl) (Ex.q (q_load (by rfl) (by rfl) (by rfl)) (by rfl) ?_)) | (refine WL.yes (by rfl) (Ex.q (q_load_rop (by rfl) (by rfl)) (by rfl) ?_)) | (refine WL.yes (by rfl) (Ex.h (h_load_pel (by rfl) (by rfl) ?_ (by rfl)) (by rfl) ?_); (· (omega))) | (refine WL.yes (by rfl) (Ex.q (q_load_pel (by rfl) (by rfl) ?_ (by rfl)) (by rfl) ?_); (· (omega)))
            refine WL.yes (by rfl) (Ex.callq (contains_spec _ _ _) (by rfl) (by rfl) rfl (fun _ h => h) ?_)
            refine WL.yes (by rfl) (Ex.q (q_move (by rfl)) (by rfl) ?_)
            refine WL.split 104 (by rfl) (fun g104 => ?_) (fun g104 => ?_)
            · skip
              (first | have eg104 := of_decide_eq_true g104 | have eg104 := of_decide_eq_false g104 | have eg104 := ndec_t g104 | have eg104 := ndec_f g104 | skip)
              have k1 : contains (lat h j).p.s.a (lat h j).p.s.n src = true := g104
              refine WL.yes (by rfl) (Ex.q (q_move (by rfl)) (by rfl) ?_)
              refine WL.yes (by rfl) (Ex.q (q_not (by rfl)) (by rfl) ?_)
              refine WL.yes (by rfl) (Ex.q (q_move (by rfl)) (by rfl) ?_)
              refine WL.split 107 (by rfl) (fun g107 => ?_) (fun g107 => ?_)
              · skip
                (first | have eg107 := of_decide_eq_true g107 | have eg107 := of_decide_eq_false g107 | have eg107 := ndec_t g107 | have eg107 := ndec_f g107 | skip)
                have k2 : (ksel src (h.take j)).2 = false := by simpa using g107
                refine WL.no (by rfl) (by rfl) ?_
                refine WL.no (by rfl) (by rfl) ?_
                refine WL.no (by rfl) (by rfl) ?_
                refine WL.no (by rfl) (by rfl) ?_
                refine WL.no (by rfl) (by rfl) ?_
                refine WL.no (by rfl) (by rfl) ?_
                refine WL.no (by rfl) (by rfl) ?_
                refine WL.no (by rfl) (by rfl) ?_
                refine WL.no (by rfl) (by rfl) ?_
                refine WL.yes (by rfl) (Ex.q (q_pick_t (by rfl) (by rfl)) (by rfl) ?_)
                refine WL.yes (by rfl) (Ex.q (q_pick_t (by rfl) (by rfl)) (by rfl) ?_)
                refine WL.nil ?_
                (repeat refine J.seq ?_)
                refine J.condT (by rfl) ?_
                (repeat refine J.seq ?_)
                refine J.region ?_
                first | (refine WL.yes (by rfl) (Ex.h (h_load (by rfl) (by rfl) (by rfl)) (by rfl) ?_)) | (refine WL.yes (by rfl) (Ex.q (q_load (by rfl) (by rfl) (by rfl)) (by rfl) ?_)) | (refine WL.yes (by rfl) (Ex.q (q_load_rop (by rfl) (by rfl)) (by rfl) ?_)) | (refine WL.yes (by rfl) (Ex.h (h_load_pel (by rfl) (by rfl) ?_ (by rfl)) (by rfl) ?_); (· (omega))) | (refine WL.yes (by rfl) (Ex.q (q_load_pel (by rfl) (by rfl) ?_ (by rfl)) (by rfl) ?_); (· (omega)))
                first | (refine WL.yes (by rfl) (Ex.store (by rfl) (by rfl) (by rfl) (by rfl) (by rfl) (by rfl) ?_)) | (refine WL.yes (by rfl) (Ex.store_pel (by rfl) (by rfl) (by rfl) (by rfl) (by rfl) ?_ (by rfl) ?_); (· (omega)))
                refine WL.yes (by rfl) (Ex.q (q_assign (by rfl)) (by rfl) ?_)
                refine WL.nil ?_
                (repeat refine J.seq ?_)
                refine J.region ?_
                refine WL.yes (by rfl) (Ex.q (q_int (by rfl) (by rfl) (by rfl)) (by rfl) ?_)
                refine WL.yes (by rfl) (Ex.q (q_move (by rfl)) (by rfl) ?_)
                refine WL.nil ?_
                first | ((have hst : kstep src (ksel src (h.take j)) (lat h j) = (lat h j, true) := by unfold kstep; rw [if_pos ⟨k1, by first | exact .inl k2 | exact .inr k3⟩]); (have hks := ksel_step (src := src) hj2); (rw [hst] at hks); refine Kloop.nextP (j + 1) ?_ ?_ ⟨(same (by rw [hks]; rfl)), same (by rw [← w64_nat (k := j) (by omega)]; rfl), trivial⟩ ⟨same rfl, same rfl, same rfl, same rfl, trivial⟩ (.cons (s := 6) rfl (by rw [hks]; exact CLe.box rfl) rfl (.cons (s := 4) rfl (CLe.refl _ _) rfl (.cons (s := 8) rfl (CLe.refl _ _) rfl (.cons (s := 34) rfl (CLe.refl _ _) rfl (.cons (s := 1051) rfl (CLe.refl _ _) rfl (.cons (s := 1052) rfl (CLe.refl _ _) rfl (.cons (s := 1060) rfl (CLe.refl _ _) rfl .nil))))))); (· ((try dsimp only) <;> omega)); (· ((try dsimp only) <;> omega))) | ((have hst : kstep src (ksel src (h.take j)) (lat h j) = ksel src (h.take j) := by unfold kstep; rw [if_neg (by rintro ⟨x1, x2⟩; first | exact k1 x1 | exact x2.elim (fun x => by rw [k2] at x; cases x) k3)]); (have hks := ksel_step (src := src) hj2); (rw [hst] at hks); refine Kloop.nextP (j + 1) ?_ ?_ ⟨(same (by rw [hks]; rfl)), same (by rw [← w64_nat (k := j) (by omega)]; rfl), trivial⟩ ⟨same rfl, same rfl, same rfl, same rfl, trivial⟩ (.cons (s := 6) rfl (by rw [hks]; exact CLe.refl _ _) rfl (.cons (s := 4) rfl (CLe.refl _ _) rfl (.cons (s := 8) rfl (CLe.refl _ _) rfl (.cons (s := 34) rfl (CLe.refl _ _) rfl (.cons (s := 1051) rfl (CLe.refl _ _) rfl (.cons (s := 1052) rfl (CLe.refl _ _) rfl (.cons (s := 1060) rfl (CLe.refl _ _) rfl .nil))))))); (· ((try dsimp only) <;> omega)); (· ((try dsimp only) <;> omega)))
              · skip
                (first | have eg107 := of_decide_eq_true g107 | have eg107 := of_decide_eq_false g107 | have eg107 := ndec_t g107 | have eg107 := ndec_f g107 | skip)
                have k2 : (ksel src (h.take j)).2 = true := by simpa using g107
                first | (refine WL.yes (by rfl) (Ex.q (q_fieldAddr (by rfl)) (by rfl) ?_)) | (refine WL.yes (by rfl) (Ex.q (q_fieldAddr_rop (by rfl) (by rfl)) (by rfl) ?_)) | (refine WL.yes (by rfl) (Ex.q (q_fieldAddr_pel (by rfl)) (by rfl) ?_))
                first | (refine WL.yes (by rfl) (Ex.q (q_fieldAddr (by rfl)) (by rfl) ?_)) | (refine WL.yes (by rfl) (Ex.q (q_fieldAddr_rop (by rfl) (by rfl)) (by rfl) ?_)) | (refine WL.yes (by rfl) (Ex.q (q_fieldAddr_pel (by rfl)) (by rfl) ?_))
                first | (refine WL.yes (by rfl) (Ex.q (q_fieldAddr (by rfl)) (by rfl) ?_)) | (refine WL.yes (by rfl) (Ex.q (q_fieldAddr_rop (by rfl) (by rfl)) (by rfl) ?_)) | (refine WL.yes (by rfl) (Ex.q (q_fieldAddr_pel (by rfl)) (by rfl) ?_))
                first | (refine WL.yes (by rfl) (Ex.h (h_load (by rfl) (by rfl) (by rfl)) (by rfl) ?_)) | (refine WL.yes (by rfl) (Ex.q (q_load (by rfl) (by rfl) (by rfl)) (by rfl) ?_)) | (refine WL.yes (by rfl) (Ex.q (q_load_rop (by rfl) (by rfl)) (by rfl) ?_)) | (refine WL.yes (by rfl) (Ex.h (h_load_pel (by rfl) (by rfl) ?_ (by rfl)) (by rfl) ?_); (· (omega))) | (refine WL.yes (by rfl) (Ex.q (q_load_pel (by rfl) (by rfl) ?_ (by rfl)) (by rfl) ?_); (· (omega)))
                first | (refine WL.yes (by rfl) (Ex.q (q_fieldAddr (by rfl)) (by rfl) ?_)) | (refine WL.yes (by rfl) (Ex.q (q_fieldAddr_rop (by rfl) (by rfl)) (by rfl) ?_)) | (refine WL.yes (by rfl) (Ex.q (q_fieldAddr_pel (by rfl)) (by rfl) ?_))
                first | (refine WL.yes (by rfl) (Ex.q (q_fieldAddr (by rfl)) (by rfl) ?_)) | (refine WL.yes (by rfl) (Ex.q (q_fieldAddr_rop (by rfl) (by rfl)) (by rfl) ?_)) | (refine WL.yes (by rfl) (Ex.q (q_fieldAddr_pel (by rfl)) (by rfl) ?_))
                first | (refine WL.yes (by rfl) (Ex.q (q_fieldAddr (by rfl)) (by rfl) ?_)) | (refine WL.yes (by rfl) (Ex.q (q_fieldAddr_rop (by rfl) (by rfl)) (by rfl) ?_)) | (refine WL.yes (by rfl) (Ex.q (q_fieldAddr_pel (by rfl)) (by rfl) ?_))
                first | (refine WL.yes (by rfl) (Ex.h (h_load (by rfl) (by rfl) (by rfl)) (by rfl) ?_)) | (refine WL.yes (by rfl) (Ex.q (q_load (by rfl) (by rfl) (by rfl)) (by rfl) ?_)) | (refine WL.yes (by rfl) (Ex.q (q_load_rop (by rfl) (by rfl)) (by rfl) ?_)) | (refine WL.yes (by rfl) (Ex.h (h_load_pel (by rfl) (by rfl) ?_ (by rfl)) (by rfl) ?_); (· (omega))) | (refine WL.yes (by rfl) (Ex.q (q_load_pel (by rfl) (by rfl) ?_ (by rfl)) (by rfl) ?_); (· (omega)))
                refine WL.yes (by rfl) (Ex.q (q_int (by rfl) (by rfl) (by rfl)) (by rfl) ?_)
                refine WL.yes (by rfl) (Ex.q (q_pick_f (by rfl) (by rfl)) (by rfl) ?_)
                refine WL.yes (by rfl) (Ex.q (q_pick_t (by rfl) (by rfl)) (by rfl) ?_)
                refine WL.nil ?_
                (repeat refine J.seq ?_)
                refine J.cond (by rfl) (fun c118 => ?_) (fun c118 => ?_)
                · skip
                  (first | have e118 := of_decide_eq_true c118 | have e118 := of_decide_eq_false c118 | have e118 := ndec_t c118 | have e118 := ndec_f c118 | skip)
                  have k3 : (ksel src (h.take j)).1.p.s.n < (lat h j).p.s.n := e118
                  (repeat refine J.seq ?_)
                  refine J.region ?_
                  first | (refine WL.yes (by rfl) (Ex.h (h_load (by rfl) (by rfl) (by rfl)) (by rfl) ?_)) | (refine WL.yes (by rfl) (Ex.q (q_load (by rfl) (by rfl) (by rfl)) (by rfl) ?_)) | (refine WL.yes (by rfl) (Ex.q (q_load_rop (by rfl) (by rfl)) (by rfl) ?_)) | (refine WL.yes (by rfl) (Ex.h (h_load_pel (by rfl) (by rfl) ?_ (by rfl)) (by rfl) ?_); (· (omega))) | (refine WL.yes (by rfl) (Ex.q (q_load_pel (by rfl) (by rfl) ?_ (by rfl)) (by rfl) ?_); (· (omega)))
                  first | (refine WL.yes (by rfl) (Ex.store (by rfl) (by rfl) (by rfl) (by rfl) (by rfl) (by rfl) ?_)) | (refine WL.yes (by rfl) (Ex.store_pel (by rfl) (by rfl) (by rfl) (by rfl) (by rfl) ?_ (by rfl) ?_); (· (omega)))
                  refine WL.yes (by rfl) (Ex.q (q_assign (by rfl)) (by rfl) ?_)
                  refine WL.nil ?_
                  (repeat refine J.seq ?_)
                  refine J.region ?_
                  refine WL.yes (by rfl) (Ex.q (q_int (by rfl) (by rfl) (by rfl)) (by rfl) ?_)
                  refine WL.yes (by rfl) (Ex.q (q_move (by rfl)) (by rfl) ?_)
                  refine WL.nil ?_
                  first | ((have hst : kstep src (ksel src (h.take j)) (lat h j) = (lat h j, true) := by unfold kstep; rw [if_pos ⟨k1, by first | exact .inl k2 | exact .inr k3⟩]); (have hks := ksel_step (src := src) hj2); (rw [hst] at hks); refine Kloop.nextP (j + 1) ?_ ?_ ⟨(same (by rw [hks]; rfl)), same (by rw [← w64_nat (k := j) (by omega)]; rfl), trivial⟩ ⟨same rfl, same rfl, same rfl, same rfl, trivial⟩ (.cons (s := 6) rfl (by rw [hks]; exact CLe.box rfl) rfl (.cons (s := 4) rfl (CLe.refl _ _) rfl (.cons (s := 8) rfl (CLe.refl _ _) rfl (.cons (s := 34) rfl (CLe.refl _ _) rfl (.cons (s := 1051) rfl (CLe.refl _ _) rfl (.cons (s := 1052) rfl (CLe.refl _ _) rfl (.cons (s := 1060) rfl (CLe.refl _ _) rfl .nil))))))); (· ((try dsimp only) <;> omega)); (· ((try dsimp only) <;> omega))) | ((have hst : kstep src (ksel src (h.take j)) (lat h j) = ksel src (h.take j) := by unfold kstep; rw [if_neg (by rintro ⟨x1, x2⟩; first | exact k1 x1 | exact x2.elim (fun x => by rw [k2] at x; cases x) k3)]); (have hks := ksel_step (src := src) hj2); (rw [hst] at hks); refine Kloop.nextP (j + 1) ?_ ?_ ⟨(same (by rw [hks]; rfl)), same (by rw [← w64_nat (k := j) (by omega)]; rfl), trivial⟩ ⟨same rfl, same rfl, same rfl, same rfl, trivial⟩ (.cons (s := 6) rfl (by rw [hks]; exact CLe.refl _ _) rfl (.cons (s := 4) rfl (CLe.refl _ _) rfl (.cons (s := 8) rfl (CLe.refl _ _) rfl (.cons (s := 34) rfl (CLe.refl _ _) rfl (.cons (s := 1051) rfl (CLe.refl _ _) rfl (.cons (s := 1052) rfl (CLe.refl _ _) rfl (.cons (s := 1060) rfl (CLe.refl _ _) rfl .nil))))))); (· ((try dsimp only) <;> omega)); (· ((try dsimp only) <;> omega)))
                · skip
                  (first | have e118 := of_decide_eq_true c118 | have e118 := of_decide_eq_false c118 | have e118 := ndec_t c118 | have e118 := ndec_f c118 | skip)
                  have k3 : ¬ (ksel src (h.take j)).1.p.s.n < (lat h j).p.s.n := e118
                  (repeat refine J.seq ?_)
                  refine J.skip ?_
                  (repeat refine J.seq ?_)
                  refine J.region ?_
                  refine WL.yes (by rfl) (Ex.q (q_int (by rfl) (by rfl) (by rfl)) (by rfl) ?_)
                  refine WL.yes (by rfl) (Ex.q (q_move (by rfl)) (by rfl) ?_)
                  refine WL.nil ?_
                  first | ((have hst : kstep src (ksel src (h.take j)) (lat h j) = (lat h j, true) := by unfold kstep; rw [if_pos ⟨k1, by first | exact .inl k2 | exact .inr k3⟩]); (have hks := ksel_step (src := src) hj2); (rw [hst] at hks); refine Kloop.nextP (j + 1) ?_ ?_ ⟨(same (by rw [hks]; rfl)), same (by rw [← w64_nat (k := j) (by omega)]; rfl), trivial⟩ ⟨same rfl, same rfl, same rfl, same rfl, trivial⟩ (.cons (s := 6) rfl (by rw [hks]; exact CLe.box rfl) rfl (.cons (s := 4) rfl (CLe.refl _ _) rfl (.cons (s := 8) rfl (CLe.refl _ _) rfl (.cons (s := 34) rfl (CLe.refl _ _) rfl (.cons (s := 1051) rfl (CLe.refl _ _) rfl (.cons (s := 1052) rfl (CLe.refl _ _) rfl (.cons (s := 1060) rfl (CLe.refl _ _) rfl .nil))))))); (· ((try dsimp only) <;> omega)); (· ((try dsimp only) <;> omega))) | ((have hst : kstep src (ksel src (h.take j)) (lat h j) = ksel src (h.take j) := by unfold kstep; rw [if_neg (by rintro ⟨x1, x2⟩; first | exact k1 x1 | exact x2.elim (fun x => by rw [k2] at x; cases x) k3)]); (have hks := ksel_step (src := src) hj2); (rw [hst] at hks); refine Kloop.nextP (j + 1) ?_ ?_ ⟨(same (by rw [hks]; rfl)), same (by rw [← w64_nat (k := j) (by omega)]; rfl), trivial⟩ ⟨same rfl, same rfl, same rfl, same rfl, trivial⟩ (.cons (s := 6) rfl (by rw [hks]; exact CLe.refl _ _) rfl (.cons (s := 4) rfl (CLe.refl _ _) rfl (.cons (s := 8) rfl (CLe.refl _ _) rfl (.cons (s := 34) rfl (CLe.refl _ _) rfl (.cons (s := 1051) rfl (CLe.refl _ _) rfl (.cons (s := 1052) rfl (CLe.refl _ _) rfl (.cons (s := 1060) rfl (CLe.refl _ _) rfl .nil))))))); (· ((try dsimp only) <;> omega)); (· ((try dsimp only) <;> omega)))
            · skip
              (first | have eg104 := of_decide_eq_true g104 | have eg104 := of_decide_eq_false g104 | have eg104 := ndec_t g104 | have eg104 := ndec_f g104 | skip)
              have k1 : ¬ contains (lat h j).p.s.a (lat h j).p.s.n src = true := by rw [g104]; exact Bool.false_ne_true
              refine WL.no (by rfl) (by rfl) ?_
              refine WL.no (by rfl) (by rfl) ?_
              refine WL.no (by rfl) (by rfl) ?_
              refine WL.no (by rfl) (by rfl) ?_
              refine WL.no (by rfl) (by rfl) ?_
              refine WL.no (by rfl) (by rfl) ?_
              refine WL.no (by rfl) (by rfl) ?_
              refine WL.no (by rfl) (by rfl) ?_
              refine WL.no (by rfl) (by rfl) ?_
              refine WL.no (by rfl) (by rfl) ?_
              refine WL.no (by rfl) (by rfl) ?_
              refine WL.no (by rfl) (by rfl) ?_
              refine WL.no (by rfl) (by rfl) ?_
              refine WL.yes (by rfl) (Ex.q (q_pick_f (by rfl) (by rfl)) (by rfl) ?_)
              refine WL.nil ?_
              (repeat refine J.seq ?_)
              refine J.condF (by rfl) ?_
              (repeat refine J.seq ?_)
              refine J.skip ?_
              (repeat refine J.seq ?_)
              refine J.region ?_
              refine WL.yes (by rfl) (Ex.q (q_int (by rfl) (by rfl) (by rfl)) (by rfl) ?_)
              refine WL.yes (by rfl) (Ex.q (q_move (by rfl)) (by rfl) ?_)
              refine WL.nil ?_
              first | ((have hst : kstep src (ksel src (h.take j)) (lat h j) = (lat h j, true) := by unfold kstep; rw [if_pos ⟨k1, by first | exact .inl k2 | exact .inr k3⟩]); (have hks := ksel_step (src := src) hj2); (rw [hst] at hks); refine Kloop.nextP (j + 1) ?_ ?_ ⟨(same (by rw [hks]; rfl)), same (by rw [← w64_nat (k := j) (by omega)]; rfl), trivial⟩ ⟨same rfl, same rfl, same rfl, same rfl, trivial⟩ (.cons (s := 6) rfl (by rw [hks]; exact CLe.box rfl) rfl (.cons (s := 4) rfl (CLe.refl _ _) rfl (.cons (s := 8) rfl (CLe.refl _ _) rfl (.cons (s := 34) rfl (CLe.refl _ _) rfl (.cons (s := 1051) rfl (CLe.refl _ _) rfl (.cons (s := 1052) rfl (CLe.refl _ _) rfl (.cons (s := 1060) rfl (CLe.refl _ _) rfl .nil))))))); (· ((try dsimp only) <;> omega)); (· ((try dsimp only) <;> omega))) | ((have hst : kstep src (ksel src (h.take j)) (lat h j) = ksel src (h.take j) := by unfold kstep; rw [if_neg (by rintro ⟨x1, x2⟩; first | exact k1 x1 | exact x2.elim (fun x => by rw [k2] at x; cases x) k3)]); (have hks := ksel_step (src := src) hj2); (rw [hst] at hks); refine Kloop.nextP (j + 1) ?_ ?_ ⟨(same (by rw [hks]; rfl)), same (by rw [← w64_nat (k := j) (by omega)]; rfl), trivial⟩ ⟨same rfl, same rfl, same rfl, same rfl, trivial⟩ (.cons (s := 6) rfl (by rw [hks]; exact CLe.refl _ _) rfl (.cons (s := 4) rfl (CLe.refl _ _) rfl (.cons (s := 8) rfl (CLe.refl _ _) rfl (.cons (s := 34) rfl (CLe.refl _ _) rfl (.cons (s := 1051) rfl (CLe.refl _ _) rfl (.cons (s := 1052) rfl (CLe.refl _ _) rfl (.cons (s := 1060) rfl (CLe.refl _ _) rfl .nil))))))); (· ((try dsimp only) <;> omega)); (· ((try dsimp only) <;> omega)))
          · skip
            (first | have e96 := of_decide_eq_true c96 | have e96 := of_decide_eq_false c96 | have e96 := ndec_t c96 | have e96 := ndec_f c96 | skip)
            (repeat refine J.seq ?_)
            refine J.exit ?_
            (repeat refine J.seq ?_)
            refine J.region ?_
            first | (refine WL.yes (by rfl) (Ex.h (h_load (by rfl) (by rfl) (by rfl)) (by rfl) ?_)) | (refine WL.yes (by rfl) (Ex.q (q_load (by rfl) (by rfl) (by rfl)) (by rfl) ?_)) | (refine WL.yes (by rfl) (Ex.q (q_load_rop (by rfl) (by rfl)) (by rfl) ?_)) | (refine WL.yes (by rfl) (Ex.h (h_load_pel (by rfl) (by rfl) ?_ (by rfl)) (by rfl) ?_); (· (omega))) | (refine WL.yes (by rfl) (Ex.q (q_load_pel (by rfl) (by rfl) ?_ (by rfl)) (by rfl) ?_); (· (omega)))
            refine WL.yes (by rfl) (Ex.q (q_move (by rfl)) (by rfl) ?_)
            first | (refine WL.yes (by rfl) (Ex.store (by rfl) (by rfl) (by rfl) (by rfl) (by rfl) (by rfl) ?_)) | (refine WL.yes (by rfl) (Ex.store_pel (by rfl) (by rfl) (by rfl) (by rfl) (by rfl) ?_ (by rfl) ?_); (· (omega)))
            refine WL.yes (by rfl) (Ex.q (q_assign (by rfl)) (by rfl) ?_)
            refine WL.nil ?_
            (repeat refine J.seq ?_)
            refine J.ret ?_
            (repeat (with_reducible first | refine Kseq.ret ?_ | refine Kblock.ret ?_ | refine Kloop.ret ?_ | refine Kcut.ret ?_))
            first
              | (rw [hk0]; exact Kret.mk (KO kb b1 b2 s) (.cell inferInstance (by rfl) (by rfl) (by rfl) (.tmp (by rfl) .nil)) (by rfl) trivial (HLe.sub (.cons (s := 1060) rfl (CLe.refl _ _) rfl (.cons (s := 1051) rfl (CLe.refl _ _) rfl (.cons (s := 1052) rfl (CLe.refl _ _) rfl .nil)))) ⟨rfl, rfl⟩)
              | (rw [hk0, show h.take j = h from List.take_of_length_le (by omega), hh, show klookL src dst (s.T ++ s.U) = ksel src (hereF dst V) from (klook_perm hs.apart hV2).symm]; exact Kret.mk (KO kb b1 b2 s) (.cell inferInstance (by rfl) (by rfl) (by rfl) (.tmp (by rfl) .nil)) (by rfl) trivial (HLe.sub (.cons (s := 1060) rfl (CLe.refl _ _) rfl (.cons (s := 1051) rfl (CLe.refl _ _) rfl (.cons (s := 1052) rfl (CLe.refl _ _) rfl .nil)))) ⟨rfl, rfl⟩)

end Go.Vm
