/- FibSteps: the walk. -/
import Derived.Test.YtimkkhefemnkpaaPR
import Derived.Test.YtimkkhefemnkpaaP11
namespace Go.Vm
open Go Go.Proofs
theorem nb_t {b : Bool} (h : (!b) = true) : b = false := by cases b <;> simp_all
theorem nb_f {b : Bool} (h : (!b) = false) : b = true := by cases b <;> simp_all
theorem next_same {s : FS} {now : Int} (hn : (s.next now).1.2 = false) : (s.next now).2 = s := by
  unfold FS.next at hn ⊢
  split
  · rfl
  · rename_i hb
    rw [if_neg hb] at hn
    cases hx : nextO now s.F s.todo with
    | none => rfl
    | some o => rw [hx] at hn; cases hn
theorem todo_self {H : List En} (hH : TOk H) : todoL H H = [] := by
  apply List.eq_nil_of_length_eq_zero
  rw [todo_count]
  have c1 : H.filter (gone H) = [] := by
    rw [List.filter_eq_nil_iff]
    intro e he
    unfold gone
    rw [fhas_of he rfl]; simp
  have c2 : H.filter (due H) = [] := by
    rw [List.filter_eq_nil_iff]
    intro e he
    unfold due
    rw [(tlook_iff hH).2 ⟨he, rfl⟩]; simp
  rw [c1, c2]; rfl
theorem drained_same {s : FS} {n : Nat} (hs : FI s n) (hb : s.busy = false) : s.drained = decide (s.H = s.W) := by
  unfold FS.drained
  rw [hb]
  by_cases h : s.H = s.W
  · have : s.todo = [] := by unfold FS.todo; rw [← h]; exact todo_self hs.h
    rw [this, decide_eq_true h]; rfl
  · have : ¬ s.todo.length = 0 := fun e => h (todo_nil hs.h hs.w (List.eq_nil_of_length_eq_zero e))
    rw [decide_eq_false h, decide_eq_false this]; rfl
theorem reply_zero {s : FS} {now : Int} {ok : Bool} (h : s.busy = true) : (s.reply now ok).1 = 0 := by
  unfold FS.reply; rw [if_neg (by simp [h])]
theorem drained_busy {s : FS} (h : s.busy = true) : s.drained = false := by unfold FS.drained; rw [h]; rfl
theorem todo_found {s : FS} {o : Opn} (h : o ∈ s.todo) : (o.k = 3 ∧ 0 ≤ fnd o.e.p s.H ∧ fnd o.e.p s.W < 0) ∨ (o.k = 1 ∧ fnd o.e.p s.H < 0 ∧ 0 ≤ fnd o.e.p s.W) ∨ (o.k = 2 ∧ 0 ≤ fnd o.e.p s.H ∧ 0 ≤ fnd o.e.p s.W) := by
  have t : ∀ {T : List En}, has o.e.p T = true → 0 ≤ fnd o.e.p T := fun h => of_decide_eq_true (fnd_has.trans h)
  have f : ∀ {T : List En}, has o.e.p T = false → fnd o.e.p T < 0 := fun h => by have := of_decide_eq_false (fnd_has.trans h); omega
  rcases todo_mem o h with ⟨a, b, c⟩ | ⟨a, b, c⟩ | ⟨a, b, c⟩
  · exact .inl ⟨a, t (fhas_of b rfl), f c⟩
  · exact .inr (.inl ⟨a, f c, t (fhas_of b rfl)⟩)
  · exact .inr (.inr ⟨a, t c, t (fhas_of b rfl)⟩)

set_option maxHeartbeats 16000000 in
set_option maxRecDepth 100000 in
theorem fibSteps_spec {a : Option Addr} {cap : Nat} {l : List AAct} (ho : ∀ x ∈ l, x.good) : Spec Try.prog 9 [lros a cap acE l] [] (fun r H' => r = .bool true ∧ H' = []) := by
  refine Spec.of_J Try.func9 rfl Try.ntmps9 Try.results9 rfl ?_
  intro A F hAF
  (repeat refine J.seq ?_)
  refine J.region ?_
  refine WL.yes (by rfl) (Ex.q (q_assign (by rfl)) (by rfl) ?_)
  refine WL.nil ?_
  (repeat refine J.seq ?_)
  refine J.region ?_
  refine WL.yes (by rfl) (Ex.q (q_move (by rfl)) (by rfl) ?_)
  refine WL.yes (by rfl) (Ex.callq (right_spec) (by rfl) (by rfl) rfl (fun _ h => h) ?_)
  refine WL.yes (by rfl) (Ex.q (q_not (by rfl)) (by rfl) ?_)
  refine WL.nil ?_
  (repeat refine J.seq ?_)
  refine J.cond (by rfl) (fun c15 => ?_) (fun c15 => ?_)
  · skip
    (first | have e15 := of_decide_eq_true c15 | have e15 := of_decide_eq_false c15 | have e15 := ndec_t c15 | have e15 := ndec_f c15 | skip)
    (repeat refine J.seq ?_)
    refine J.region ?_
    refine WL.yes (by rfl) (Ex.callL (live19_spec) (by rfl) (by rfl) .nil ?_)
    rintro _ _ ⟨rfl, rfl⟩
    refine WL.yes (by rfl) (Ex.q (q_assign (by rfl)) (by rfl) ?_)
    refine WL.nil ?_
    (repeat refine J.seq ?_)
    refine J.ret ?_
    (repeat (with_reducible first | refine Kseq.ret ?_ | refine Kblock.ret ?_ | refine Kloop.ret ?_ | refine Kcut.ret ?_))
    refine Kret.mk [] (.tmp (by rfl) (.nil)) (by rfl) trivial (HLe.nil _ _) ?_
    exact ⟨rfl, rfl⟩
  · skip
    (first | have e15 := of_decide_eq_true c15 | have e15 := of_decide_eq_false c15 | have e15 := ndec_t c15 | have e15 := ndec_f c15 | skip)
    have hr : rightB l = true := by simpa using c15
    have hrl := right_len hr
    (repeat refine J.seq ?_)
    refine J.skip ?_
    (repeat refine J.seq ?_)
    refine J.region ?_
    refine WL.yes (by rfl) (Ex.callL (fNew_spec) (by rfl) (by rfl) .nil ?_)
    rintro _ _ ⟨fb, mh, mw0, mf, wp0, rfl, rfl⟩
    refine WL.yes (by rfl) (Ex.q (q_assign (by rfl)) (by rfl) ?_)
    refine WL.nil ?_
    (repeat refine J.seq ?_)
    refine J.region ?_
    refine WL.yes (by rfl) (Ex.q (q_move (by rfl)) (by rfl) ?_)
    refine WL.yes (by rfl) (Ex.q (q_eqnil (by rfl) (by rfl) (by rfl)) (by rfl) ?_)
    refine WL.nil ?_
    (repeat refine J.seq ?_)
    refine J.condF (by rfl) ?_
    (repeat refine J.seq ?_)
    refine J.skip ?_
    (repeat refine J.seq ?_)
    refine J.region ?_
    refine WL.yes (by rfl) (Ex.q (q_assign (by rfl)) (by rfl) ?_)
    refine WL.nil ?_
    (repeat refine J.seq ?_)
    refine J.region ?_
    refine WL.yes (by rfl) (Ex.q (q_assign (by rfl)) (by rfl) ?_)
    refine WL.nil ?_
    (repeat refine J.seq ?_)
    refine J.region ?_
    refine WL.yes (by rfl) (Ex.q (q_assign (by rfl)) (by rfl) ?_)
    refine WL.nil ?_
    (repeat refine J.seq ?_)
    refine J.block ?_
    (repeat refine J.seq ?_)
    refine J.loopP (fun x : Nat × FS × Nat × Nat × Int × Option Nat × Nat => x.1 ≤ l.length ∧ FI x.2.1 x.1 ∧ 0 ≤ x.2.2.2.2.1 ∧ x.2.2.2.2.1 ≤ (x.1 : Int) * 1073741824 ∧ x.2.1.busy = false) (fun x => [(6, iV x.1), (5, iV x.2.2.2.2.1), (4, .sl 4 x.2.2.2.2.2.1 51 0 x.2.2.2.2.2.2 x.2.1.H.length)]) (fun x => [(1060, .box fb 103 (fV mh x.2.2.1 mf (wayV x.2.2.2.1 x.2.1.busy))), (1051, tbl mh x.2.1.H), (1052, tbl x.2.2.1 x.2.1.W), (1053, mpc mf prE iV x.2.1.F), (1054, wayC x.2.2.2.1 x.2.1.busy x.2.1.wo), (4, lvec x.2.2.2.2.2.1 37 51 x.2.2.2.2.2.2 enE x.2.1.H)]) (fun x => l.length - x.1) (0, FS.zero, mw0, wp0, 0, none, 0) [(0, _), (3, _)] [] ⟨same rfl, same rfl, trivial⟩ ⟨same rfl, same rfl, ⟨_, rfl, rfl, fun _ => trivial⟩, trivial⟩ (.cons (s := 1060) rfl (CLe.refl _ _) rfl (.cons (s := 1051) rfl (CLe.refl _ _) rfl (.cons (s := 1052) rfl (CLe.refl _ _) rfl (.cons (s := 1053) rfl (CLe.refl _ _) rfl (.cons (s := 1054) rfl (CLe.refl _ _) rfl (.non .nil)))))) ?_ ?_
    · ((try dsimp only); exact ⟨Nat.zero_le _, FI.zero, by omega, by omega, rfl⟩)
    rintro ⟨k, s, mw, wp, now, aX, cX⟩ hx
    (try dsimp only at hx)
    (try dsimp only)
    obtain ⟨hk, hs, hn0, hn1, hb⟩ := hx
    (repeat refine J.seq ?_)
    refine J.region ?_
    refine WL.yes (by rfl) (Ex.q (q_move (by rfl)) (by rfl) ?_)
    refine WL.yes (by rfl) (Ex.q (q_move (by rfl)) (by rfl) ?_)
    first | (refine WL.yes (by rfl) (Ex.q (q_len_slice (by rfl) (by rfl)) (by rfl) ?_)) | (refine WL.yes (by rfl) (Ex.q (q_len_string (by rfl)) (by rfl) ?_))
    refine WL.yes (by rfl) (Ex.q (q_int (by rfl) (by rfl) (by rfl)) (by rfl) ?_)
    refine WL.nil ?_
    (repeat refine J.seq ?_)
    refine J.cond (by rfl) (fun c23 => ?_) (fun c23 => ?_)
    · skip
      (first | have e23 := of_decide_eq_true c23 | have e23 := of_decide_eq_false c23 | have e23 := ndec_t c23 | have e23 := ndec_f c23 | skip)
      (repeat refine J.seq ?_)
      refine J.skip ?_
      (repeat refine J.seq ?_)
      refine J.block ?_
      (repeat refine J.seq ?_)
      have hk2 : k < l.length := by omega
      have hg := right_at hr hk2
      have hact : ∀ e ∈ (lat l k).l, e.ok := ho _ (lat_mem hk2)
      have hk120 : (k : Int) ≤ 120 := by omega
      have hlh := hs.lh
      have hlw := hs.lw
      refine J.region ?_
      refine WL.yes (by rfl) (Ex.q (q_move (by rfl)) (by rfl) ?_)
      refine WL.yes (by rfl) (Ex.q (q_move (by rfl)) (by rfl) ?_)
      refine WL.yes (by rfl) (Ex.q (q_move (by rfl)) (by rfl) ?_)
      first | (refine WL.yes (by rfl) (Ex.q (q_indexAddr_ros (by rfl) (by rfl) (by intro _; rfl) ?_ ?_) (by rfl) ?_); (· (omega)); (· (omega))) | (refine WL.yes (by rfl) (Ex.q (q_indexAddr_sl (by rfl) (by rfl) ?_ ?_) (by rfl) ?_); (· (omega)); (· (omega))) | (refine WL.yes (by rfl) (Ex.q (q_indexAddr_arr (by rfl) (by rfl) ?_ ?_) (by rfl) ?_); (· (omega)); (· (omega)))
      first | (refine WL.yes (by rfl) (Ex.q (q_fieldAddr (by rfl)) (by rfl) ?_)) | (refine WL.yes (by rfl) (Ex.q (q_fieldAddr_rop (by rfl) (by rfl)) (by rfl) ?_)) | (refine WL.yes (by rfl) (Ex.q (q_fieldAddr_pel (by rfl)) (by rfl) ?_))
      first | (refine WL.yes (by rfl) (Ex.h (h_load (by rfl) (by rfl) (by rfl)) (by rfl) ?_)) | (refine WL.yes (by rfl) (Ex.q (q_load (by rfl) (by rfl) (by rfl)) (by rfl) ?_)) | (refine WL.yes (by rfl) (Ex.q (q_load_rop (by rfl) (by rfl)) (by rfl) ?_)) | (refine WL.yes (by rfl) (Ex.h (h_load_pel (by rfl) (by rfl) ?_ (by rfl)) (by rfl) ?_); (· (omega))) | (refine WL.yes (by rfl) (Ex.q (q_load_pel (by rfl) (by rfl) ?_ (by rfl)) (by rfl) ?_); (· (omega)))
      refine WL.set 31 (iV (lat l k).gap) (by rfl) (by first | rfl | rw [Int.toNat_natCast] | rw [Nat.zero_add, Int.toNat_natCast]) ?_
      refine WL.yes (by rfl) (Ex.q (q_int (by rfl) (by rfl) (by rfl)) (by rfl) ?_)
      refine WL.set 32 (iV (now + (lat l k).gap)) (by rfl) (congrArg iV (w64 (by omega) (by omega)).symm) ?_
      refine WL.yes (by rfl) (Ex.q (q_assign (by rfl)) (by rfl) ?_)
      refine WL.nil ?_
      (repeat refine J.seq ?_)
      refine J.region ?_
      refine WL.yes (by rfl) (Ex.q (q_move (by rfl)) (by rfl) ?_)
      refine WL.yes (by rfl) (Ex.q (q_move (by rfl)) (by rfl) ?_)
      first | (refine WL.yes (by rfl) (Ex.q (q_indexAddr_ros (by rfl) (by rfl) (by intro _; rfl) ?_ ?_) (by rfl) ?_); (· (omega)); (· (omega))) | (refine WL.yes (by rfl) (Ex.q (q_indexAddr_sl (by rfl) (by rfl) ?_ ?_) (by rfl) ?_); (· (omega)); (· (omega))) | (refine WL.yes (by rfl) (Ex.q (q_indexAddr_arr (by rfl) (by rfl) ?_ ?_) (by rfl) ?_); (· (omega)); (· (omega)))
      first | (refine WL.yes (by rfl) (Ex.q (q_fieldAddr (by rfl)) (by rfl) ?_)) | (refine WL.yes (by rfl) (Ex.q (q_fieldAddr_rop (by rfl) (by rfl)) (by rfl) ?_)) | (refine WL.yes (by rfl) (Ex.q (q_fieldAddr_pel (by rfl)) (by rfl) ?_))
      first | (refine WL.yes (by rfl) (Ex.h (h_load (by rfl) (by rfl) (by rfl)) (by rfl) ?_)) | (refine WL.yes (by rfl) (Ex.q (q_load (by rfl) (by rfl) (by rfl)) (by rfl) ?_)) | (refine WL.yes (by rfl) (Ex.q (q_load_rop (by rfl) (by rfl)) (by rfl) ?_)) | (refine WL.yes (by rfl) (Ex.h (h_load_pel (by rfl) (by rfl) ?_ (by rfl)) (by rfl) ?_); (· (omega))) | (refine WL.yes (by rfl) (Ex.q (q_load_pel (by rfl) (by rfl) ?_ (by rfl)) (by rfl) ?_); (· (omega)))
      refine WL.set 37 (iV (lat l k).k) (by rfl) (by first | rfl | rw [Int.toNat_natCast] | rw [Nat.zero_add, Int.toNat_natCast]) ?_
      first | (refine WL.yes (by rfl) (Ex.q (q_int (by rfl) (by rfl) (by rfl)) (by rfl) ?_)) | (refine WL.yes (by rfl) (Ex.q (q_eqb (by rfl) (by rfl)) (by rfl) ?_)) | (refine WL.yes (by rfl) (Ex.q (q_eqp rfl rfl (by rfl) (by rfl) ?_) (by rfl) ?_); (· (rfl))) | (refine WL.yes (by rfl) (Ex.q (q_eqs (by rfl) (by rfl)) (by rfl) ?_))
      refine WL.nil ?_
      (repeat refine J.seq ?_)
      refine J.cond (by rfl) (fun c38 => ?_) (fun c38 => ?_)
      · skip
        (first | have e38 := of_decide_eq_true c38 | have e38 := of_decide_eq_false c38 | have e38 := ndec_t c38 | have e38 := ndec_f c38 | skip)
        (repeat refine J.seq ?_)
        refine J.region ?_
        refine WL.yes (by rfl) (Ex.q (q_move (by rfl)) (by rfl) ?_)
        refine WL.yes (by rfl) (Ex.q (q_move (by rfl)) (by rfl) ?_)
        refine WL.yes (by rfl) (Ex.q (q_move (by rfl)) (by rfl) ?_)
        first | (refine WL.yes (by rfl) (Ex.q (q_indexAddr_ros (by rfl) (by rfl) (by intro _; rfl) ?_ ?_) (by rfl) ?_); (· (omega)); (· (omega))) | (refine WL.yes (by rfl) (Ex.q (q_indexAddr_sl (by rfl) (by rfl) ?_ ?_) (by rfl) ?_); (· (omega)); (· (omega))) | (refine WL.yes (by rfl) (Ex.q (q_indexAddr_arr (by rfl) (by rfl) ?_ ?_) (by rfl) ?_); (· (omega)); (· (omega)))
        first | (refine WL.yes (by rfl) (Ex.q (q_fieldAddr (by rfl)) (by rfl) ?_)) | (refine WL.yes (by rfl) (Ex.q (q_fieldAddr_rop (by rfl) (by rfl)) (by rfl) ?_)) | (refine WL.yes (by rfl) (Ex.q (q_fieldAddr_pel (by rfl)) (by rfl) ?_))
        first | (refine WL.yes (by rfl) (Ex.h (h_load (by rfl) (by rfl) (by rfl)) (by rfl) ?_)) | (refine WL.yes (by rfl) (Ex.q (q_load (by rfl) (by rfl) (by rfl)) (by rfl) ?_)) | (refine WL.yes (by rfl) (Ex.q (q_load_rop (by rfl) (by rfl)) (by rfl) ?_)) | (refine WL.yes (by rfl) (Ex.h (h_load_pel (by rfl) (by rfl) ?_ (by rfl)) (by rfl) ?_); (· (omega))) | (refine WL.yes (by rfl) (Ex.q (q_load_pel (by rfl) (by rfl) ?_ (by rfl)) (by rfl) ?_); (· (omega)))
        refine WL.set 44 (lros (lat l k).la (lat l k).lc enE (lat l k).l) (by rfl) (by first | rfl | rw [Int.toNat_natCast] | rw [Nat.zero_add, Int.toNat_natCast]) ?_
        refine WL.yes (by rfl) (Ex.callL (fWant_spec fb mh mw mf wp (s := s) (l := (lat l k).l) hact (by have := want_len hg.2.2; omega) (by omega)) (by rfl) (by rfl) (.cons rfl (.cons rfl (.cons rfl (.cons rfl (.cons rfl .nil))))) ?_)
        rintro _ _ ⟨mwq, rfl, rfl⟩
        refine WL.nil ?_
        (repeat refine J.seq ?_)
        refine J.exit ?_
        (repeat refine J.seq ?_)
        refine J.region ?_
        refine WL.yes (by rfl) (Ex.q (q_move (by rfl)) (by rfl) ?_)
        refine WL.yes (by rfl) (Ex.q (q_int (by rfl) (by rfl) (by rfl)) (by rfl) ?_)
        refine WL.yes (by rfl) (Ex.q (q_assign (by rfl)) (by rfl) ?_)
        refine WL.nil ?_
        first | (refine Kloop.nextP (k + 1, s.want (lat l k).l, mwq, wp, (now + (lat l k).gap), aX, cX) ?_ ?_ ⟨same (by rw [← w64_nat (k := k) (by omega)]; rfl), same rfl, same rfl, trivial⟩ ⟨same rfl, same rfl, trivial⟩ (.cons (s := 1060) rfl (CLe.refl _ _) rfl (.cons (s := 1051) rfl (CLe.refl _ _) rfl (.cons (s := 1052) rfl (CLe.refl _ _) rfl (.cons (s := 1053) rfl (CLe.refl _ _) rfl (.cons (s := 1054) rfl (CLe.refl _ _) rfl (.cons (s := 4) rfl (CLe.refl _ _) rfl .nil)))))); (· (exact ⟨by (try dsimp only); omega, (hs.want hact hg.2.2).mono (by omega), by (try dsimp only); omega, by (try dsimp only); omega, hb⟩)); (· ((try dsimp only) <;> omega))) | (refine Kloop.nextP (k + 1, (FS.reply (now + (lat l k).gap) (lat l k).ok { s with wo := o, busy := true }).2, mw, wpr, (now + (lat l k).gap), a156, cap156) ?_ ?_ ⟨same (by rw [← w64_nat (k := k) (by omega)]; rfl), same rfl, ⟨_, rfl, by rw [hH]; cases a156 <;> rfl, fun _ => trivial⟩, trivial⟩ ⟨same rfl, same rfl, trivial⟩ (.cons (s := 1060) rfl (CLe.refl _ _) rfl (.cons (s := 1051) rfl (CLe.refl _ _) rfl (.cons (s := 1052) rfl (CLe.refl _ _) rfl (.cons (s := 1053) rfl (CLe.refl _ _) rfl (.cons (s := 1054) rfl (CLe.refl _ _) rfl (.cons (s := 156) rfl (by rw [hH]; exact CLe.refl _ _) rfl .nil)))))); (· (exact ⟨by (try dsimp only); omega, hs2, by (try dsimp only); omega, by (try dsimp only); omega, reply_busy⟩)); (· ((try dsimp only) <;> omega))) | (refine Kloop.nextP (k + 1, (FS.reply (now + (lat l k).gap) (lat l k).ok { s with wo := o, busy := true }).2, mw, wpr, (now + (lat l k).gap), a160, cap160) ?_ ?_ ⟨same (by rw [← w64_nat (k := k) (by omega)]; rfl), same rfl, ⟨_, rfl, by rw [hH]; cases a160 <;> rfl, fun _ => trivial⟩, trivial⟩ ⟨same rfl, same rfl, trivial⟩ (.cons (s := 1060) rfl (CLe.refl _ _) rfl (.cons (s := 1051) rfl (CLe.refl _ _) rfl (.cons (s := 1052) rfl (CLe.refl _ _) rfl (.cons (s := 1053) rfl (CLe.refl _ _) rfl (.cons (s := 1054) rfl (CLe.refl _ _) rfl (.cons (s := 2044) rfl (by rw [hH]; exact CLe.refl _ _) rfl .nil)))))); (· (exact ⟨by (try dsimp only); omega, hs2, by (try dsimp only); omega, by (try dsimp only); omega, reply_busy⟩)); (· ((try dsimp only) <;> omega))) | (refine Kloop.nextP (k + 1, (FS.reply (now + (lat l k).gap) (lat l k).ok { s with wo := o, busy := true }).2, mw, wpr, (now + (lat l k).gap), aX, cX) ?_ ?_ ⟨same (by rw [← w64_nat (k := k) (by omega)]; rfl), same rfl, ⟨_, rfl, by rw [hH], fun _ => trivial⟩, trivial⟩ ⟨same rfl, same rfl, trivial⟩ (.cons (s := 1060) rfl (CLe.refl _ _) rfl (.cons (s := 1051) rfl (CLe.refl _ _) rfl (.cons (s := 1052) rfl (CLe.refl _ _) rfl (.cons (s := 1053) rfl (CLe.refl _ _) rfl (.cons (s := 1054) rfl (CLe.refl _ _) rfl (.cons (s := 4) rfl (by rw [hH]; exact CLe.refl _ _) rfl .nil)))))); (· (exact ⟨by (try dsimp only); omega, hs2, by (try dsimp only); omega, by (try dsimp only); omega, reply_busy⟩)); (· ((try dsimp only) <;> omega))) | (refine Kloop.nextP (k + 1, s, mw, wpq, (now + (lat l k).gap), aX, cX) ?_ ?_ ⟨same (by rw [← w64_nat (k := k) (by omega)]; rfl), same rfl, same rfl, trivial⟩ ⟨same rfl, same rfl, trivial⟩ (.cons (s := 1060) rfl (CLe.refl _ _) rfl (.cons (s := 1051) rfl (CLe.refl _ _) rfl (.cons (s := 1052) rfl (CLe.refl _ _) rfl (.cons (s := 1053) rfl (CLe.refl _ _) rfl (.cons (s := 1054) rfl (CLe.refl _ _) rfl (.cons (s := 4) rfl (CLe.refl _ _) rfl .nil)))))); (· (exact ⟨by (try dsimp only); omega, hs.mono (by omega), by (try dsimp only); omega, by (try dsimp only); omega, hb⟩)); (· ((try dsimp only) <;> omega)))
      · skip
        (first | have e38 := of_decide_eq_true c38 | have e38 := of_decide_eq_false c38 | have e38 := ndec_t c38 | have e38 := ndec_f c38 | skip)
        (repeat refine J.seq ?_)
        refine J.skip ?_
        (repeat refine J.seq ?_)
        refine J.region ?_
        refine WL.yes (by rfl) (Ex.q (q_move (by rfl)) (by rfl) ?_)
        refine WL.yes (by rfl) (Ex.q (q_move (by rfl)) (by rfl) ?_)
        refine WL.yes (by rfl) (Ex.callL (fNext_spec fb mh mw mf wp (s := s) (now := (now + (lat l k).gap)) hs.toFOk) (by rfl) (by rfl) (.cons rfl (.cons rfl (.cons rfl (.cons rfl (.cons rfl .nil))))) ?_)
        rintro _ _ ⟨wpq, rfl, rfl⟩
        refine WL.yes (by rfl) (Ex.q (q_move (by rfl)) (by rfl) ?_)
        first | (refine WL.yes (by rfl) (Ex.q (q_extract2 (by rfl) (by rfl)) (by rfl) ?_)) | (refine WL.yes (by rfl) (Ex.q (q_extract3 (by rfl) (by rfl)) (by rfl) ?_))
        first | (refine WL.yes (by rfl) (Ex.q (q_extract2 (by rfl) (by rfl)) (by rfl) ?_)) | (refine WL.yes (by rfl) (Ex.q (q_extract3 (by rfl) (by rfl)) (by rfl) ?_))
        refine WL.yes (by rfl) (Ex.alloc (by rfl) ?_)
        intro b7
        first | (refine WL.yes (by rfl) (Ex.store (by rfl) (by rfl) (by rfl) (by rfl) (by rfl) (by rfl) ?_)) | (refine WL.yes (by rfl) (Ex.store_pel (by rfl) (by rfl) (by rfl) (by rfl) (by rfl) ?_ (by rfl) ?_); (· (omega)))
        refine WL.yes (by rfl) (Ex.q (q_assign (by rfl)) (by rfl) ?_)
        refine WL.nil ?_
        (repeat refine J.seq ?_)
        refine J.region ?_
        refine WL.yes (by rfl) (Ex.q (q_move (by rfl)) (by rfl) ?_)
        refine WL.yes (by rfl) (Ex.q (q_not (by rfl)) (by rfl) ?_)
        refine WL.nil ?_
        (repeat refine J.seq ?_)
        refine J.cond (by rfl) (fun c53 => ?_) (fun c53 => ?_)
        · skip
          (first | have e53 := of_decide_eq_true c53 | have e53 := of_decide_eq_false c53 | have e53 := ndec_t c53 | have e53 := ndec_f c53 | skip)
          rw [next_same (s := s) (nb_t c53)]
          (repeat refine J.seq ?_)
          refine J.region ?_
          refine WL.yes (by rfl) (Ex.q (q_move (by rfl)) (by rfl) ?_)
          refine WL.yes (by rfl) (Ex.callL (fDrained_spec fb mh mw mf wpq (s := s) hs.toFOk) (by rfl) (by rfl) (.cons rfl (.cons rfl (.cons rfl (.cons rfl (.cons rfl .nil))))) ?_)
          rintro _ _ ⟨rfl, rfl⟩
          refine WL.yes (by rfl) (Ex.q (q_move (by rfl)) (by rfl) ?_)
          refine WL.yes (by rfl) (Ex.q (q_move (by rfl)) (by rfl) ?_)
          refine WL.yes (by rfl) (Ex.callL (fWanted_spec fb mh mw mf wpq (s := s) hs.toFOk) (by rfl) (by rfl) (.cons rfl (.cons rfl (.cons rfl (.cons rfl (.cons rfl .nil))))) ?_)
          rintro _ _ ⟨a58, cap58, rfl, rfl⟩
          refine WL.yes (by rfl) (Ex.callqz (same_spec (l := s.H) (l2 := s.W) ?_ ?_ ?_) (by rfl) (by rfl) (.cons (.sla (by rfl)) (.cons (.sla (by rfl)) .nil)) (fun _ => trivial) ?_); (· (omega)); (· (exact hs.h.ok)); (· (exact hs.w.ok))
          first | (refine WL.yes (by rfl) (Ex.q (q_int (by rfl) (by rfl) (by rfl)) (by rfl) ?_)) | (refine WL.yes (by rfl) (Ex.q (q_neb (by rfl) (by rfl)) (by rfl) ?_)) | (refine WL.yes (by rfl) (Ex.q (q_nep rfl rfl (by rfl) (by rfl) ?_) (by rfl) ?_); (· (rfl))) | (refine WL.yes (by rfl) (Ex.q (q_eqs (by rfl) (by rfl)) (by rfl) ?_))
          refine WL.set 60 (.bool false) (by rfl) (congrArg V.bool ((by rw [drained_same hs hb]; simp) : false = _)) ?_
          refine WL.nil ?_
          (repeat refine J.seq ?_)
          refine J.condF (by rfl) ?_
          (repeat refine J.seq ?_)
          refine J.skip ?_
          (repeat refine J.seq ?_)
          refine J.exit ?_
          (repeat refine J.seq ?_)
          refine J.region ?_
          refine WL.yes (by rfl) (Ex.q (q_move (by rfl)) (by rfl) ?_)
          refine WL.yes (by rfl) (Ex.q (q_int (by rfl) (by rfl) (by rfl)) (by rfl) ?_)
          refine WL.yes (by rfl) (Ex.q (q_assign (by rfl)) (by rfl) ?_)
          refine WL.nil ?_
          first | (refine Kloop.nextP (k + 1, s.want (lat l k).l, mwq, wp, (now + (lat l k).gap), aX, cX) ?_ ?_ ⟨same (by rw [← w64_nat (k := k) (by omega)]; rfl), same rfl, same rfl, trivial⟩ ⟨same rfl, same rfl, trivial⟩ (.cons (s := 1060) rfl (CLe.refl _ _) rfl (.cons (s := 1051) rfl (CLe.refl _ _) rfl (.cons (s := 1052) rfl (CLe.refl _ _) rfl (.cons (s := 1053) rfl (CLe.refl _ _) rfl (.cons (s := 1054) rfl (CLe.refl _ _) rfl (.cons (s := 4) rfl (CLe.refl _ _) rfl .nil)))))); (· (exact ⟨by (try dsimp only); omega, (hs.want hact hg.2.2).mono (by omega), by (try dsimp only); omega, by (try dsimp only); omega, hb⟩)); (· ((try dsimp only) <;> omega))) | (refine Kloop.nextP (k + 1, (FS.reply (now + (lat l k).gap) (lat l k).ok { s with wo := o, busy := true }).2, mw, wpr, (now + (lat l k).gap), a156, cap156) ?_ ?_ ⟨same (by rw [← w64_nat (k := k) (by omega)]; rfl), same rfl, ⟨_, rfl, by rw [hH]; cases a156 <;> rfl, fun _ => trivial⟩, trivial⟩ ⟨same rfl, same rfl, trivial⟩ (.cons (s := 1060) rfl (CLe.refl _ _) rfl (.cons (s := 1051) rfl (CLe.refl _ _) rfl (.cons (s := 1052) rfl (CLe.refl _ _) rfl (.cons (s := 1053) rfl (CLe.refl _ _) rfl (.cons (s := 1054) rfl (CLe.refl _ _) rfl (.cons (s := 156) rfl (by rw [hH]; exact CLe.refl _ _) rfl .nil)))))); (· (exact ⟨by (try dsimp only); omega, hs2, by (try dsimp only); omega, by (try dsimp only); omega, reply_busy⟩)); (· ((try dsimp only) <;> omega))) | (refine Kloop.nextP (k + 1, (FS.reply (now + (lat l k).gap) (lat l k).ok { s with wo := o, busy := true }).2, mw, wpr, (now + (lat l k).gap), a160, cap160) ?_ ?_ ⟨same (by rw [← w64_nat (k := k) (by omega)]; rfl), same rfl, ⟨_, rfl, by rw [hH]; cases a160 <;> rfl, fun _ => trivial⟩, trivial⟩ ⟨same rfl, same rfl, trivial⟩ (.cons (s := 1060) rfl (CLe.refl _ _) rfl (.cons (s := 1051) rfl (CLe.refl _ _) rfl (.cons (s := 1052) rfl (CLe.refl _ _) rfl (.cons (s := 1053) rfl (CLe.refl _ _) rfl (.cons (s := 1054) rfl (CLe.refl _ _) rfl (.cons (s := 2044) rfl (by rw [hH]; exact CLe.refl _ _) rfl .nil)))))); (· (exact ⟨by (try dsimp only); omega, hs2, by (try dsimp only); omega, by (try dsimp only); omega, reply_busy⟩)); (· ((try dsimp only) <;> omega))) | (refine Kloop.nextP (k + 1, (FS.reply (now + (lat l k).gap) (lat l k).ok { s with wo := o, busy := true }).2, mw, wpr, (now + (lat l k).gap), aX, cX) ?_ ?_ ⟨same (by rw [← w64_nat (k := k) (by omega)]; rfl), same rfl, ⟨_, rfl, by rw [hH], fun _ => trivial⟩, trivial⟩ ⟨same rfl, same rfl, trivial⟩ (.cons (s := 1060) rfl (CLe.refl _ _) rfl (.cons (s := 1051) rfl (CLe.refl _ _) rfl (.cons (s := 1052) rfl (CLe.refl _ _) rfl (.cons (s := 1053) rfl (CLe.refl _ _) rfl (.cons (s := 1054) rfl (CLe.refl _ _) rfl (.cons (s := 4) rfl (by rw [hH]; exact CLe.refl _ _) rfl .nil)))))); (· (exact ⟨by (try dsimp only); omega, hs2, by (try dsimp only); omega, by (try dsimp only); omega, reply_busy⟩)); (· ((try dsimp only) <;> omega))) | (refine Kloop.nextP (k + 1, s, mw, wpq, (now + (lat l k).gap), aX, cX) ?_ ?_ ⟨same (by rw [← w64_nat (k := k) (by omega)]; rfl), same rfl, same rfl, trivial⟩ ⟨same rfl, same rfl, trivial⟩ (.cons (s := 1060) rfl (CLe.refl _ _) rfl (.cons (s := 1051) rfl (CLe.refl _ _) rfl (.cons (s := 1052) rfl (CLe.refl _ _) rfl (.cons (s := 1053) rfl (CLe.refl _ _) rfl (.cons (s := 1054) rfl (CLe.refl _ _) rfl (.cons (s := 4) rfl (CLe.refl _ _) rfl .nil)))))); (· (exact ⟨by (try dsimp only); omega, hs.mono (by omega), by (try dsimp only); omega, by (try dsimp only); omega, hb⟩)); (· ((try dsimp only) <;> omega)))
        · skip
          (first | have e53 := of_decide_eq_true c53 | have e53 := of_decide_eq_false c53 | have e53 := ndec_t c53 | have e53 := ndec_f c53 | skip)
          obtain ⟨o, hom, hno⟩ := next_some hb (nb_f c53)
          have hs1 : FI { s with wo := o, busy := true } k := by have := hs.next (now + (lat l k).gap); rw [hno] at this; exact this
          have hs2 : FI (FS.reply (now + (lat l k).gap) (lat l k).ok { s with wo := o, busy := true }).2 (k + 1) := hs1.reply (by omega) _ _
          have hoe : o.e.ok := hs.todo_ok o hom
          have hc := todo_found hom
          rw [hno]
          (repeat refine J.seq ?_)
          refine J.skip ?_
          (repeat refine J.seq ?_)
          refine J.region ?_
          refine WL.yes (by rfl) (Ex.q (q_move (by rfl)) (by rfl) ?_)
          refine WL.yes (by rfl) (Ex.q (q_move (by rfl)) (by rfl) ?_)
          refine WL.yes (by rfl) (Ex.callL (fNext_spec fb mh mw mf wpq (s := { s with wo := o, busy := true }) (now := (now + (lat l k).gap)) hs1.toFOk) (by rfl) (by rfl) (.cons rfl (.cons rfl (.cons rfl (.cons rfl (.cons rfl .nil))))) ?_)
          rintro _ _ ⟨wpr, hr, hH⟩
          rw [next_busy rfl] at hr hH
          subst hr hH
          refine WL.yes (by rfl) (Ex.q (q_move (by rfl)) (by rfl) ?_)
          first | (refine WL.yes (by rfl) (Ex.q (q_extract2 (by rfl) (by rfl)) (by rfl) ?_)) | (refine WL.yes (by rfl) (Ex.q (q_extract3 (by rfl) (by rfl)) (by rfl) ?_))
          first | (refine WL.yes (by rfl) (Ex.q (q_extract2 (by rfl) (by rfl)) (by rfl) ?_)) | (refine WL.yes (by rfl) (Ex.q (q_extract3 (by rfl) (by rfl)) (by rfl) ?_))
          refine WL.yes (by rfl) (Ex.alloc (by rfl) ?_)
          intro b9
          first | (refine WL.yes (by rfl) (Ex.store (by rfl) (by rfl) (by rfl) (by rfl) (by rfl) (by rfl) ?_)) | (refine WL.yes (by rfl) (Ex.store_pel (by rfl) (by rfl) (by rfl) (by rfl) (by rfl) ?_ (by rfl) ?_); (· (omega)))
          refine WL.yes (by rfl) (Ex.q (q_assign (by rfl)) (by rfl) ?_)
          refine WL.nil ?_
          (repeat refine J.seq ?_)
          refine J.region ?_
          refine WL.yes (by rfl) (Ex.q (q_move (by rfl)) (by rfl) ?_)
          first | (refine WL.yes (by rfl) (Ex.q (q_fieldAddr (by rfl)) (by rfl) ?_)) | (refine WL.yes (by rfl) (Ex.q (q_fieldAddr_rop (by rfl) (by rfl)) (by rfl) ?_)) | (refine WL.yes (by rfl) (Ex.q (q_fieldAddr_pel (by rfl)) (by rfl) ?_))
          first | (refine WL.yes (by rfl) (Ex.q (q_fieldAddr (by rfl)) (by rfl) ?_)) | (refine WL.yes (by rfl) (Ex.q (q_fieldAddr_rop (by rfl) (by rfl)) (by rfl) ?_)) | (refine WL.yes (by rfl) (Ex.q (q_fieldAddr_pel (by rfl)) (by rfl) ?_))
          first | (refine WL.yes (by rfl) (Ex.h (h_load (by rfl) (by rfl) (by rfl)) (by rfl) ?_)) | (refine WL.yes (by rfl) (Ex.q (q_load (by rfl) (by rfl) (by rfl)) (by rfl) ?_)) | (refine WL.yes (by rfl) (Ex.q (q_load_rop (by rfl) (by rfl)) (by rfl) ?_)) | (refine WL.yes (by rfl) (Ex.h (h_load_pel (by rfl) (by rfl) ?_ (by rfl)) (by rfl) ?_); (· (omega))) | (refine WL.yes (by rfl) (Ex.q (q_load_pel (by rfl) (by rfl) ?_ (by rfl)) (by rfl) ?_); (· (omega)))
          refine WL.yes (by rfl) (Ex.callqz (find_spec (l := s.H) (p := o.e.p) ?_ ?_ ?_) (by rfl) (by rfl) (.cons (.sla (by rfl)) (.cons (.same _) .nil)) (fun _ => trivial) ?_); (· (omega)); (· (exact hs.h.ok)); (· (exact hoe.1))
          refine WL.yes (by rfl) (Ex.q (q_assign (by rfl)) (by rfl) ?_)
          refine WL.nil ?_
          (repeat refine J.seq ?_)
          refine J.cutP (fun x : Unit => True) (fun x => [(12, iV (fnd o.e.p s.W))]) (fun x => []) [(0, _), (3, _), (4, _), (5, _), (6, _), (7, _), (10, _), (11, _)] [(4, _), (7, _), (1051, _), (1052, _), (1053, _), (1054, _), (1060, _)] ⟨same rfl, same rfl, same rfl, same rfl, same rfl, same rfl, same rfl, same rfl, trivial⟩ (.cons (s := 4) rfl (CLe.refl _ _) rfl (.cons (s := 7) rfl (CLe.refl _ _) rfl (.cons (s := 1051) rfl (CLe.refl _ _) rfl (.cons (s := 1052) rfl (CLe.refl _ _) rfl (.cons (s := 1053) rfl (CLe.refl _ _) rfl (.cons (s := 1054) rfl (CLe.refl _ _) rfl (.cons (s := 1060) rfl (CLe.refl _ _) rfl .nil))))))) ?_ ?_
          · skip
            (repeat refine J.seq ?_)
            refine J.draw [7] 9999 [(0, true), (2, true), (3, true), (4, true), (1, false), (5, false), (6, true)] (by kernel_rfl) rfl (by kernel_rfl) ?_
            intro F1 hF1
            refine WS.take rfl (by rfl) (by rfl) (q_move (by rfl)) ?_
            first | (refine WS.take rfl (by rfl) (by rfl) (q_fieldAddr (by rfl)) ?_) | (refine WS.take rfl (by rfl) (by rfl) (q_fieldAddr_rop (by rfl) (by rfl)) ?_) | (refine WS.take rfl (by rfl) (by rfl) (q_fieldAddr_pel (by rfl)) ?_)
            first | (refine WS.take rfl (by rfl) (by rfl) (q_fieldAddr (by rfl)) ?_) | (refine WS.take rfl (by rfl) (by rfl) (q_fieldAddr_rop (by rfl) (by rfl)) ?_) | (refine WS.take rfl (by rfl) (by rfl) (q_fieldAddr_pel (by rfl)) ?_)
            first | (refine WS.take rfl (by rfl) (by rfl) (q_load (by rfl) (by rfl) (by rfl)) ?_) | (refine WS.take rfl (by rfl) (by rfl) (q_load_rop (by rfl) (by rfl)) ?_) | (refine WS.take rfl (by rfl) (by rfl) (q_load_pel (by rfl) (by rfl) ?_ (by rfl)) ?_; (· (omega)))
            refine WS.ex rfl (by rfl) (Ex.callL (fWanted_spec fb mh mw mf wpr (s := { s with wo := o, busy := true }) hs1.toFOk) (by rfl) (by rfl) (.cons rfl (.cons rfl (.cons rfl (.cons rfl (.cons rfl .nil))))) ?_)
            rintro _ _ ⟨a73, cap73, rfl, rfl⟩
            refine WS.ex rfl (by rfl) (Ex.callqz (find_spec (l := s.W) (p := o.e.p) ?_ ?_ ?_) (by rfl) (by rfl) (.cons (.sla (by rfl)) (.cons (.same _) .nil)) (fun _ => trivial) ?_); (· (omega)); (· (exact hs.w.ok)); (· (exact hoe.1))
            refine WS.take rfl (by rfl) (by rfl) (q_assign (by rfl)) ?_
            refine WS.nil ?_
            refine Kcut.mkP (()) ?_ ⟨same rfl, trivial⟩ ⟨same rfl, same rfl, same rfl, same rfl, same rfl, same rfl, same rfl, same rfl, trivial⟩ (.cons (s := 4) rfl (CLe.refl _ _) rfl (.cons (s := 7) rfl (CLe.refl _ _) rfl (.cons (s := 1051) rfl (CLe.refl _ _) rfl (.cons (s := 1052) rfl (CLe.refl _ _) rfl (.cons (s := 1053) rfl (CLe.refl _ _) rfl (.cons (s := 1054) rfl (CLe.refl _ _) rfl (.cons (s := 1060) rfl (CLe.refl _ _) rfl .nil)))))))
            · (trivial)
          rintro u9 hcut
          rcases hc with ⟨q1, q2, q3⟩ | ⟨q1, q2, q3⟩ | ⟨q1, q2, q3⟩
          · skip
            (repeat refine J.seq ?_)
            refine J.region ?_
            refine WL.yes (by rfl) (Ex.q (q_move (by rfl)) (by rfl) ?_)
            refine WL.yes (by rfl) (Ex.q (q_move (by rfl)) (by rfl) ?_)
            refine WL.yes (by rfl) (Ex.q (q_move (by rfl)) (by rfl) ?_)
            refine WL.yes (by rfl) (Ex.callL (fDrained_spec fb mh mw mf wpr (s := { s with wo := o, busy := true }) hs1.toFOk) (by rfl) (by rfl) (.cons rfl (.cons rfl (.cons rfl (.cons rfl (.cons rfl .nil))))) ?_)
            rintro _ _ ⟨rfl, rfl⟩
            refine WL.set 81 (.bool false) (by rfl) (congrArg V.bool ((drained_busy rfl).symm : false = _)) ?_
            refine WL.yes (by rfl) (Ex.q (q_pick_f (by rfl) (by rfl)) (by rfl) ?_)
            refine WL.yes (by rfl) (Ex.q (q_move (by rfl)) (by rfl) ?_)
            first | (refine WL.yes (by rfl) (Ex.q (q_fieldAddr (by rfl)) (by rfl) ?_)) | (refine WL.yes (by rfl) (Ex.q (q_fieldAddr_rop (by rfl) (by rfl)) (by rfl) ?_)) | (refine WL.yes (by rfl) (Ex.q (q_fieldAddr_pel (by rfl)) (by rfl) ?_))
            first | (refine WL.yes (by rfl) (Ex.h (h_load (by rfl) (by rfl) (by rfl)) (by rfl) ?_)) | (refine WL.yes (by rfl) (Ex.q (q_load (by rfl) (by rfl) (by rfl)) (by rfl) ?_)) | (refine WL.yes (by rfl) (Ex.q (q_load_rop (by rfl) (by rfl)) (by rfl) ?_)) | (refine WL.yes (by rfl) (Ex.h (h_load_pel (by rfl) (by rfl) ?_ (by rfl)) (by rfl) ?_); (· (omega))) | (refine WL.yes (by rfl) (Ex.q (q_load_pel (by rfl) (by rfl) ?_ (by rfl)) (by rfl) ?_); (· (omega)))
            first | (refine WL.yes (by rfl) (Ex.q (q_int (by rfl) (by rfl) (by rfl)) (by rfl) ?_)) | (refine WL.yes (by rfl) (Ex.q (q_eqb (by rfl) (by rfl)) (by rfl) ?_)) | (refine WL.yes (by rfl) (Ex.q (q_eqp rfl rfl (by rfl) (by rfl) ?_) (by rfl) ?_); (· (rfl))) | (refine WL.yes (by rfl) (Ex.q (q_eqs (by rfl) (by rfl)) (by rfl) ?_))
            refine WL.set 86 (.bool false) (by rfl) (congrArg V.bool ((decide_eq_false (by first | omega | (dsimp only; omega))).symm : false = _)) ?_
            refine WL.yes (by rfl) (Ex.q (q_move (by rfl)) (by rfl) ?_)
            refine WL.no (by rfl) (by rfl) ?_
            refine WL.no (by rfl) (by rfl) ?_
            refine WL.no (by rfl) (by rfl) ?_
            refine WL.no (by rfl) (by rfl) ?_
            refine WL.no (by rfl) (by rfl) ?_
            refine WL.no (by rfl) (by rfl) ?_
            refine WL.yes (by rfl) (Ex.q (q_pick_f (by rfl) (by rfl)) (by rfl) ?_)
            refine WL.yes (by rfl) (Ex.q (q_pick_f (by rfl) (by rfl)) (by rfl) ?_)
            refine WL.yes (by rfl) (Ex.q (q_move (by rfl)) (by rfl) ?_)
            first | (refine WL.yes (by rfl) (Ex.q (q_fieldAddr (by rfl)) (by rfl) ?_)) | (refine WL.yes (by rfl) (Ex.q (q_fieldAddr_rop (by rfl) (by rfl)) (by rfl) ?_)) | (refine WL.yes (by rfl) (Ex.q (q_fieldAddr_pel (by rfl)) (by rfl) ?_))
            first | (refine WL.yes (by rfl) (Ex.h (h_load (by rfl) (by rfl) (by rfl)) (by rfl) ?_)) | (refine WL.yes (by rfl) (Ex.q (q_load (by rfl) (by rfl) (by rfl)) (by rfl) ?_)) | (refine WL.yes (by rfl) (Ex.q (q_load_rop (by rfl) (by rfl)) (by rfl) ?_)) | (refine WL.yes (by rfl) (Ex.h (h_load_pel (by rfl) (by rfl) ?_ (by rfl)) (by rfl) ?_); (· (omega))) | (refine WL.yes (by rfl) (Ex.q (q_load_pel (by rfl) (by rfl) ?_ (by rfl)) (by rfl) ?_); (· (omega)))
            first | (refine WL.yes (by rfl) (Ex.q (q_int (by rfl) (by rfl) (by rfl)) (by rfl) ?_)) | (refine WL.yes (by rfl) (Ex.q (q_eqb (by rfl) (by rfl)) (by rfl) ?_)) | (refine WL.yes (by rfl) (Ex.q (q_eqp rfl rfl (by rfl) (by rfl) ?_) (by rfl) ?_); (· (rfl))) | (refine WL.yes (by rfl) (Ex.q (q_eqs (by rfl) (by rfl)) (by rfl) ?_))
            refine WL.set 99 (.bool false) (by rfl) (congrArg V.bool ((decide_eq_false (by first | omega | (dsimp only; omega))).symm : false = _)) ?_
            refine WL.yes (by rfl) (Ex.q (q_move (by rfl)) (by rfl) ?_)
            refine WL.no (by rfl) (by rfl) ?_
            refine WL.no (by rfl) (by rfl) ?_
            refine WL.no (by rfl) (by rfl) ?_
            refine WL.no (by rfl) (by rfl) ?_
            refine WL.no (by rfl) (by rfl) ?_
            refine WL.no (by rfl) (by rfl) ?_
            refine WL.yes (by rfl) (Ex.q (q_pick_f (by rfl) (by rfl)) (by rfl) ?_)
            refine WL.yes (by rfl) (Ex.q (q_pick_f (by rfl) (by rfl)) (by rfl) ?_)
            refine WL.yes (by rfl) (Ex.q (q_move (by rfl)) (by rfl) ?_)
            first | (refine WL.yes (by rfl) (Ex.q (q_fieldAddr (by rfl)) (by rfl) ?_)) | (refine WL.yes (by rfl) (Ex.q (q_fieldAddr_rop (by rfl) (by rfl)) (by rfl) ?_)) | (refine WL.yes (by rfl) (Ex.q (q_fieldAddr_pel (by rfl)) (by rfl) ?_))
            first | (refine WL.yes (by rfl) (Ex.h (h_load (by rfl) (by rfl) (by rfl)) (by rfl) ?_)) | (refine WL.yes (by rfl) (Ex.q (q_load (by rfl) (by rfl) (by rfl)) (by rfl) ?_)) | (refine WL.yes (by rfl) (Ex.q (q_load_rop (by rfl) (by rfl)) (by rfl) ?_)) | (refine WL.yes (by rfl) (Ex.h (h_load_pel (by rfl) (by rfl) ?_ (by rfl)) (by rfl) ?_); (· (omega))) | (refine WL.yes (by rfl) (Ex.q (q_load_pel (by rfl) (by rfl) ?_ (by rfl)) (by rfl) ?_); (· (omega)))
            first | (refine WL.yes (by rfl) (Ex.q (q_int (by rfl) (by rfl) (by rfl)) (by rfl) ?_)) | (refine WL.yes (by rfl) (Ex.q (q_eqb (by rfl) (by rfl)) (by rfl) ?_)) | (refine WL.yes (by rfl) (Ex.q (q_eqp rfl rfl (by rfl) (by rfl) ?_) (by rfl) ?_); (· (rfl))) | (refine WL.yes (by rfl) (Ex.q (q_eqs (by rfl) (by rfl)) (by rfl) ?_))
            refine WL.set 112 (.bool true) (by rfl) (congrArg V.bool ((decide_eq_true (by first | omega | (dsimp only; omega))).symm : true = _)) ?_
            refine WL.yes (by rfl) (Ex.q (q_move (by rfl)) (by rfl) ?_)
            refine WL.yes (by rfl) (Ex.q (q_move (by rfl)) (by rfl) ?_)
            refine WL.yes (by rfl) (Ex.q (q_int (by rfl) (by rfl) (by rfl)) (by rfl) ?_)
            refine WL.set 115 (.bool false) (by rfl) (congrArg V.bool ((decide_eq_false (by first | omega | (dsimp only; omega))).symm : false = _)) ?_
            refine WL.yes (by rfl) (Ex.q (q_move (by rfl)) (by rfl) ?_)
            refine WL.yes (by rfl) (Ex.q (q_move (by rfl)) (by rfl) ?_)
            refine WL.yes (by rfl) (Ex.q (q_int (by rfl) (by rfl) (by rfl)) (by rfl) ?_)
            refine WL.set 118 (.bool false) (by rfl) (congrArg V.bool ((decide_eq_false (by first | omega | (dsimp only; omega))).symm : false = _)) ?_
            refine WL.yes (by rfl) (Ex.q (q_pick_f (by rfl) (by rfl)) (by rfl) ?_)
            refine WL.yes (by rfl) (Ex.q (q_pick_t (by rfl) (by rfl)) (by rfl) ?_)
            refine WL.yes (by rfl) (Ex.q (q_pick_f (by rfl) (by rfl)) (by rfl) ?_)
            refine WL.nil ?_
            (repeat refine J.seq ?_)
            refine J.condF (by rfl) ?_
            (repeat refine J.seq ?_)
            refine J.skip ?_
            (repeat refine J.seq ?_)
            refine J.region ?_
            refine WL.yes (by rfl) (Ex.q (q_move (by rfl)) (by rfl) ?_)
            refine WL.yes (by rfl) (Ex.q (q_move (by rfl)) (by rfl) ?_)
            refine WL.yes (by rfl) (Ex.q (q_move (by rfl)) (by rfl) ?_)
            refine WL.yes (by rfl) (Ex.q (q_move (by rfl)) (by rfl) ?_)
            first | (refine WL.yes (by rfl) (Ex.q (q_indexAddr_ros (by rfl) (by rfl) (by intro _; rfl) ?_ ?_) (by rfl) ?_); (· (omega)); (· (omega))) | (refine WL.yes (by rfl) (Ex.q (q_indexAddr_sl (by rfl) (by rfl) ?_ ?_) (by rfl) ?_); (· (omega)); (· (omega))) | (refine WL.yes (by rfl) (Ex.q (q_indexAddr_arr (by rfl) (by rfl) ?_ ?_) (by rfl) ?_); (· (omega)); (· (omega)))
            first | (refine WL.yes (by rfl) (Ex.q (q_fieldAddr (by rfl)) (by rfl) ?_)) | (refine WL.yes (by rfl) (Ex.q (q_fieldAddr_rop (by rfl) (by rfl)) (by rfl) ?_)) | (refine WL.yes (by rfl) (Ex.q (q_fieldAddr_pel (by rfl)) (by rfl) ?_))
            first | (refine WL.yes (by rfl) (Ex.h (h_load (by rfl) (by rfl) (by rfl)) (by rfl) ?_)) | (refine WL.yes (by rfl) (Ex.q (q_load (by rfl) (by rfl) (by rfl)) (by rfl) ?_)) | (refine WL.yes (by rfl) (Ex.q (q_load_rop (by rfl) (by rfl)) (by rfl) ?_)) | (refine WL.yes (by rfl) (Ex.h (h_load_pel (by rfl) (by rfl) ?_ (by rfl)) (by rfl) ?_); (· (omega))) | (refine WL.yes (by rfl) (Ex.q (q_load_pel (by rfl) (by rfl) ?_ (by rfl)) (by rfl) ?_); (· (omega)))
            refine WL.set 128 (.bool (lat l k).ok) (by rfl) (by first | rfl | rw [Int.toNat_natCast] | rw [Nat.zero_add, Int.toNat_natCast]) ?_
            refine WL.yes (by rfl) (Ex.callL (fReply_spec fb mh mw mf wpr (s := { s with wo := o, busy := true }) (now := (now + (lat l k).gap)) (ok := (lat l k).ok) hs1.toFOk (by omega)) (by rfl) (by rfl) (.cons rfl (.cons rfl (.cons rfl (.cons rfl (.cons rfl .nil))))) ?_)
            rintro _ _ ⟨hr, hH9⟩
            rw [reply_zero rfl] at hr
            subst hr hH9
            refine WL.yes (by rfl) (Ex.callq (fnum_spec _) (by rfl) (by rfl) rfl (fun _ h => h) ?_)
            first | (refine WL.yes (by rfl) (Ex.q (q_int (by rfl) (by rfl) (by rfl)) (by rfl) ?_)) | (refine WL.yes (by rfl) (Ex.q (q_neb (by rfl) (by rfl)) (by rfl) ?_)) | (refine WL.yes (by rfl) (Ex.q (q_nep rfl rfl (by rfl) (by rfl) ?_) (by rfl) ?_); (· (rfl))) | (refine WL.yes (by rfl) (Ex.q (q_eqs (by rfl) (by rfl)) (by rfl) ?_))
            refine WL.set 131 (.bool false) (by rfl) (congrArg V.bool ((by simp) : false = _)) ?_
            refine WL.yes (by rfl) (Ex.q (q_move (by rfl)) (by rfl) ?_)
            refine WL.yes (by rfl) (Ex.q (q_move (by rfl)) (by rfl) ?_)
            refine WL.yes (by rfl) (Ex.q (q_move (by rfl)) (by rfl) ?_)
            refine WL.yes (by rfl) (Ex.callL (fReply_spec fb mh mw mf wpr (s := (FS.reply (now + (lat l k).gap) (lat l k).ok { s with wo := o, busy := true }).2) (now := (now + (lat l k).gap)) (ok := true) hs2.toFOk (by omega)) (by rfl) (by rfl) (.cons rfl (.cons rfl (.cons rfl (.cons rfl (.cons rfl .nil))))) ?_)
            rintro _ _ ⟨hr, hH9⟩
            rw [reply_no reply_busy] at hr hH9
            subst hr hH9
            refine WL.yes (by rfl) (Ex.callq (fnum_spec _) (by rfl) (by rfl) rfl (fun _ h => h) ?_)
            first | (refine WL.yes (by rfl) (Ex.q (q_int (by rfl) (by rfl) (by rfl)) (by rfl) ?_)) | (refine WL.yes (by rfl) (Ex.q (q_neb (by rfl) (by rfl)) (by rfl) ?_)) | (refine WL.yes (by rfl) (Ex.q (q_nep rfl rfl (by rfl) (by rfl) ?_) (by rfl) ?_); (· (rfl))) | (refine WL.yes (by rfl) (Ex.q (q_eqs (by rfl) (by rfl)) (by rfl) ?_))
            refine WL.set 137 (.bool false) (by rfl) (congrArg V.bool ((by simp) : false = _)) ?_
            refine WL.yes (by rfl) (Ex.q (q_pick_f (by rfl) (by rfl)) (by rfl) ?_)
            refine WL.nil ?_
            (repeat refine J.seq ?_)
            refine J.condF (by rfl) ?_
            (repeat refine J.seq ?_)
            refine J.skip ?_
            (repeat refine J.seq ?_)
            refine J.region ?_
            refine WL.yes (by rfl) (Ex.q (q_move (by rfl)) (by rfl) ?_)
            refine WL.yes (by rfl) (Ex.q (q_move (by rfl)) (by rfl) ?_)
            first | (refine WL.yes (by rfl) (Ex.q (q_indexAddr_ros (by rfl) (by rfl) (by intro _; rfl) ?_ ?_) (by rfl) ?_); (· (omega)); (· (omega))) | (refine WL.yes (by rfl) (Ex.q (q_indexAddr_sl (by rfl) (by rfl) ?_ ?_) (by rfl) ?_); (· (omega)); (· (omega))) | (refine WL.yes (by rfl) (Ex.q (q_indexAddr_arr (by rfl) (by rfl) ?_ ?_) (by rfl) ?_); (· (omega)); (· (omega)))
            first | (refine WL.yes (by rfl) (Ex.q (q_fieldAddr (by rfl)) (by rfl) ?_)) | (refine WL.yes (by rfl) (Ex.q (q_fieldAddr_rop (by rfl) (by rfl)) (by rfl) ?_)) | (refine WL.yes (by rfl) (Ex.q (q_fieldAddr_pel (by rfl)) (by rfl) ?_))
            first | (refine WL.yes (by rfl) (Ex.h (h_load (by rfl) (by rfl) (by rfl)) (by rfl) ?_)) | (refine WL.yes (by rfl) (Ex.q (q_load (by rfl) (by rfl) (by rfl)) (by rfl) ?_)) | (refine WL.yes (by rfl) (Ex.q (q_load_rop (by rfl) (by rfl)) (by rfl) ?_)) | (refine WL.yes (by rfl) (Ex.h (h_load_pel (by rfl) (by rfl) ?_ (by rfl)) (by rfl) ?_); (· (omega))) | (refine WL.yes (by rfl) (Ex.q (q_load_pel (by rfl) (by rfl) ?_ (by rfl)) (by rfl) ?_); (· (omega)))
            refine WL.set 143 (.bool (lat l k).ok) (by rfl) (by first | rfl | rw [Int.toNat_natCast] | rw [Nat.zero_add, Int.toNat_natCast]) ?_
            refine WL.nil ?_
            (repeat refine J.seq ?_)
            refine J.cond (by rfl) (fun c143 => ?_) (fun c143 => ?_)
            · skip
              (first | have e143 := of_decide_eq_true c143 | have e143 := of_decide_eq_false c143 | have e143 := ndec_t c143 | have e143 := ndec_f c143 | skip)
              have hok : (lat l k).ok = true := c143
              (repeat refine J.seq ?_)
              refine J.region ?_
              first | (refine WL.yes (by rfl) (Ex.q (q_fieldAddr (by rfl)) (by rfl) ?_)) | (refine WL.yes (by rfl) (Ex.q (q_fieldAddr_rop (by rfl) (by rfl)) (by rfl) ?_)) | (refine WL.yes (by rfl) (Ex.q (q_fieldAddr_pel (by rfl)) (by rfl) ?_))
              first | (refine WL.yes (by rfl) (Ex.h (h_load (by rfl) (by rfl) (by rfl)) (by rfl) ?_)) | (refine WL.yes (by rfl) (Ex.q (q_load (by rfl) (by rfl) (by rfl)) (by rfl) ?_)) | (refine WL.yes (by rfl) (Ex.q (q_load_rop (by rfl) (by rfl)) (by rfl) ?_)) | (refine WL.yes (by rfl) (Ex.h (h_load_pel (by rfl) (by rfl) ?_ (by rfl)) (by rfl) ?_); (· (omega))) | (refine WL.yes (by rfl) (Ex.q (q_load_pel (by rfl) (by rfl) ?_ (by rfl)) (by rfl) ?_); (· (omega)))
              first | (refine WL.yes (by rfl) (Ex.q (q_int (by rfl) (by rfl) (by rfl)) (by rfl) ?_)) | (refine WL.yes (by rfl) (Ex.q (q_eqb (by rfl) (by rfl)) (by rfl) ?_)) | (refine WL.yes (by rfl) (Ex.q (q_eqp rfl rfl (by rfl) (by rfl) ?_) (by rfl) ?_); (· (rfl))) | (refine WL.yes (by rfl) (Ex.q (q_eqs (by rfl) (by rfl)) (by rfl) ?_))
              refine WL.nil ?_
              (repeat refine J.seq ?_)
              refine J.cond (by rfl) (fun c146 => ?_) (fun c146 => ?_)
              · skip
                (first | have e146 := of_decide_eq_true c146 | have e146 := of_decide_eq_false c146 | have e146 := ndec_t c146 | have e146 := ndec_f c146 | skip)
                have h3k : o.k = 3 := e146
                obtain ⟨k0, hk0, hk1, hk4⟩ := fnd_ge (p := o.e.p) (l := s.H) (by omega)
                have hH : (FS.reply (now + (lat l k).gap) (lat l k).ok { s with wo := o, busy := true }).2.H = s.H.take k0 ++ s.H.drop (k0 + 1) := by rw [hok, reply_rem rfl h3k, tdel_at hs.h hk1 hk4]
                refine J.veccap (t := 4) rfl (fun hcap1 => ?_)
                rw [hk0]
                (repeat refine J.seq ?_)
                refine J.draw [4, 7, 1051, 1052, 1053, 1054, 1060] 9999 [(1, true), (2, true), (3, true), (5, true), (6, true), (7, true), (8, true), (0, false), (4, false), (9, false), (10, true)] (by kernel_rfl) rfl (by kernel_rfl) ?_
                intro F2 hF2
                refine WS.take rfl (by rfl) (by rfl) (q_move (by rfl)) ?_
                refine WS.take rfl (by rfl) (by rfl) (q_move (by rfl)) ?_
                first | (refine WS.take rfl (by rfl) (by rfl) (q_slice_arr (by rfl) (by rfl) (by rfl) ?_ ?_ ?_) ?_; (· (omega)); (· (omega)); (· (omega))) | (refine WS.take rfl (by rfl) (by rfl) (q_slice_ros (by rfl) (by intro _; rfl) (by rfl) (by rfl) ?_ ?_ ?_) ?_; (· (omega)); (· (omega)); (· (omega))) | (refine WS.take rfl (by rfl) (by rfl) (q_slice_sl (by rfl) (by rfl) (by rfl) ?_ ?_ ?_) ?_; (· (omega)); (· (omega)); (· (omega))) | (refine WS.take rfl (by rfl) (by rfl) (q_slice_sla (by rfl) (by rfl) (Nat.le_refl _) (by rfl) (by rfl) ?_ ?_ ?_) ?_; (· (omega)); (· (omega)); (· (omega)))
                refine WS.take rfl (by rfl) (by rfl) (q_move (by rfl)) ?_
                refine WS.take rfl (by rfl) (by rfl) (q_move (by rfl)) ?_
                refine WS.take rfl (by rfl) (by rfl) (q_int (by rfl) (by rfl) (by rfl)) ?_
                refine WS.set 154 (iV ((k0 + 1 : Nat) : Int)) (by rfl) (congrArg iV (w64_nat (by omega)).symm) ?_
                first | (refine WS.take rfl (by rfl) (by rfl) (q_slice_arr (by rfl) (by rfl) (by rfl) ?_ ?_ ?_) ?_; (· (omega)); (· (omega)); (· (omega))) | (refine WS.take rfl (by rfl) (by rfl) (q_slice_ros (by rfl) (by intro _; rfl) (by rfl) (by rfl) ?_ ?_ ?_) ?_; (· (omega)); (· (omega)); (· (omega))) | (refine WS.take rfl (by rfl) (by rfl) (q_slice_sl (by rfl) (by rfl) (by rfl) ?_ ?_ ?_) ?_; (· (omega)); (· (omega)); (· (omega))) | (refine WS.take rfl (by rfl) (by rfl) (q_slice_sla (by rfl) (by rfl) (Nat.le_refl _) (by rfl) (by rfl) ?_ ?_ ?_) ?_; (· (omega)); (· (omega)); (· (omega)))
                refine WS.ex rfl (by rfl) (Ex.buildSlice (parts := []) (us := []) (by rfl) (by rfl) rfl (by rfl) (by rfl) ?_)
                intro b147
                refine WS.ex rfl (by rfl) (Ex.append0 enE (l' := s.H.take k0) (by rfl) (by rfl) (by rfl) (by rfl) (Rd.subR _ (by rfl) ?_ ?_) ?_ ?_); (· (exact take_in (by omega))); (· (exact take_sl)); (· (simp; omega))
                intro a151 cap151
                refine WS.ex rfl (by rfl) (Ex.append (e := enE) (l := (s.H.take k0)) (l' := s.H.drop (k0 + 1)) (by rfl) (by rfl) (by rfl) (by rfl) (Rd.subR _ (by rfl) ?_ ?_) ?_ ?_); (· (exact drop_in hcap1 (by omega))); (· (exact drop_sl hcap1 (by omega))); (· (simp; omega))
                intro a156 cap156
                refine WS.take rfl (by rfl) (by rfl) (q_assign (by rfl)) ?_
                refine WS.nil ?_
                (repeat refine J.seq ?_)
                refine J.region ?_
                refine WL.yes (by rfl) (Ex.q (q_move (by rfl)) (by rfl) ?_)
                refine WL.yes (by rfl) (Ex.callL (fHas_spec fb mh mw mf wpr (s := (FS.reply (now + (lat l k).gap) (lat l k).ok { s with wo := o, busy := true }).2) hs2.toFOk) (by rfl) (by rfl) (.cons rfl (.cons rfl (.cons rfl (.cons rfl (.cons rfl .nil))))) ?_)
                rintro _ _ ⟨a162, cap162, rfl, rfl⟩
                refine WL.yes (by rfl) (Ex.q (q_move (by rfl)) (by rfl) ?_)
                refine WL.yes (by rfl) (Ex.callqz (same_spec (l := (FS.reply (now + (lat l k).gap) (lat l k).ok { s with wo := o, busy := true }).2.H) (l2 := _) ?_ ?_ ?_) (by rfl) (by rfl) (.cons (.sla (by rfl)) (.cons (.sla (by rfl)) .nil)) (fun _ => trivial) ?_); (· (have := hs2.lh; omega)); (· (exact hs2.h.ok)); (· (rw [← hH]; exact hs2.h.ok))
                refine WL.set 164 (.bool true) (by rfl) (congrArg V.bool ((decide_eq_true hH).symm : true = _)) ?_
                refine WL.yes (by rfl) (Ex.q (q_not (by rfl)) (by rfl) ?_)
                refine WL.nil ?_
                (repeat refine J.seq ?_)
                refine J.condF (by rfl) ?_
                (repeat refine J.seq ?_)
                refine J.skip ?_
                (repeat refine J.seq ?_)
                refine J.region ?_
                refine WL.yes (by rfl) (Ex.q (q_move (by rfl)) (by rfl) ?_)
                refine WL.yes (by rfl) (Ex.q (q_int (by rfl) (by rfl) (by rfl)) (by rfl) ?_)
                refine WL.yes (by rfl) (Ex.q (q_assign (by rfl)) (by rfl) ?_)
                refine WL.nil ?_
                first | (refine Kloop.nextP (k + 1, s.want (lat l k).l, mwq, wp, (now + (lat l k).gap), aX, cX) ?_ ?_ ⟨same (by rw [← w64_nat (k := k) (by omega)]; rfl), same rfl, same rfl, trivial⟩ ⟨same rfl, same rfl, trivial⟩ (.cons (s := 1060) rfl (CLe.refl _ _) rfl (.cons (s := 1051) rfl (CLe.refl _ _) rfl (.cons (s := 1052) rfl (CLe.refl _ _) rfl (.cons (s := 1053) rfl (CLe.refl _ _) rfl (.cons (s := 1054) rfl (CLe.refl _ _) rfl (.cons (s := 4) rfl (CLe.refl _ _) rfl .nil)))))); (· (exact ⟨by (try dsimp only); omega, (hs.want hact hg.2.2).mono (by omega), by (try dsimp only); omega, by (try dsimp only); omega, hb⟩)); (· ((try dsimp only) <;> omega))) | (refine Kloop.nextP (k + 1, (FS.reply (now + (lat l k).gap) (lat l k).ok { s with wo := o, busy := true }).2, mw, wpr, (now + (lat l k).gap), a156, cap156) ?_ ?_ ⟨same (by rw [← w64_nat (k := k) (by omega)]; rfl), same rfl, ⟨_, rfl, by rw [hH]; cases a156 <;> rfl, fun _ => trivial⟩, trivial⟩ ⟨same rfl, same rfl, trivial⟩ (.cons (s := 1060) rfl (CLe.refl _ _) rfl (.cons (s := 1051) rfl (CLe.refl _ _) rfl (.cons (s := 1052) rfl (CLe.refl _ _) rfl (.cons (s := 1053) rfl (CLe.refl _ _) rfl (.cons (s := 1054) rfl (CLe.refl _ _) rfl (.cons (s := 156) rfl (by rw [hH]; exact CLe.refl _ _) rfl .nil)))))); (· (exact ⟨by (try dsimp only); omega, hs2, by (try dsimp only); omega, by (try dsimp only); omega, reply_busy⟩)); (· ((try dsimp only) <;> omega))) | (refine Kloop.nextP (k + 1, (FS.reply (now + (lat l k).gap) (lat l k).ok { s with wo := o, busy := true }).2, mw, wpr, (now + (lat l k).gap), a160, cap160) ?_ ?_ ⟨same (by rw [← w64_nat (k := k) (by omega)]; rfl), same rfl, ⟨_, rfl, by rw [hH]; cases a160 <;> rfl, fun _ => trivial⟩, trivial⟩ ⟨same rfl, same rfl, trivial⟩ (.cons (s := 1060) rfl (CLe.refl _ _) rfl (.cons (s := 1051) rfl (CLe.refl _ _) rfl (.cons (s := 1052) rfl (CLe.refl _ _) rfl (.cons (s := 1053) rfl (CLe.refl _ _) rfl (.cons (s := 1054) rfl (CLe.refl _ _) rfl (.cons (s := 2044) rfl (by rw [hH]; exact CLe.refl _ _) rfl .nil)))))); (· (exact ⟨by (try dsimp only); omega, hs2, by (try dsimp only); omega, by (try dsimp only); omega, reply_busy⟩)); (· ((try dsimp only) <;> omega))) | (refine Kloop.nextP (k + 1, (FS.reply (now + (lat l k).gap) (lat l k).ok { s with wo := o, busy := true }).2, mw, wpr, (now + (lat l k).gap), aX, cX) ?_ ?_ ⟨same (by rw [← w64_nat (k := k) (by omega)]; rfl), same rfl, ⟨_, rfl, by rw [hH], fun _ => trivial⟩, trivial⟩ ⟨same rfl, same rfl, trivial⟩ (.cons (s := 1060) rfl (CLe.refl _ _) rfl (.cons (s := 1051) rfl (CLe.refl _ _) rfl (.cons (s := 1052) rfl (CLe.refl _ _) rfl (.cons (s := 1053) rfl (CLe.refl _ _) rfl (.cons (s := 1054) rfl (CLe.refl _ _) rfl (.cons (s := 4) rfl (by rw [hH]; exact CLe.refl _ _) rfl .nil)))))); (· (exact ⟨by (try dsimp only); omega, hs2, by (try dsimp only); omega, by (try dsimp only); omega, reply_busy⟩)); (· ((try dsimp only) <;> omega))) | (refine Kloop.nextP (k + 1, s, mw, wpq, (now + (lat l k).gap), aX, cX) ?_ ?_ ⟨same (by rw [← w64_nat (k := k) (by omega)]; rfl), same rfl, same rfl, trivial⟩ ⟨same rfl, same rfl, trivial⟩ (.cons (s := 1060) rfl (CLe.refl _ _) rfl (.cons (s := 1051) rfl (CLe.refl _ _) rfl (.cons (s := 1052) rfl (CLe.refl _ _) rfl (.cons (s := 1053) rfl (CLe.refl _ _) rfl (.cons (s := 1054) rfl (CLe.refl _ _) rfl (.cons (s := 4) rfl (CLe.refl _ _) rfl .nil)))))); (· (exact ⟨by (try dsimp only); omega, hs.mono (by omega), by (try dsimp only); omega, by (try dsimp only); omega, hb⟩)); (· ((try dsimp only) <;> omega)))
              · skip
                (first | have e146 := of_decide_eq_true c146 | have e146 := of_decide_eq_false c146 | have e146 := ndec_t c146 | have e146 := ndec_f c146 | skip)
                have h3k : ¬ o.k = 3 := e146
                have hH : (FS.reply (now + (lat l k).gap) (lat l k).ok { s with wo := o, busy := true }).2.H = tput o.e s.H := by rw [hok, reply_put rfl h3k]
                (repeat refine J.seq ?_)
                refine J.region ?_
                refine WL.yes (by rfl) (Ex.q (q_move (by rfl)) (by rfl) ?_)
                first | (refine WL.yes (by rfl) (Ex.q (q_fieldAddr (by rfl)) (by rfl) ?_)) | (refine WL.yes (by rfl) (Ex.q (q_fieldAddr_rop (by rfl) (by rfl)) (by rfl) ?_)) | (refine WL.yes (by rfl) (Ex.q (q_fieldAddr_pel (by rfl)) (by rfl) ?_))
                first | (refine WL.yes (by rfl) (Ex.h (h_load (by rfl) (by rfl) (by rfl)) (by rfl) ?_)) | (refine WL.yes (by rfl) (Ex.q (q_load (by rfl) (by rfl) (by rfl)) (by rfl) ?_)) | (refine WL.yes (by rfl) (Ex.q (q_load_rop (by rfl) (by rfl)) (by rfl) ?_)) | (refine WL.yes (by rfl) (Ex.h (h_load_pel (by rfl) (by rfl) ?_ (by rfl)) (by rfl) ?_); (· (omega))) | (refine WL.yes (by rfl) (Ex.q (q_load_pel (by rfl) (by rfl) ?_ (by rfl)) (by rfl) ?_); (· (omega)))
                refine WL.yes (by rfl) (Ex.callz _ [] [] (put_spec (l := s.H) (e := o.e) ?_ ?_ ?_) (by rfl) (by rfl) (.cons (.sla (by rfl)) (.cons (.same _) .nil)) (fun t c hg => by simp [get] at hg) plain_put ?_); (· (omega)); (· (exact hs.h)); (· (exact hoe))
                rintro _ _ ⟨a160, cap160, rfl, rfl⟩
                refine WL.yes (by rfl) (Ex.q (q_assign (by rfl)) (by rfl) ?_)
                refine WL.nil ?_
                (repeat refine J.seq ?_)
                refine J.region ?_
                refine WL.yes (by rfl) (Ex.q (q_move (by rfl)) (by rfl) ?_)
                refine WL.yes (by rfl) (Ex.callL (fHas_spec fb mh mw mf wpr (s := (FS.reply (now + (lat l k).gap) (lat l k).ok { s with wo := o, busy := true }).2) hs2.toFOk) (by rfl) (by rfl) (.cons rfl (.cons rfl (.cons rfl (.cons rfl (.cons rfl .nil))))) ?_)
                rintro _ _ ⟨a162, cap162, rfl, rfl⟩
                refine WL.yes (by rfl) (Ex.q (q_move (by rfl)) (by rfl) ?_)
                refine WL.yes (by rfl) (Ex.callqz (same_spec (l := (FS.reply (now + (lat l k).gap) (lat l k).ok { s with wo := o, busy := true }).2.H) (l2 := _) ?_ ?_ ?_) (by rfl) (by rfl) (.cons (.sla (by rfl)) (.cons (.sla (by rfl)) .nil)) (fun _ => trivial) ?_); (· (have := hs2.lh; omega)); (· (exact hs2.h.ok)); (· (rw [← hH]; exact hs2.h.ok))
                refine WL.set 164 (.bool true) (by rfl) (congrArg V.bool ((decide_eq_true hH).symm : true = _)) ?_
                refine WL.yes (by rfl) (Ex.q (q_not (by rfl)) (by rfl) ?_)
                refine WL.nil ?_
                (repeat refine J.seq ?_)
                refine J.condF (by rfl) ?_
                (repeat refine J.seq ?_)
                refine J.skip ?_
                (repeat refine J.seq ?_)
                refine J.region ?_
                refine WL.yes (by rfl) (Ex.q (q_move (by rfl)) (by rfl) ?_)
                refine WL.yes (by rfl) (Ex.q (q_int (by rfl) (by rfl) (by rfl)) (by rfl) ?_)
                refine WL.yes (by rfl) (Ex.q (q_assign (by rfl)) (by rfl) ?_)
                refine WL.nil ?_
                first | (refine Kloop.nextP (k + 1, s.want (lat l k).l, mwq, wp, (now + (lat l k).gap), aX, cX) ?_ ?_ ⟨same (by rw [← w64_nat (k := k) (by omega)]; rfl), same rfl, same rfl, trivial⟩ ⟨same rfl, same rfl, trivial⟩ (.cons (s := 1060) rfl (CLe.refl _ _) rfl (.cons (s := 1051) rfl (CLe.refl _ _) rfl (.cons (s := 1052) rfl (CLe.refl _ _) rfl (.cons (s := 1053) rfl (CLe.refl _ _) rfl (.cons (s := 1054) rfl (CLe.refl _ _) rfl (.cons (s := 4) rfl (CLe.refl _ _) rfl .nil)))))); (· (exact ⟨by (try dsimp only); omega, (hs.want hact hg.2.2).mono (by omega), by (try dsimp only); omega, by (try dsimp only); omega, hb⟩)); (· ((try dsimp only) <;> omega))) | (refine Kloop.nextP (k + 1, (FS.reply (now + (lat l k).gap) (lat l k).ok { s with wo := o, busy := true }).2, mw, wpr, (now + (lat l k).gap), a156, cap156) ?_ ?_ ⟨same (by rw [← w64_nat (k := k) (by omega)]; rfl), same rfl, ⟨_, rfl, by rw [hH]; cases a156 <;> rfl, fun _ => trivial⟩, trivial⟩ ⟨same rfl, same rfl, trivial⟩ (.cons (s := 1060) rfl (CLe.refl _ _) rfl (.cons (s := 1051) rfl (CLe.refl _ _) rfl (.cons (s := 1052) rfl (CLe.refl _ _) rfl (.cons (s := 1053) rfl (CLe.refl _ _) rfl (.cons (s := 1054) rfl (CLe.refl _ _) rfl (.cons (s := 156) rfl (by rw [hH]; exact CLe.refl _ _) rfl .nil)))))); (· (exact ⟨by (try dsimp only); omega, hs2, by (try dsimp only); omega, by (try dsimp only); omega, reply_busy⟩)); (· ((try dsimp only) <;> omega))) | (refine Kloop.nextP (k + 1, (FS.reply (now + (lat l k).gap) (lat l k).ok { s with wo := o, busy := true }).2, mw, wpr, (now + (lat l k).gap), a160, cap160) ?_ ?_ ⟨same (by rw [← w64_nat (k := k) (by omega)]; rfl), same rfl, ⟨_, rfl, by rw [hH]; cases a160 <;> rfl, fun _ => trivial⟩, trivial⟩ ⟨same rfl, same rfl, trivial⟩ (.cons (s := 1060) rfl (CLe.refl _ _) rfl (.cons (s := 1051) rfl (CLe.refl _ _) rfl (.cons (s := 1052) rfl (CLe.refl _ _) rfl (.cons (s := 1053) rfl (CLe.refl _ _) rfl (.cons (s := 1054) rfl (CLe.refl _ _) rfl (.cons (s := 2044) rfl (by rw [hH]; exact CLe.refl _ _) rfl .nil)))))); (· (exact ⟨by (try dsimp only); omega, hs2, by (try dsimp only); omega, by (try dsimp only); omega, reply_busy⟩)); (· ((try dsimp only) <;> omega))) | (refine Kloop.nextP (k + 1, (FS.reply (now + (lat l k).gap) (lat l k).ok { s with wo := o, busy := true }).2, mw, wpr, (now + (lat l k).gap), aX, cX) ?_ ?_ ⟨same (by rw [← w64_nat (k := k) (by omega)]; rfl), same rfl, ⟨_, rfl, by rw [hH], fun _ => trivial⟩, trivial⟩ ⟨same rfl, same rfl, trivial⟩ (.cons (s := 1060) rfl (CLe.refl _ _) rfl (.cons (s := 1051) rfl (CLe.refl _ _) rfl (.cons (s := 1052) rfl (CLe.refl _ _) rfl (.cons (s := 1053) rfl (CLe.refl _ _) rfl (.cons (s := 1054) rfl (CLe.refl _ _) rfl (.cons (s := 4) rfl (by rw [hH]; exact CLe.refl _ _) rfl .nil)))))); (· (exact ⟨by (try dsimp only); omega, hs2, by (try dsimp only); omega, by (try dsimp only); omega, reply_busy⟩)); (· ((try dsimp only) <;> omega))) | (refine Kloop.nextP (k + 1, s, mw, wpq, (now + (lat l k).gap), aX, cX) ?_ ?_ ⟨same (by rw [← w64_nat (k := k) (by omega)]; rfl), same rfl, same rfl, trivial⟩ ⟨same rfl, same rfl, trivial⟩ (.cons (s := 1060) rfl (CLe.refl _ _) rfl (.cons (s := 1051) rfl (CLe.refl _ _) rfl (.cons (s := 1052) rfl (CLe.refl _ _) rfl (.cons (s := 1053) rfl (CLe.refl _ _) rfl (.cons (s := 1054) rfl (CLe.refl _ _) rfl (.cons (s := 4) rfl (CLe.refl _ _) rfl .nil)))))); (· (exact ⟨by (try dsimp only); omega, hs.mono (by omega), by (try dsimp only); omega, by (try dsimp only); omega, hb⟩)); (· ((try dsimp only) <;> omega)))
            · skip
              (first | have e143 := of_decide_eq_true c143 | have e143 := of_decide_eq_false c143 | have e143 := ndec_t c143 | have e143 := ndec_f c143 | skip)
              have hok : (lat l k).ok = false := c143
              have hH : (FS.reply (now + (lat l k).gap) (lat l k).ok { s with wo := o, busy := true }).2.H = s.H := by rw [hok, reply_fail rfl]
              (repeat refine J.seq ?_)
              refine J.skip ?_
              (repeat refine J.seq ?_)
              refine J.region ?_
              refine WL.yes (by rfl) (Ex.q (q_move (by rfl)) (by rfl) ?_)
              refine WL.yes (by rfl) (Ex.callL (fHas_spec fb mh mw mf wpr (s := (FS.reply (now + (lat l k).gap) (lat l k).ok { s with wo := o, busy := true }).2) hs2.toFOk) (by rfl) (by rfl) (.cons rfl (.cons rfl (.cons rfl (.cons rfl (.cons rfl .nil))))) ?_)
              rintro _ _ ⟨a162, cap162, rfl, rfl⟩
              refine WL.yes (by rfl) (Ex.q (q_move (by rfl)) (by rfl) ?_)
              refine WL.yes (by rfl) (Ex.callqz (same_spec (l := (FS.reply (now + (lat l k).gap) (lat l k).ok { s with wo := o, busy := true }).2.H) (l2 := _) ?_ ?_ ?_) (by rfl) (by rfl) (.cons (.sla (by rfl)) (.cons (.sla (by rfl)) .nil)) (fun _ => trivial) ?_); (· (have := hs2.lh; omega)); (· (exact hs2.h.ok)); (· (rw [← hH]; exact hs2.h.ok))
              refine WL.set 164 (.bool true) (by rfl) (congrArg V.bool ((decide_eq_true hH).symm : true = _)) ?_
              refine WL.yes (by rfl) (Ex.q (q_not (by rfl)) (by rfl) ?_)
              refine WL.nil ?_
              (repeat refine J.seq ?_)
              refine J.condF (by rfl) ?_
              (repeat refine J.seq ?_)
              refine J.skip ?_
              (repeat refine J.seq ?_)
              refine J.region ?_
              refine WL.yes (by rfl) (Ex.q (q_move (by rfl)) (by rfl) ?_)
              refine WL.yes (by rfl) (Ex.q (q_int (by rfl) (by rfl) (by rfl)) (by rfl) ?_)
              refine WL.yes (by rfl) (Ex.q (q_assign (by rfl)) (by rfl) ?_)
              refine WL.nil ?_
              first | (refine Kloop.nextP (k + 1, s.want (lat l k).l, mwq, wp, (now + (lat l k).gap), aX, cX) ?_ ?_ ⟨same (by rw [← w64_nat (k := k) (by omega)]; rfl), same rfl, same rfl, trivial⟩ ⟨same rfl, same rfl, trivial⟩ (.cons (s := 1060) rfl (CLe.refl _ _) rfl (.cons (s := 1051) rfl (CLe.refl _ _) rfl (.cons (s := 1052) rfl (CLe.refl _ _) rfl (.cons (s := 1053) rfl (CLe.refl _ _) rfl (.cons (s := 1054) rfl (CLe.refl _ _) rfl (.cons (s := 4) rfl (CLe.refl _ _) rfl .nil)))))); (· (exact ⟨by (try dsimp only); omega, (hs.want hact hg.2.2).mono (by omega), by (try dsimp only); omega, by (try dsimp only); omega, hb⟩)); (· ((try dsimp only) <;> omega))) | (refine Kloop.nextP (k + 1, (FS.reply (now + (lat l k).gap) (lat l k).ok { s with wo := o, busy := true }).2, mw, wpr, (now + (lat l k).gap), a156, cap156) ?_ ?_ ⟨same (by rw [← w64_nat (k := k) (by omega)]; rfl), same rfl, ⟨_, rfl, by rw [hH]; cases a156 <;> rfl, fun _ => trivial⟩, trivial⟩ ⟨same rfl, same rfl, trivial⟩ (.cons (s := 1060) rfl (CLe.refl _ _) rfl (.cons (s := 1051) rfl (CLe.refl _ _) rfl (.cons (s := 1052) rfl (CLe.refl _ _) rfl (.cons (s := 1053) rfl (CLe.refl _ _) rfl (.cons (s := 1054) rfl (CLe.refl _ _) rfl (.cons (s := 156) rfl (by rw [hH]; exact CLe.refl _ _) rfl .nil)))))); (· (exact ⟨by (try dsimp only); omega, hs2, by (try dsimp only); omega, by (try dsimp only); omega, reply_busy⟩)); (· ((try dsimp only) <;> omega))) | (refine Kloop.nextP (k + 1, (FS.reply (now + (lat l k).gap) (lat l k).ok { s with wo := o, busy := true }).2, mw, wpr, (now + (lat l k).gap), a160, cap160) ?_ ?_ ⟨same (by rw [← w64_nat (k := k) (by omega)]; rfl), same rfl, ⟨_, rfl, by rw [hH]; cases a160 <;> rfl, fun _ => trivial⟩, trivial⟩ ⟨same rfl, same rfl, trivial⟩ (.cons (s := 1060) rfl (CLe.refl _ _) rfl (.cons (s := 1051) rfl (CLe.refl _ _) rfl (.cons (s := 1052) rfl (CLe.refl _ _) rfl (.cons (s := 1053) rfl (CLe.refl _ _) rfl (.cons (s := 1054) rfl (CLe.refl _ _) rfl (.cons (s := 2044) rfl (by rw [hH]; exact CLe.refl _ _) rfl .nil)))))); (· (exact ⟨by (try dsimp only); omega, hs2, by (try dsimp only); omega, by (try dsimp only); omega, reply_busy⟩)); (· ((try dsimp only) <;> omega))) | (refine Kloop.nextP (k + 1, (FS.reply (now + (lat l k).gap) (lat l k).ok { s with wo := o, busy := true }).2, mw, wpr, (now + (lat l k).gap), aX, cX) ?_ ?_ ⟨same (by rw [← w64_nat (k := k) (by omega)]; rfl), same rfl, ⟨_, rfl, by rw [hH], fun _ => trivial⟩, trivial⟩ ⟨same rfl, same rfl, trivial⟩ (.cons (s := 1060) rfl (CLe.refl _ _) rfl (.cons (s := 1051) rfl (CLe.refl _ _) rfl (.cons (s := 1052) rfl (CLe.refl _ _) rfl (.cons (s := 1053) rfl (CLe.refl _ _) rfl (.cons (s := 1054) rfl (CLe.refl _ _) rfl (.cons (s := 4) rfl (by rw [hH]; exact CLe.refl _ _) rfl .nil)))))); (· (exact ⟨by (try dsimp only); omega, hs2, by (try dsimp only); omega, by (try dsimp only); omega, reply_busy⟩)); (· ((try dsimp only) <;> omega))) | (refine Kloop.nextP (k + 1, s, mw, wpq, (now + (lat l k).gap), aX, cX) ?_ ?_ ⟨same (by rw [← w64_nat (k := k) (by omega)]; rfl), same rfl, same rfl, trivial⟩ ⟨same rfl, same rfl, trivial⟩ (.cons (s := 1060) rfl (CLe.refl _ _) rfl (.cons (s := 1051) rfl (CLe.refl _ _) rfl (.cons (s := 1052) rfl (CLe.refl _ _) rfl (.cons (s := 1053) rfl (CLe.refl _ _) rfl (.cons (s := 1054) rfl (CLe.refl _ _) rfl (.cons (s := 4) rfl (CLe.refl _ _) rfl .nil)))))); (· (exact ⟨by (try dsimp only); omega, hs.mono (by omega), by (try dsimp only); omega, by (try dsimp only); omega, hb⟩)); (· ((try dsimp only) <;> omega)))
          · skip
            (repeat refine J.seq ?_)
            refine J.region ?_
            refine WL.yes (by rfl) (Ex.q (q_move (by rfl)) (by rfl) ?_)
            refine WL.yes (by rfl) (Ex.q (q_move (by rfl)) (by rfl) ?_)
            refine WL.yes (by rfl) (Ex.q (q_move (by rfl)) (by rfl) ?_)
            refine WL.yes (by rfl) (Ex.callL (fDrained_spec fb mh mw mf wpr (s := { s with wo := o, busy := true }) hs1.toFOk) (by rfl) (by rfl) (.cons rfl (.cons rfl (.cons rfl (.cons rfl (.cons rfl .nil))))) ?_)
            rintro _ _ ⟨rfl, rfl⟩
            refine WL.set 81 (.bool false) (by rfl) (congrArg V.bool ((drained_busy rfl).symm : false = _)) ?_
            refine WL.yes (by rfl) (Ex.q (q_pick_f (by rfl) (by rfl)) (by rfl) ?_)
            refine WL.yes (by rfl) (Ex.q (q_move (by rfl)) (by rfl) ?_)
            first | (refine WL.yes (by rfl) (Ex.q (q_fieldAddr (by rfl)) (by rfl) ?_)) | (refine WL.yes (by rfl) (Ex.q (q_fieldAddr_rop (by rfl) (by rfl)) (by rfl) ?_)) | (refine WL.yes (by rfl) (Ex.q (q_fieldAddr_pel (by rfl)) (by rfl) ?_))
            first | (refine WL.yes (by rfl) (Ex.h (h_load (by rfl) (by rfl) (by rfl)) (by rfl) ?_)) | (refine WL.yes (by rfl) (Ex.q (q_load (by rfl) (by rfl) (by rfl)) (by rfl) ?_)) | (refine WL.yes (by rfl) (Ex.q (q_load_rop (by rfl) (by rfl)) (by rfl) ?_)) | (refine WL.yes (by rfl) (Ex.h (h_load_pel (by rfl) (by rfl) ?_ (by rfl)) (by rfl) ?_); (· (omega))) | (refine WL.yes (by rfl) (Ex.q (q_load_pel (by rfl) (by rfl) ?_ (by rfl)) (by rfl) ?_); (· (omega)))
            first | (refine WL.yes (by rfl) (Ex.q (q_int (by rfl) (by rfl) (by rfl)) (by rfl) ?_)) | (refine WL.yes (by rfl) (Ex.q (q_eqb (by rfl) (by rfl)) (by rfl) ?_)) | (refine WL.yes (by rfl) (Ex.q (q_eqp rfl rfl (by rfl) (by rfl) ?_) (by rfl) ?_); (· (rfl))) | (refine WL.yes (by rfl) (Ex.q (q_eqs (by rfl) (by rfl)) (by rfl) ?_))
            refine WL.set 86 (.bool true) (by rfl) (congrArg V.bool ((decide_eq_true (by first | omega | (dsimp only; omega))).symm : true = _)) ?_
            refine WL.yes (by rfl) (Ex.q (q_move (by rfl)) (by rfl) ?_)
            refine WL.yes (by rfl) (Ex.q (q_move (by rfl)) (by rfl) ?_)
            refine WL.yes (by rfl) (Ex.q (q_int (by rfl) (by rfl) (by rfl)) (by rfl) ?_)
            refine WL.set 89 (.bool false) (by rfl) (congrArg V.bool ((decide_eq_false (by first | omega | (dsimp only; omega))).symm : false = _)) ?_
            refine WL.yes (by rfl) (Ex.q (q_move (by rfl)) (by rfl) ?_)
            refine WL.yes (by rfl) (Ex.q (q_move (by rfl)) (by rfl) ?_)
            refine WL.yes (by rfl) (Ex.q (q_int (by rfl) (by rfl) (by rfl)) (by rfl) ?_)
            refine WL.set 92 (.bool false) (by rfl) (congrArg V.bool ((decide_eq_false (by first | omega | (dsimp only; omega))).symm : false = _)) ?_
            refine WL.yes (by rfl) (Ex.q (q_pick_f (by rfl) (by rfl)) (by rfl) ?_)
            refine WL.yes (by rfl) (Ex.q (q_pick_t (by rfl) (by rfl)) (by rfl) ?_)
            refine WL.yes (by rfl) (Ex.q (q_pick_f (by rfl) (by rfl)) (by rfl) ?_)
            refine WL.yes (by rfl) (Ex.q (q_move (by rfl)) (by rfl) ?_)
            first | (refine WL.yes (by rfl) (Ex.q (q_fieldAddr (by rfl)) (by rfl) ?_)) | (refine WL.yes (by rfl) (Ex.q (q_fieldAddr_rop (by rfl) (by rfl)) (by rfl) ?_)) | (refine WL.yes (by rfl) (Ex.q (q_fieldAddr_pel (by rfl)) (by rfl) ?_))
            first | (refine WL.yes (by rfl) (Ex.h (h_load (by rfl) (by rfl) (by rfl)) (by rfl) ?_)) | (refine WL.yes (by rfl) (Ex.q (q_load (by rfl) (by rfl) (by rfl)) (by rfl) ?_)) | (refine WL.yes (by rfl) (Ex.q (q_load_rop (by rfl) (by rfl)) (by rfl) ?_)) | (refine WL.yes (by rfl) (Ex.h (h_load_pel (by rfl) (by rfl) ?_ (by rfl)) (by rfl) ?_); (· (omega))) | (refine WL.yes (by rfl) (Ex.q (q_load_pel (by rfl) (by rfl) ?_ (by rfl)) (by rfl) ?_); (· (omega)))
            first | (refine WL.yes (by rfl) (Ex.q (q_int (by rfl) (by rfl) (by rfl)) (by rfl) ?_)) | (refine WL.yes (by rfl) (Ex.q (q_eqb (by rfl) (by rfl)) (by rfl) ?_)) | (refine WL.yes (by rfl) (Ex.q (q_eqp rfl rfl (by rfl) (by rfl) ?_) (by rfl) ?_); (· (rfl))) | (refine WL.yes (by rfl) (Ex.q (q_eqs (by rfl) (by rfl)) (by rfl) ?_))
            refine WL.set 99 (.bool false) (by rfl) (congrArg V.bool ((decide_eq_false (by first | omega | (dsimp only; omega))).symm : false = _)) ?_
            refine WL.yes (by rfl) (Ex.q (q_move (by rfl)) (by rfl) ?_)
            refine WL.no (by rfl) (by rfl) ?_
            refine WL.no (by rfl) (by rfl) ?_
            refine WL.no (by rfl) (by rfl) ?_
            refine WL.no (by rfl) (by rfl) ?_
            refine WL.no (by rfl) (by rfl) ?_
            refine WL.no (by rfl) (by rfl) ?_
            refine WL.yes (by rfl) (Ex.q (q_pick_f (by rfl) (by rfl)) (by rfl) ?_)
            refine WL.yes (by rfl) (Ex.q (q_pick_f (by rfl) (by rfl)) (by rfl) ?_)
            refine WL.yes (by rfl) (Ex.q (q_move (by rfl)) (by rfl) ?_)
            first | (refine WL.yes (by rfl) (Ex.q (q_fieldAddr (by rfl)) (by rfl) ?_)) | (refine WL.yes (by rfl) (Ex.q (q_fieldAddr_rop (by rfl) (by rfl)) (by rfl) ?_)) | (refine WL.yes (by rfl) (Ex.q (q_fieldAddr_pel (by rfl)) (by rfl) ?_))
            first | (refine WL.yes (by rfl) (Ex.h (h_load (by rfl) (by rfl) (by rfl)) (by rfl) ?_)) | (refine WL.yes (by rfl) (Ex.q (q_load (by rfl) (by rfl) (by rfl)) (by rfl) ?_)) | (refine WL.yes (by rfl) (Ex.q (q_load_rop (by rfl) (by rfl)) (by rfl) ?_)) | (refine WL.yes (by rfl) (Ex.h (h_load_pel (by rfl) (by rfl) ?_ (by rfl)) (by rfl) ?_); (· (omega))) | (refine WL.yes (by rfl) (Ex.q (q_load_pel (by rfl) (by rfl) ?_ (by rfl)) (by rfl) ?_); (· (omega)))
            first | (refine WL.yes (by rfl) (Ex.q (q_int (by rfl) (by rfl) (by rfl)) (by rfl) ?_)) | (refine WL.yes (by rfl) (Ex.q (q_eqb (by rfl) (by rfl)) (by rfl) ?_)) | (refine WL.yes (by rfl) (Ex.q (q_eqp rfl rfl (by rfl) (by rfl) ?_) (by rfl) ?_); (· (rfl))) | (refine WL.yes (by rfl) (Ex.q (q_eqs (by rfl) (by rfl)) (by rfl) ?_))
            refine WL.set 112 (.bool false) (by rfl) (congrArg V.bool ((decide_eq_false (by first | omega | (dsimp only; omega))).symm : false = _)) ?_
            refine WL.yes (by rfl) (Ex.q (q_move (by rfl)) (by rfl) ?_)
            refine WL.no (by rfl) (by rfl) ?_
            refine WL.no (by rfl) (by rfl) ?_
            refine WL.no (by rfl) (by rfl) ?_
            refine WL.no (by rfl) (by rfl) ?_
            refine WL.no (by rfl) (by rfl) ?_
            refine WL.no (by rfl) (by rfl) ?_
            refine WL.yes (by rfl) (Ex.q (q_pick_f (by rfl) (by rfl)) (by rfl) ?_)
            refine WL.yes (by rfl) (Ex.q (q_pick_f (by rfl) (by rfl)) (by rfl) ?_)
            refine WL.nil ?_
            (repeat refine J.seq ?_)
            refine J.condF (by rfl) ?_
            (repeat refine J.seq ?_)
            refine J.skip ?_
            (repeat refine J.seq ?_)
            refine J.region ?_
            refine WL.yes (by rfl) (Ex.q (q_move (by rfl)) (by rfl) ?_)
            refine WL.yes (by rfl) (Ex.q (q_move (by rfl)) (by rfl) ?_)
            refine WL.yes (by rfl) (Ex.q (q_move (by rfl)) (by rfl) ?_)
            refine WL.yes (by rfl) (Ex.q (q_move (by rfl)) (by rfl) ?_)
            first | (refine WL.yes (by rfl) (Ex.q (q_indexAddr_ros (by rfl) (by rfl) (by intro _; rfl) ?_ ?_) (by rfl) ?_); (· (omega)); (· (omega))) | (refine WL.yes (by rfl) (Ex.q (q_indexAddr_sl (by rfl) (by rfl) ?_ ?_) (by rfl) ?_); (· (omega)); (· (omega))) | (refine WL.yes (by rfl) (Ex.q (q_indexAddr_arr (by rfl) (by rfl) ?_ ?_) (by rfl) ?_); (· (omega)); (· (omega)))
            first | (refine WL.yes (by rfl) (Ex.q (q_fieldAddr (by rfl)) (by rfl) ?_)) | (refine WL.yes (by rfl) (Ex.q (q_fieldAddr_rop (by rfl) (by rfl)) (by rfl) ?_)) | (refine WL.yes (by rfl) (Ex.q (q_fieldAddr_pel (by rfl)) (by rfl) ?_))
            first | (refine WL.yes (by rfl) (Ex.h (h_load (by rfl) (by rfl) (by rfl)) (by rfl) ?_)) | (refine WL.yes (by rfl) (Ex.q (q_load (by rfl) (by rfl) (by rfl)) (by rfl) ?_)) | (refine WL.yes (by rfl) (Ex.q (q_load_rop (by rfl) (by rfl)) (by rfl) ?_)) | (refine WL.yes (by rfl) (Ex.h (h_load_pel (by rfl) (by rfl) ?_ (by rfl)) (by rfl) ?_); (· (omega))) | (refine WL.yes (by rfl) (Ex.q (q_load_pel (by rfl) (by rfl) ?_ (by rfl)) (by rfl) ?_); (· (omega)))
            refine WL.set 128 (.bool (lat l k).ok) (by rfl) (by first | rfl | rw [Int.toNat_natCast] | rw [Nat.zero_add, Int.toNat_natCast]) ?_
            refine WL.yes (by rfl) (Ex.callL (fReply_spec fb mh mw mf wpr (s := { s with wo := o, busy := true }) (now := (now + (lat l k).gap)) (ok := (lat l k).ok) hs1.toFOk (by omega)) (by rfl) (by rfl) (.cons rfl (.cons rfl (.cons rfl (.cons rfl (.cons rfl .nil))))) ?_)
            rintro _ _ ⟨hr, hH9⟩
            rw [reply_zero rfl] at hr
            subst hr hH9
            refine WL.yes (by rfl) (Ex.callq (fnum_spec _) (by rfl) (by rfl) rfl (fun _ h => h) ?_)
            first | (refine WL.yes (by rfl) (Ex.q (q_int (by rfl) (by rfl) (by rfl)) (by rfl) ?_)) | (refine WL.yes (by rfl) (Ex.q (q_neb (by rfl) (by rfl)) (by rfl) ?_)) | (refine WL.yes (by rfl) (Ex.q (q_nep rfl rfl (by rfl) (by rfl) ?_) (by rfl) ?_); (· (rfl))) | (refine WL.yes (by rfl) (Ex.q (q_eqs (by rfl) (by rfl)) (by rfl) ?_))
            refine WL.set 131 (.bool false) (by rfl) (congrArg V.bool ((by simp) : false = _)) ?_
            refine WL.yes (by rfl) (Ex.q (q_move (by rfl)) (by rfl) ?_)
            refine WL.yes (by rfl) (Ex.q (q_move (by rfl)) (by rfl) ?_)
            refine WL.yes (by rfl) (Ex.q (q_move (by rfl)) (by rfl) ?_)
            refine WL.yes (by rfl) (Ex.callL (fReply_spec fb mh mw mf wpr (s := (FS.reply (now + (lat l k).gap) (lat l k).ok { s with wo := o, busy := true }).2) (now := (now + (lat l k).gap)) (ok := true) hs2.toFOk (by omega)) (by rfl) (by rfl) (.cons rfl (.cons rfl (.cons rfl (.cons rfl (.cons rfl .nil))))) ?_)
            rintro _ _ ⟨hr, hH9⟩
            rw [reply_no reply_busy] at hr hH9
            subst hr hH9
            refine WL.yes (by rfl) (Ex.callq (fnum_spec _) (by rfl) (by rfl) rfl (fun _ h => h) ?_)
            first | (refine WL.yes (by rfl) (Ex.q (q_int (by rfl) (by rfl) (by rfl)) (by rfl) ?_)) | (refine WL.yes (by rfl) (Ex.q (q_neb (by rfl) (by rfl)) (by rfl) ?_)) | (refine WL.yes (by rfl) (Ex.q (q_nep rfl rfl (by rfl) (by rfl) ?_) (by rfl) ?_); (· (rfl))) | (refine WL.yes (by rfl) (Ex.q (q_eqs (by rfl) (by rfl)) (by rfl) ?_))
            refine WL.set 137 (.bool false) (by rfl) (congrArg V.bool ((by simp) : false = _)) ?_
            refine WL.yes (by rfl) (Ex.q (q_pick_f (by rfl) (by rfl)) (by rfl) ?_)
            refine WL.nil ?_
            (repeat refine J.seq ?_)
            refine J.condF (by rfl) ?_
            (repeat refine J.seq ?_)
            refine J.skip ?_
            (repeat refine J.seq ?_)
            refine J.region ?_
            refine WL.yes (by rfl) (Ex.q (q_move (by rfl)) (by rfl) ?_)
            refine WL.yes (by rfl) (Ex.q (q_move (by rfl)) (by rfl) ?_)
            first | (refine WL.yes (by rfl) (Ex.q (q_indexAddr_ros (by rfl) (by rfl) (by intro _; rfl) ?_ ?_) (by rfl) ?_); (· (omega)); (· (omega))) | (refine WL.yes (by rfl) (Ex.q (q_indexAddr_sl (by rfl) (by rfl) ?_ ?_) (by rfl) ?_); (· (omega)); (· (omega))) | (refine WL.yes (by rfl) (Ex.q (q_indexAddr_arr (by rfl) (by rfl) ?_ ?_) (by rfl) ?_); (· (omega)); (· (omega)))
            first | (refine WL.yes (by rfl) (Ex.q (q_fieldAddr (by rfl)) (by rfl) ?_)) | (refine WL.yes (by rfl) (Ex.q (q_fieldAddr_rop (by rfl) (by rfl)) (by rfl) ?_)) | (refine WL.yes (by rfl) (Ex.q (q_fieldAddr_pel (by rfl)) (by rfl) ?_))
            first | (refine WL.yes (by rfl) (Ex.h (h_load (by rfl) (by rfl) (by rfl)) (by rfl) ?_)) | (refine WL.yes (by rfl) (Ex.q (q_load (by rfl) (by rfl) (by rfl)) (by rfl) ?_)) | (refine WL.yes (by rfl) (Ex.q (q_load_rop (by rfl) (by rfl)) (by rfl) ?_)) | (refine WL.yes (by rfl) (Ex.h (h_load_pel (by rfl) (by rfl) ?_ (by rfl)) (by rfl) ?_); (· (omega))) | (refine WL.yes (by rfl) (Ex.q (q_load_pel (by rfl) (by rfl) ?_ (by rfl)) (by rfl) ?_); (· (omega)))
            refine WL.set 143 (.bool (lat l k).ok) (by rfl) (by first | rfl | rw [Int.toNat_natCast] | rw [Nat.zero_add, Int.toNat_natCast]) ?_
            refine WL.nil ?_
            (repeat refine J.seq ?_)
            refine J.cond (by rfl) (fun c143 => ?_) (fun c143 => ?_)
            · skip
              (first | have e143 := of_decide_eq_true c143 | have e143 := of_decide_eq_false c143 | have e143 := ndec_t c143 | have e143 := ndec_f c143 | skip)
              have hok : (lat l k).ok = true := c143
              (repeat refine J.seq ?_)
              refine J.region ?_
              first | (refine WL.yes (by rfl) (Ex.q (q_fieldAddr (by rfl)) (by rfl) ?_)) | (refine WL.yes (by rfl) (Ex.q (q_fieldAddr_rop (by rfl) (by rfl)) (by rfl) ?_)) | (refine WL.yes (by rfl) (Ex.q (q_fieldAddr_pel (by rfl)) (by rfl) ?_))
              first | (refine WL.yes (by rfl) (Ex.h (h_load (by rfl) (by rfl) (by rfl)) (by rfl) ?_)) | (refine WL.yes (by rfl) (Ex.q (q_load (by rfl) (by rfl) (by rfl)) (by rfl) ?_)) | (refine WL.yes (by rfl) (Ex.q (q_load_rop (by rfl) (by rfl)) (by rfl) ?_)) | (refine WL.yes (by rfl) (Ex.h (h_load_pel (by rfl) (by rfl) ?_ (by rfl)) (by rfl) ?_); (· (omega))) | (refine WL.yes (by rfl) (Ex.q (q_load_pel (by rfl) (by rfl) ?_ (by rfl)) (by rfl) ?_); (· (omega)))
              first | (refine WL.yes (by rfl) (Ex.q (q_int (by rfl) (by rfl) (by rfl)) (by rfl) ?_)) | (refine WL.yes (by rfl) (Ex.q (q_eqb (by rfl) (by rfl)) (by rfl) ?_)) | (refine WL.yes (by rfl) (Ex.q (q_eqp rfl rfl (by rfl) (by rfl) ?_) (by rfl) ?_); (· (rfl))) | (refine WL.yes (by rfl) (Ex.q (q_eqs (by rfl) (by rfl)) (by rfl) ?_))
              refine WL.nil ?_
              (repeat refine J.seq ?_)
              refine J.cond (by rfl) (fun c146 => ?_) (fun c146 => ?_)
              · skip
                (first | have e146 := of_decide_eq_true c146 | have e146 := of_decide_eq_false c146 | have e146 := ndec_t c146 | have e146 := ndec_f c146 | skip)
                have h3k : o.k = 3 := e146
                obtain ⟨k0, hk0, hk1, hk4⟩ := fnd_ge (p := o.e.p) (l := s.H) (by omega)
                have hH : (FS.reply (now + (lat l k).gap) (lat l k).ok { s with wo := o, busy := true }).2.H = s.H.take k0 ++ s.H.drop (k0 + 1) := by rw [hok, reply_rem rfl h3k, tdel_at hs.h hk1 hk4]
                refine J.veccap (t := 4) rfl (fun hcap1 => ?_)
                rw [hk0]
                (repeat refine J.seq ?_)
                refine J.draw [4, 7, 1051, 1052, 1053, 1054, 1060] 9999 [(1, true), (2, true), (3, true), (5, true), (6, true), (7, true), (8, true), (0, false), (4, false), (9, false), (10, true)] (by kernel_rfl) rfl (by kernel_rfl) ?_
                intro F3 hF3
                refine WS.take rfl (by rfl) (by rfl) (q_move (by rfl)) ?_
                refine WS.take rfl (by rfl) (by rfl) (q_move (by rfl)) ?_
                first | (refine WS.take rfl (by rfl) (by rfl) (q_slice_arr (by rfl) (by rfl) (by rfl) ?_ ?_ ?_) ?_; (· (omega)); (· (omega)); (· (omega))) | (refine WS.take rfl (by rfl) (by rfl) (q_slice_ros (by rfl) (by intro _; rfl) (by rfl) (by rfl) ?_ ?_ ?_) ?_; (· (omega)); (· (omega)); (· (omega))) | (refine WS.take rfl (by rfl) (by rfl) (q_slice_sl (by rfl) (by rfl) (by rfl) ?_ ?_ ?_) ?_; (· (omega)); (· (omega)); (· (omega))) | (refine WS.take rfl (by rfl) (by rfl) (q_slice_sla (by rfl) (by rfl) (Nat.le_refl _) (by rfl) (by rfl) ?_ ?_ ?_) ?_; (· (omega)); (· (omega)); (· (omega)))
                refine WS.take rfl (by rfl) (by rfl) (q_move (by rfl)) ?_
                refine WS.take rfl (by rfl) (by rfl) (q_move (by rfl)) ?_
                refine WS.take rfl (by rfl) (by rfl) (q_int (by rfl) (by rfl) (by rfl)) ?_
                refine WS.set 154 (iV ((k0 + 1 : Nat) : Int)) (by rfl) (congrArg iV (w64_nat (by omega)).symm) ?_
                first | (refine WS.take rfl (by rfl) (by rfl) (q_slice_arr (by rfl) (by rfl) (by rfl) ?_ ?_ ?_) ?_; (· (omega)); (· (omega)); (· (omega))) | (refine WS.take rfl (by rfl) (by rfl) (q_slice_ros (by rfl) (by intro _; rfl) (by rfl) (by rfl) ?_ ?_ ?_) ?_; (· (omega)); (· (omega)); (· (omega))) | (refine WS.take rfl (by rfl) (by rfl) (q_slice_sl (by rfl) (by rfl) (by rfl) ?_ ?_ ?_) ?_; (· (omega)); (· (omega)); (· (omega))) | (refine WS.take rfl (by rfl) (by rfl) (q_slice_sla (by rfl) (by rfl) (Nat.le_refl _) (by rfl) (by rfl) ?_ ?_ ?_) ?_; (· (omega)); (· (omega)); (· (omega)))
                refine WS.ex rfl (by rfl) (Ex.buildSlice (parts := []) (us := []) (by rfl) (by rfl) rfl (by rfl) (by rfl) ?_)
                intro b147
                refine WS.ex rfl (by rfl) (Ex.append0 enE (l' := s.H.take k0) (by rfl) (by rfl) (by rfl) (by rfl) (Rd.subR _ (by rfl) ?_ ?_) ?_ ?_); (· (exact take_in (by omega))); (· (exact take_sl)); (· (simp; omega))
                intro a151 cap151
                refine WS.ex rfl (by rfl) (Ex.append (e := enE) (l := (s.H.take k0)) (l' := s.H.drop (k0 + 1)) (by rfl) (by rfl) (by rfl) (by rfl) (Rd.subR _ (by rfl) ?_ ?_) ?_ ?_); (· (exact drop_in hcap1 (by omega))); (· (exact drop_sl hcap1 (by omega))); (· (simp; omega))
                intro a156 cap156
                refine WS.take rfl (by rfl) (by rfl) (q_assign (by rfl)) ?_
                refine WS.nil ?_
                (repeat refine J.seq ?_)
                refine J.region ?_
                refine WL.yes (by rfl) (Ex.q (q_move (by rfl)) (by rfl) ?_)
                refine WL.yes (by rfl) (Ex.callL (fHas_spec fb mh mw mf wpr (s := (FS.reply (now + (lat l k).gap) (lat l k).ok { s with wo := o, busy := true }).2) hs2.toFOk) (by rfl) (by rfl) (.cons rfl (.cons rfl (.cons rfl (.cons rfl (.cons rfl .nil))))) ?_)
                rintro _ _ ⟨a162, cap162, rfl, rfl⟩
                refine WL.yes (by rfl) (Ex.q (q_move (by rfl)) (by rfl) ?_)
                refine WL.yes (by rfl) (Ex.callqz (same_spec (l := (FS.reply (now + (lat l k).gap) (lat l k).ok { s with wo := o, busy := true }).2.H) (l2 := _) ?_ ?_ ?_) (by rfl) (by rfl) (.cons (.sla (by rfl)) (.cons (.sla (by rfl)) .nil)) (fun _ => trivial) ?_); (· (have := hs2.lh; omega)); (· (exact hs2.h.ok)); (· (rw [← hH]; exact hs2.h.ok))
                refine WL.set 164 (.bool true) (by rfl) (congrArg V.bool ((decide_eq_true hH).symm : true = _)) ?_
                refine WL.yes (by rfl) (Ex.q (q_not (by rfl)) (by rfl) ?_)
                refine WL.nil ?_
                (repeat refine J.seq ?_)
                refine J.condF (by rfl) ?_
                (repeat refine J.seq ?_)
                refine J.skip ?_
                (repeat refine J.seq ?_)
                refine J.region ?_
                refine WL.yes (by rfl) (Ex.q (q_move (by rfl)) (by rfl) ?_)
                refine WL.yes (by rfl) (Ex.q (q_int (by rfl) (by rfl) (by rfl)) (by rfl) ?_)
                refine WL.yes (by rfl) (Ex.q (q_assign (by rfl)) (by rfl) ?_)
                refine WL.nil ?_
                first | (refine Kloop.nextP (k + 1, s.want (lat l k).l, mwq, wp, (now + (lat l k).gap), aX, cX) ?_ ?_ ⟨same (by rw [← w64_nat (k := k) (by omega)]; rfl), same rfl, same rfl, trivial⟩ ⟨same rfl, same rfl, trivial⟩ (.cons (s := 1060) rfl (CLe.refl _ _) rfl (.cons (s := 1051) rfl (CLe.refl _ _) rfl (.cons (s := 1052) rfl (CLe.refl _ _) rfl (.cons (s := 1053) rfl (CLe.refl _ _) rfl (.cons (s := 1054) rfl (CLe.refl _ _) rfl (.cons (s := 4) rfl (CLe.refl _ _) rfl .nil)))))); (· (exact ⟨by (try dsimp only); omega, (hs.want hact hg.2.2).mono (by omega), by (try dsimp only); omega, by (try dsimp only); omega, hb⟩)); (· ((try dsimp only) <;> omega))) | (refine Kloop.nextP (k + 1, (FS.reply (now + (lat l k).gap) (lat l k).ok { s with wo := o, busy := true }).2, mw, wpr, (now + (lat l k).gap), a156, cap156) ?_ ?_ ⟨same (by rw [← w64_nat (k := k) (by omega)]; rfl), same rfl, ⟨_, rfl, by rw [hH]; cases a156 <;> rfl, fun _ => trivial⟩, trivial⟩ ⟨same rfl, same rfl, trivial⟩ (.cons (s := 1060) rfl (CLe.refl _ _) rfl (.cons (s := 1051) rfl (CLe.refl _ _) rfl (.cons (s := 1052) rfl (CLe.refl _ _) rfl (.cons (s := 1053) rfl (CLe.refl _ _) rfl (.cons (s := 1054) rfl (CLe.refl _ _) rfl (.cons (s := 156) rfl (by rw [hH]; exact CLe.refl _ _) rfl .nil)))))); (· (exact ⟨by (try dsimp only); omega, hs2, by (try dsimp only); omega, by (try dsimp only); omega, reply_busy⟩)); (· ((try dsimp only) <;> omega))) | (refine Kloop.nextP (k + 1, (FS.reply (now + (lat l k).gap) (lat l k).ok { s with wo := o, busy := true }).2, mw, wpr, (now + (lat l k).gap), a160, cap160) ?_ ?_ ⟨same (by rw [← w64_nat (k := k) (by omega)]; rfl), same rfl, ⟨_, rfl, by rw [hH]; cases a160 <;> rfl, fun _ => trivial⟩, trivial⟩ ⟨same rfl, same rfl, trivial⟩ (.cons (s := 1060) rfl (CLe.refl _ _) rfl (.cons (s := 1051) rfl (CLe.refl _ _) rfl (.cons (s := 1052) rfl (CLe.refl _ _) rfl (.cons (s := 1053) rfl (CLe.refl _ _) rfl (.cons (s := 1054) rfl (CLe.refl _ _) rfl (.cons (s := 2044) rfl (by rw [hH]; exact CLe.refl _ _) rfl .nil)))))); (· (exact ⟨by (try dsimp only); omega, hs2, by (try dsimp only); omega, by (try dsimp only); omega, reply_busy⟩)); (· ((try dsimp only) <;> omega))) | (refine Kloop.nextP (k + 1, (FS.reply (now + (lat l k).gap) (lat l k).ok { s with wo := o, busy := true }).2, mw, wpr, (now + (lat l k).gap), aX, cX) ?_ ?_ ⟨same (by rw [← w64_nat (k := k) (by omega)]; rfl), same rfl, ⟨_, rfl, by rw [hH], fun _ => trivial⟩, trivial⟩ ⟨same rfl, same rfl, trivial⟩ (.cons (s := 1060) rfl (CLe.refl _ _) rfl (.cons (s := 1051) rfl (CLe.refl _ _) rfl (.cons (s := 1052) rfl (CLe.refl _ _) rfl (.cons (s := 1053) rfl (CLe.refl _ _) rfl (.cons (s := 1054) rfl (CLe.refl _ _) rfl (.cons (s := 4) rfl (by rw [hH]; exact CLe.refl _ _) rfl .nil)))))); (· (exact ⟨by (try dsimp only); omega, hs2, by (try dsimp only); omega, by (try dsimp only); omega, reply_busy⟩)); (· ((try dsimp only) <;> omega))) | (refine Kloop.nextP (k + 1, s, mw, wpq, (now + (lat l k).gap), aX, cX) ?_ ?_ ⟨same (by rw [← w64_nat (k := k) (by omega)]; rfl), same rfl, same rfl, trivial⟩ ⟨same rfl, same rfl, trivial⟩ (.cons (s := 1060) rfl (CLe.refl _ _) rfl (.cons (s := 1051) rfl (CLe.refl _ _) rfl (.cons (s := 1052) rfl (CLe.refl _ _) rfl (.cons (s := 1053) rfl (CLe.refl _ _) rfl (.cons (s := 1054) rfl (CLe.refl _ _) rfl (.cons (s := 4) rfl (CLe.refl _ _) rfl .nil)))))); (· (exact ⟨by (try dsimp only); omega, hs.mono (by omega), by (try dsimp only); omega, by (try dsimp only); omega, hb⟩)); (· ((try dsimp only) <;> omega)))
              · skip
                (first | have e146 := of_decide_eq_true c146 | have e146 := of_decide_eq_false c146 | have e146 := ndec_t c146 | have e146 := ndec_f c146 | skip)
                have h3k : ¬ o.k = 3 := e146
                have hH : (FS.reply (now + (lat l k).gap) (lat l k).ok { s with wo := o, busy := true }).2.H = tput o.e s.H := by rw [hok, reply_put rfl h3k]
                (repeat refine J.seq ?_)
                refine J.region ?_
                refine WL.yes (by rfl) (Ex.q (q_move (by rfl)) (by rfl) ?_)
                first | (refine WL.yes (by rfl) (Ex.q (q_fieldAddr (by rfl)) (by rfl) ?_)) | (refine WL.yes (by rfl) (Ex.q (q_fieldAddr_rop (by rfl) (by rfl)) (by rfl) ?_)) | (refine WL.yes (by rfl) (Ex.q (q_fieldAddr_pel (by rfl)) (by rfl) ?_))
                first | (refine WL.yes (by rfl) (Ex.h (h_load (by rfl) (by rfl) (by rfl)) (by rfl) ?_)) | (refine WL.yes (by rfl) (Ex.q (q_load (by rfl) (by rfl) (by rfl)) (by rfl) ?_)) | (refine WL.yes (by rfl) (Ex.q (q_load_rop (by rfl) (by rfl)) (by rfl) ?_)) | (refine WL.yes (by rfl) (Ex.h (h_load_pel (by rfl) (by rfl) ?_ (by rfl)) (by rfl) ?_); (· (omega))) | (refine WL.yes (by rfl) (Ex.q (q_load_pel (by rfl) (by rfl) ?_ (by rfl)) (by rfl) ?_); (· (omega)))
                refine WL.yes (by rfl) (Ex.callz _ [] [] (put_spec (l := s.H) (e := o.e) ?_ ?_ ?_) (by rfl) (by rfl) (.cons (.sla (by rfl)) (.cons (.same _) .nil)) (fun t c hg => by simp [get] at hg) plain_put ?_); (· (omega)); (· (exact hs.h)); (· (exact hoe))
                rintro _ _ ⟨a160, cap160, rfl, rfl⟩
                refine WL.yes (by rfl) (Ex.q (q_assign (by rfl)) (by rfl) ?_)
                refine WL.nil ?_
                (repeat refine J.seq ?_)
                refine J.region ?_
                refine WL.yes (by rfl) (Ex.q (q_move (by rfl)) (by rfl) ?_)
                refine WL.yes (by rfl) (Ex.callL (fHas_spec fb mh mw mf wpr (s := (FS.reply (now + (lat l k).gap) (lat l k).ok { s with wo := o, busy := true }).2) hs2.toFOk) (by rfl) (by rfl) (.cons rfl (.cons rfl (.cons rfl (.cons rfl (.cons rfl .nil))))) ?_)
                rintro _ _ ⟨a162, cap162, rfl, rfl⟩
                refine WL.yes (by rfl) (Ex.q (q_move (by rfl)) (by rfl) ?_)
                refine WL.yes (by rfl) (Ex.callqz (same_spec (l := (FS.reply (now + (lat l k).gap) (lat l k).ok { s with wo := o, busy := true }).2.H) (l2 := _) ?_ ?_ ?_) (by rfl) (by rfl) (.cons (.sla (by rfl)) (.cons (.sla (by rfl)) .nil)) (fun _ => trivial) ?_); (· (have := hs2.lh; omega)); (· (exact hs2.h.ok)); (· (rw [← hH]; exact hs2.h.ok))
                refine WL.set 164 (.bool true) (by rfl) (congrArg V.bool ((decide_eq_true hH).symm : true = _)) ?_
                refine WL.yes (by rfl) (Ex.q (q_not (by rfl)) (by rfl) ?_)
                refine WL.nil ?_
                (repeat refine J.seq ?_)
                refine J.condF (by rfl) ?_
                (repeat refine J.seq ?_)
                refine J.skip ?_
                (repeat refine J.seq ?_)
                refine J.region ?_
                refine WL.yes (by rfl) (Ex.q (q_move (by rfl)) (by rfl) ?_)
                refine WL.yes (by rfl) (Ex.q (q_int (by rfl) (by rfl) (by rfl)) (by rfl) ?_)
                refine WL.yes (by rfl) (Ex.q (q_assign (by rfl)) (by rfl) ?_)
                refine WL.nil ?_
                first | (refine Kloop.nextP (k + 1, s.want (lat l k).l, mwq, wp, (now + (lat l k).gap), aX, cX) ?_ ?_ ⟨same (by rw [← w64_nat (k := k) (by omega)]; rfl), same rfl, same rfl, trivial⟩ ⟨same rfl, same rfl, trivial⟩ (.cons (s := 1060) rfl (CLe.refl _ _) rfl (.cons (s := 1051) rfl (CLe.refl _ _) rfl (.cons (s := 1052) rfl (CLe.refl _ _) rfl (.cons (s := 1053) rfl (CLe.refl _ _) rfl (.cons (s := 1054) rfl (CLe.refl _ _) rfl (.cons (s := 4) rfl (CLe.refl _ _) rfl .nil)))))); (· (exact ⟨by (try dsimp only); omega, (hs.want hact hg.2.2).mono (by omega), by (try dsimp only); omega, by (try dsimp only); omega, hb⟩)); (· ((try dsimp only) <;> omega))) | (refine Kloop.nextP (k + 1, (FS.reply (now + (lat l k).gap) (lat l k).ok { s with wo := o, busy := true }).2, mw, wpr, (now + (lat l k).gap), a156, cap156) ?_ ?_ ⟨same (by rw [← w64_nat (k := k) (by omega)]; rfl), same rfl, ⟨_, rfl, by rw [hH]; cases a156 <;> rfl, fun _ => trivial⟩, trivial⟩ ⟨same rfl, same rfl, trivial⟩ (.cons (s := 1060) rfl (CLe.refl _ _) rfl (.cons (s := 1051) rfl (CLe.refl _ _) rfl (.cons (s := 1052) rfl (CLe.refl _ _) rfl (.cons (s := 1053) rfl (CLe.refl _ _) rfl (.cons (s := 1054) rfl (CLe.refl _ _) rfl (.cons (s := 156) rfl (by rw [hH]; exact CLe.refl _ _) rfl .nil)))))); (· (exact ⟨by (try dsimp only); omega, hs2, by (try dsimp only); omega, by (try dsimp only); omega, reply_busy⟩)); (· ((try dsimp only) <;> omega))) | (refine Kloop.nextP (k + 1, (FS.reply (now + (lat l k).gap) (lat l k).ok { s with wo := o, busy := true }).2, mw, wpr, (now + (lat l k).gap), a160, cap160) ?_ ?_ ⟨same (by rw [← w64_nat (k := k) (by omega)]; rfl), same rfl, ⟨_, rfl, by rw [hH]; cases a160 <;> rfl, fun _ => trivial⟩, trivial⟩ ⟨same rfl, same rfl, trivial⟩ (.cons (s := 1060) rfl (CLe.refl _ _) rfl (.cons (s := 1051) rfl (CLe.refl _ _) rfl (.cons (s := 1052) rfl (CLe.refl _ _) rfl (.cons (s := 1053) rfl (CLe.refl _ _) rfl (.cons (s := 1054) rfl (CLe.refl _ _) rfl (.cons (s := 2044) rfl (by rw [hH]; exact CLe.refl _ _) rfl .nil)))))); (· (exact ⟨by (try dsimp only); omega, hs2, by (try dsimp only); omega, by (try dsimp only); omega, reply_busy⟩)); (· ((try dsimp only) <;> omega))) | (refine Kloop.nextP (k + 1, (FS.reply (now + (lat l k).gap) (lat l k).ok { s with wo := o, busy := true }).2, mw, wpr, (now + (lat l k).gap), aX, cX) ?_ ?_ ⟨same (by rw [← w64_nat (k := k) (by omega)]; rfl), same rfl, ⟨_, rfl, by rw [hH], fun _ => trivial⟩, trivial⟩ ⟨same rfl, same rfl, trivial⟩ (.cons (s := 1060) rfl (CLe.refl _ _) rfl (.cons (s := 1051) rfl (CLe.refl _ _) rfl (.cons (s := 1052) rfl (CLe.refl _ _) rfl (.cons (s := 1053) rfl (CLe.refl _ _) rfl (.cons (s := 1054) rfl (CLe.refl _ _) rfl (.cons (s := 4) rfl (by rw [hH]; exact CLe.refl _ _) rfl .nil)))))); (· (exact ⟨by (try dsimp only); omega, hs2, by (try dsimp only); omega, by (try dsimp only); omega, reply_busy⟩)); (· ((try dsimp only) <;> omega))) | (refine Kloop.nextP (k + 1, s, mw, wpq, (now + (lat l k).gap), aX, cX) ?_ ?_ ⟨same (by rw [← w64_nat (k := k) (by omega)]; rfl), same rfl, same rfl, trivial⟩ ⟨same rfl, same rfl, trivial⟩ (.cons (s := 1060) rfl (CLe.refl _ _) rfl (.cons (s := 1051) rfl (CLe.refl _ _) rfl (.cons (s := 1052) rfl (CLe.refl _ _) rfl (.cons (s := 1053) rfl (CLe.refl _ _) rfl (.cons (s := 1054) rfl (CLe.refl _ _) rfl (.cons (s := 4) rfl (CLe.refl _ _) rfl .nil)))))); (· (exact ⟨by (try dsimp only); omega, hs.mono (by omega), by (try dsimp only); omega, by (try dsimp only); omega, hb⟩)); (· ((try dsimp only) <;> omega)))
            · skip
              (first | have e143 := of_decide_eq_true c143 | have e143 := of_decide_eq_false c143 | have e143 := ndec_t c143 | have e143 := ndec_f c143 | skip)
              have hok : (lat l k).ok = false := c143
              have hH : (FS.reply (now + (lat l k).gap) (lat l k).ok { s with wo := o, busy := true }).2.H = s.H := by rw [hok, reply_fail rfl]
              (repeat refine J.seq ?_)
              refine J.skip ?_
              (repeat refine J.seq ?_)
              refine J.region ?_
              refine WL.yes (by rfl) (Ex.q (q_move (by rfl)) (by rfl) ?_)
              refine WL.yes (by rfl) (Ex.callL (fHas_spec fb mh mw mf wpr (s := (FS.reply (now + (lat l k).gap) (lat l k).ok { s with wo := o, busy := true }).2) hs2.toFOk) (by rfl) (by rfl) (.cons rfl (.cons rfl (.cons rfl (.cons rfl (.cons rfl .nil))))) ?_)
              rintro _ _ ⟨a162, cap162, rfl, rfl⟩
              refine WL.yes (by rfl) (Ex.q (q_move (by rfl)) (by rfl) ?_)
              refine WL.yes (by rfl) (Ex.callqz (same_spec (l := (FS.reply (now + (lat l k).gap) (lat l k).ok { s with wo := o, busy := true }).2.H) (l2 := _) ?_ ?_ ?_) (by rfl) (by rfl) (.cons (.sla (by rfl)) (.cons (.sla (by rfl)) .nil)) (fun _ => trivial) ?_); (· (have := hs2.lh; omega)); (· (exact hs2.h.ok)); (· (rw [← hH]; exact hs2.h.ok))
              refine WL.set 164 (.bool true) (by rfl) (congrArg V.bool ((decide_eq_true hH).symm : true = _)) ?_
              refine WL.yes (by rfl) (Ex.q (q_not (by rfl)) (by rfl) ?_)
              refine WL.nil ?_
              (repeat refine J.seq ?_)
              refine J.condF (by rfl) ?_
              (repeat refine J.seq ?_)
              refine J.skip ?_
              (repeat refine J.seq ?_)
              refine J.region ?_
              refine WL.yes (by rfl) (Ex.q (q_move (by rfl)) (by rfl) ?_)
              refine WL.yes (by rfl) (Ex.q (q_int (by rfl) (by rfl) (by rfl)) (by rfl) ?_)
              refine WL.yes (by rfl) (Ex.q (q_assign (by rfl)) (by rfl) ?_)
              refine WL.nil ?_
              first | (refine Kloop.nextP (k + 1, s.want (lat l k).l, mwq, wp, (now + (lat l k).gap), aX, cX) ?_ ?_ ⟨same (by rw [← w64_nat (k := k) (by omega)]; rfl), same rfl, same rfl, trivial⟩ ⟨same rfl, same rfl, trivial⟩ (.cons (s := 1060) rfl (CLe.refl _ _) rfl (.cons (s := 1051) rfl (CLe.refl _ _) rfl (.cons (s := 1052) rfl (CLe.refl _ _) rfl (.cons (s := 1053) rfl (CLe.refl _ _) rfl (.cons (s := 1054) rfl (CLe.refl _ _) rfl (.cons (s := 4) rfl (CLe.refl _ _) rfl .nil)))))); (· (exact ⟨by (try dsimp only); omega, (hs.want hact hg.2.2).mono (by omega), by (try dsimp only); omega, by (try dsimp only); omega, hb⟩)); (· ((try dsimp only) <;> omega))) | (refine Kloop.nextP (k + 1, (FS.reply (now + (lat l k).gap) (lat l k).ok { s with wo := o, busy := true }).2, mw, wpr, (now + (lat l k).gap), a156, cap156) ?_ ?_ ⟨same (by rw [← w64_nat (k := k) (by omega)]; rfl), same rfl, ⟨_, rfl, by rw [hH]; cases a156 <;> rfl, fun _ => trivial⟩, trivial⟩ ⟨same rfl, same rfl, trivial⟩ (.cons (s := 1060) rfl (CLe.refl _ _) rfl (.cons (s := 1051) rfl (CLe.refl _ _) rfl (.cons (s := 1052) rfl (CLe.refl _ _) rfl (.cons (s := 1053) rfl (CLe.refl _ _) rfl (.cons (s := 1054) rfl (CLe.refl _ _) rfl (.cons (s := 156) rfl (by rw [hH]; exact CLe.refl _ _) rfl .nil)))))); (· (exact ⟨by (try dsimp only); omega, hs2, by (try dsimp only); omega, by (try dsimp only); omega, reply_busy⟩)); (· ((try dsimp only) <;> omega))) | (refine Kloop.nextP (k + 1, (FS.reply (now + (lat l k).gap) (lat l k).ok { s with wo := o, busy := true }).2, mw, wpr, (now + (lat l k).gap), a160, cap160) ?_ ?_ ⟨same (by rw [← w64_nat (k := k) (by omega)]; rfl), same rfl, ⟨_, rfl, by rw [hH]; cases a160 <;> rfl, fun _ => trivial⟩, trivial⟩ ⟨same rfl, same rfl, trivial⟩ (.cons (s := 1060) rfl (CLe.refl _ _) rfl (.cons (s := 1051) rfl (CLe.refl _ _) rfl (.cons (s := 1052) rfl (CLe.refl _ _) rfl (.cons (s := 1053) rfl (CLe.refl _ _) rfl (.cons (s := 1054) rfl (CLe.refl _ _) rfl (.cons (s := 2044) rfl (by rw [hH]; exact CLe.refl _ _) rfl .nil)))))); (· (exact ⟨by (try dsimp only); omega, hs2, by (try dsimp only); omega, by (try dsimp only); omega, reply_busy⟩)); (· ((try dsimp only) <;> omega))) | (refine Kloop.nextP (k + 1, (FS.reply (now + (lat l k).gap) (lat l k).ok { s with wo := o, busy := true }).2, mw, wpr, (now + (lat l k).gap), aX, cX) ?_ ?_ ⟨same (by rw [← w64_nat (k := k) (by omega)]; rfl), same rfl, ⟨_, rfl, by rw [hH], fun _ => trivial⟩, trivial⟩ ⟨same rfl, same rfl, trivial⟩ (.cons (s := 1060) rfl (CLe.refl _ _) rfl (.cons (s := 1051) rfl (CLe.refl _ _) rfl (.cons (s := 1052) rfl (CLe.refl _ _) rfl (.cons (s := 1053) rfl (CLe.refl _ _) rfl (.cons (s := 1054) rfl (CLe.refl _ _) rfl (.cons (s := 4) rfl (by rw [hH]; exact CLe.refl _ _) rfl .nil)))))); (· (exact ⟨by (try dsimp only); omega, hs2, by (try dsimp only); omega, by (try dsimp only); omega, reply_busy⟩)); (· ((try dsimp only) <;> omega))) | (refine Kloop.nextP (k + 1, s, mw, wpq, (now + (lat l k).gap), aX, cX) ?_ ?_ ⟨same (by rw [← w64_nat (k := k) (by omega)]; rfl), same rfl, same rfl, trivial⟩ ⟨same rfl, same rfl, trivial⟩ (.cons (s := 1060) rfl (CLe.refl _ _) rfl (.cons (s := 1051) rfl (CLe.refl _ _) rfl (.cons (s := 1052) rfl (CLe.refl _ _) rfl (.cons (s := 1053) rfl (CLe.refl _ _) rfl (.cons (s := 1054) rfl (CLe.refl _ _) rfl (.cons (s := 4) rfl (CLe.refl _ _) rfl .nil)))))); (· (exact ⟨by (try dsimp only); omega, hs.mono (by omega), by (try dsimp only); omega, by (try dsimp only); omega, hb⟩)); (· ((try dsimp only) <;> omega)))
          · skip
            (repeat refine J.seq ?_)
            refine J.region ?_
            refine WL.yes (by rfl) (Ex.q (q_move (by rfl)) (by rfl) ?_)
            refine WL.yes (by rfl) (Ex.q (q_move (by rfl)) (by rfl) ?_)
            refine WL.yes (by rfl) (Ex.q (q_move (by rfl)) (by rfl) ?_)
            refine WL.yes (by rfl) (Ex.callL (fDrained_spec fb mh mw mf wpr (s := { s with wo := o, busy := true }) hs1.toFOk) (by rfl) (by rfl) (.cons rfl (.cons rfl (.cons rfl (.cons rfl (.cons rfl .nil))))) ?_)
            rintro _ _ ⟨rfl, rfl⟩
            refine WL.set 81 (.bool false) (by rfl) (congrArg V.bool ((drained_busy rfl).symm : false = _)) ?_
            refine WL.yes (by rfl) (Ex.q (q_pick_f (by rfl) (by rfl)) (by rfl) ?_)
            refine WL.yes (by rfl) (Ex.q (q_move (by rfl)) (by rfl) ?_)
            first | (refine WL.yes (by rfl) (Ex.q (q_fieldAddr (by rfl)) (by rfl) ?_)) | (refine WL.yes (by rfl) (Ex.q (q_fieldAddr_rop (by rfl) (by rfl)) (by rfl) ?_)) | (refine WL.yes (by rfl) (Ex.q (q_fieldAddr_pel (by rfl)) (by rfl) ?_))
            first | (refine WL.yes (by rfl) (Ex.h (h_load (by rfl) (by rfl) (by rfl)) (by rfl) ?_)) | (refine WL.yes (by rfl) (Ex.q (q_load (by rfl) (by rfl) (by rfl)) (by rfl) ?_)) | (refine WL.yes (by rfl) (Ex.q (q_load_rop (by rfl) (by rfl)) (by rfl) ?_)) | (refine WL.yes (by rfl) (Ex.h (h_load_pel (by rfl) (by rfl) ?_ (by rfl)) (by rfl) ?_); (· (omega))) | (refine WL.yes (by rfl) (Ex.q (q_load_pel (by rfl) (by rfl) ?_ (by rfl)) (by rfl) ?_); (· (omega)))
            first | (refine WL.yes (by rfl) (Ex.q (q_int (by rfl) (by rfl) (by rfl)) (by rfl) ?_)) | (refine WL.yes (by rfl) (Ex.q (q_eqb (by rfl) (by rfl)) (by rfl) ?_)) | (refine WL.yes (by rfl) (Ex.q (q_eqp rfl rfl (by rfl) (by rfl) ?_) (by rfl) ?_); (· (rfl))) | (refine WL.yes (by rfl) (Ex.q (q_eqs (by rfl) (by rfl)) (by rfl) ?_))
            refine WL.set 86 (.bool false) (by rfl) (congrArg V.bool ((decide_eq_false (by first | omega | (dsimp only; omega))).symm : false = _)) ?_
            refine WL.yes (by rfl) (Ex.q (q_move (by rfl)) (by rfl) ?_)
            refine WL.no (by rfl) (by rfl) ?_
            refine WL.no (by rfl) (by rfl) ?_
            refine WL.no (by rfl) (by rfl) ?_
            refine WL.no (by rfl) (by rfl) ?_
            refine WL.no (by rfl) (by rfl) ?_
            refine WL.no (by rfl) (by rfl) ?_
            refine WL.yes (by rfl) (Ex.q (q_pick_f (by rfl) (by rfl)) (by rfl) ?_)
            refine WL.yes (by rfl) (Ex.q (q_pick_f (by rfl) (by rfl)) (by rfl) ?_)
            refine WL.yes (by rfl) (Ex.q (q_move (by rfl)) (by rfl) ?_)
            first | (refine WL.yes (by rfl) (Ex.q (q_fieldAddr (by rfl)) (by rfl) ?_)) | (refine WL.yes (by rfl) (Ex.q (q_fieldAddr_rop (by rfl) (by rfl)) (by rfl) ?_)) | (refine WL.yes (by rfl) (Ex.q (q_fieldAddr_pel (by rfl)) (by rfl) ?_))
            first | (refine WL.yes (by rfl) (Ex.h (h_load (by rfl) (by rfl) (by rfl)) (by rfl) ?_)) | (refine WL.yes (by rfl) (Ex.q (q_load (by rfl) (by rfl) (by rfl)) (by rfl) ?_)) | (refine WL.yes (by rfl) (Ex.q (q_load_rop (by rfl) (by rfl)) (by rfl) ?_)) | (refine WL.yes (by rfl) (Ex.h (h_load_pel (by rfl) (by rfl) ?_ (by rfl)) (by rfl) ?_); (· (omega))) | (refine WL.yes (by rfl) (Ex.q (q_load_pel (by rfl) (by rfl) ?_ (by rfl)) (by rfl) ?_); (· (omega)))
            first | (refine WL.yes (by rfl) (Ex.q (q_int (by rfl) (by rfl) (by rfl)) (by rfl) ?_)) | (refine WL.yes (by rfl) (Ex.q (q_eqb (by rfl) (by rfl)) (by rfl) ?_)) | (refine WL.yes (by rfl) (Ex.q (q_eqp rfl rfl (by rfl) (by rfl) ?_) (by rfl) ?_); (· (rfl))) | (refine WL.yes (by rfl) (Ex.q (q_eqs (by rfl) (by rfl)) (by rfl) ?_))
            refine WL.set 99 (.bool true) (by rfl) (congrArg V.bool ((decide_eq_true (by first | omega | (dsimp only; omega))).symm : true = _)) ?_
            refine WL.yes (by rfl) (Ex.q (q_move (by rfl)) (by rfl) ?_)
            refine WL.yes (by rfl) (Ex.q (q_move (by rfl)) (by rfl) ?_)
            refine WL.yes (by rfl) (Ex.q (q_int (by rfl) (by rfl) (by rfl)) (by rfl) ?_)
            refine WL.set 102 (.bool false) (by rfl) (congrArg V.bool ((decide_eq_false (by first | omega | (dsimp only; omega))).symm : false = _)) ?_
            refine WL.yes (by rfl) (Ex.q (q_move (by rfl)) (by rfl) ?_)
            refine WL.yes (by rfl) (Ex.q (q_move (by rfl)) (by rfl) ?_)
            refine WL.yes (by rfl) (Ex.q (q_int (by rfl) (by rfl) (by rfl)) (by rfl) ?_)
            refine WL.set 105 (.bool false) (by rfl) (congrArg V.bool ((decide_eq_false (by first | omega | (dsimp only; omega))).symm : false = _)) ?_
            refine WL.yes (by rfl) (Ex.q (q_pick_f (by rfl) (by rfl)) (by rfl) ?_)
            refine WL.yes (by rfl) (Ex.q (q_pick_t (by rfl) (by rfl)) (by rfl) ?_)
            refine WL.yes (by rfl) (Ex.q (q_pick_f (by rfl) (by rfl)) (by rfl) ?_)
            refine WL.yes (by rfl) (Ex.q (q_move (by rfl)) (by rfl) ?_)
            first | (refine WL.yes (by rfl) (Ex.q (q_fieldAddr (by rfl)) (by rfl) ?_)) | (refine WL.yes (by rfl) (Ex.q (q_fieldAddr_rop (by rfl) (by rfl)) (by rfl) ?_)) | (refine WL.yes (by rfl) (Ex.q (q_fieldAddr_pel (by rfl)) (by rfl) ?_))
            first | (refine WL.yes (by rfl) (Ex.h (h_load (by rfl) (by rfl) (by rfl)) (by rfl) ?_)) | (refine WL.yes (by rfl) (Ex.q (q_load (by rfl) (by rfl) (by rfl)) (by rfl) ?_)) | (refine WL.yes (by rfl) (Ex.q (q_load_rop (by rfl) (by rfl)) (by rfl) ?_)) | (refine WL.yes (by rfl) (Ex.h (h_load_pel (by rfl) (by rfl) ?_ (by rfl)) (by rfl) ?_); (· (omega))) | (refine WL.yes (by rfl) (Ex.q (q_load_pel (by rfl) (by rfl) ?_ (by rfl)) (by rfl) ?_); (· (omega)))
            first | (refine WL.yes (by rfl) (Ex.q (q_int (by rfl) (by rfl) (by rfl)) (by rfl) ?_)) | (refine WL.yes (by rfl) (Ex.q (q_eqb (by rfl) (by rfl)) (by rfl) ?_)) | (refine WL.yes (by rfl) (Ex.q (q_eqp rfl rfl (by rfl) (by rfl) ?_) (by rfl) ?_); (· (rfl))) | (refine WL.yes (by rfl) (Ex.q (q_eqs (by rfl) (by rfl)) (by rfl) ?_))
            refine WL.set 112 (.bool false) (by rfl) (congrArg V.bool ((decide_eq_false (by first | omega | (dsimp only; omega))).symm : false = _)) ?_
            refine WL.yes (by rfl) (Ex.q (q_move (by rfl)) (by rfl) ?_)
            refine WL.no (by rfl) (by rfl) ?_
            refine WL.no (by rfl) (by rfl) ?_
            refine WL.no (by rfl) (by rfl) ?_
            refine WL.no (by rfl) (by rfl) ?_
            refine WL.no (by rfl) (by rfl) ?_
            refine WL.no (by rfl) (by rfl) ?_
            refine WL.yes (by rfl) (Ex.q (q_pick_f (by rfl) (by rfl)) (by rfl) ?_)
            refine WL.yes (by rfl) (Ex.q (q_pick_f (by rfl) (by rfl)) (by rfl) ?_)
            refine WL.nil ?_
            (repeat refine J.seq ?_)
            refine J.condF (by rfl) ?_
            (repeat refine J.seq ?_)
            refine J.skip ?_
            (repeat refine J.seq ?_)
            refine J.region ?_
            refine WL.yes (by rfl) (Ex.q (q_move (by rfl)) (by rfl) ?_)
            refine WL.yes (by rfl) (Ex.q (q_move (by rfl)) (by rfl) ?_)
            refine WL.yes (by rfl) (Ex.q (q_move (by rfl)) (by rfl) ?_)
            refine WL.yes (by rfl) (Ex.q (q_move (by rfl)) (by rfl) ?_)
            first | (refine WL.yes (by rfl) (Ex.q (q_indexAddr_ros (by rfl) (by rfl) (by intro _; rfl) ?_ ?_) (by rfl) ?_); (· (omega)); (· (omega))) | (refine WL.yes (by rfl) (Ex.q (q_indexAddr_sl (by rfl) (by rfl) ?_ ?_) (by rfl) ?_); (· (omega)); (· (omega))) | (refine WL.yes (by rfl) (Ex.q (q_indexAddr_arr (by rfl) (by rfl) ?_ ?_) (by rfl) ?_); (· (omega)); (· (omega)))
            first | (refine WL.yes (by rfl) (Ex.q (q_fieldAddr (by rfl)) (by rfl) ?_)) | (refine WL.yes (by rfl) (Ex.q (q_fieldAddr_rop (by rfl) (by rfl)) (by rfl) ?_)) | (refine WL.yes (by rfl) (Ex.q (q_fieldAddr_pel (by rfl)) (by rfl) ?_))
            first | (refine WL.yes (by rfl) (Ex.h (h_load (by rfl) (by rfl) (by rfl)) (by rfl) ?_)) | (refine WL.yes (by rfl) (Ex.q (q_load (by rfl) (by rfl) (by rfl)) (by rfl) ?_)) | (refine WL.yes (by rfl) (Ex.q (q_load_rop (by rfl) (by rfl)) (by rfl) ?_)) | (refine WL.yes (by rfl) (Ex.h (h_load_pel (by rfl) (by rfl) ?_ (by rfl)) (by rfl) ?_); (· (omega))) | (refine WL.yes (by rfl) (Ex.q (q_load_pel (by rfl) (by rfl) ?_ (by rfl)) (by rfl) ?_); (· (omega)))
            refine WL.set 128 (.bool (lat l k).ok) (by rfl) (by first | rfl | rw [Int.toNat_natCast] | rw [Nat.zero_add, Int.toNat_natCast]) ?_
            refine WL.yes (by rfl) (Ex.callL (fReply_spec fb mh mw mf wpr (s := { s with wo := o, busy := true }) (now := (now + (lat l k).gap)) (ok := (lat l k).ok) hs1.toFOk (by omega)) (by rfl) (by rfl) (.cons rfl (.cons rfl (.cons rfl (.cons rfl (.cons rfl .nil))))) ?_)
            rintro _ _ ⟨hr, hH9⟩
            rw [reply_zero rfl] at hr
            subst hr hH9
            refine WL.yes (by rfl) (Ex.callq (fnum_spec _) (by rfl) (by rfl) rfl (fun _ h => h) ?_)
            first | (refine WL.yes (by rfl) (Ex.q (q_int (by rfl) (by rfl) (by rfl)) (by rfl) ?_)) | (refine WL.yes (by rfl) (Ex.q (q_neb (by rfl) (by rfl)) (by rfl) ?_)) | (refine WL.yes (by rfl) (Ex.q (q_nep rfl rfl (by rfl) (by rfl) ?_) (by rfl) ?_); (· (rfl))) | (refine WL.yes (by rfl) (Ex.q (q_eqs (by rfl) (by rfl)) (by rfl) ?_))
            refine WL.set 131 (.bool false) (by rfl) (congrArg V.bool ((by simp) : false = _)) ?_
            refine WL.yes (by rfl) (Ex.q (q_move (by rfl)) (by rfl) ?_)
            refine WL.yes (by rfl) (Ex.q (q_move (by rfl)) (by rfl) ?_)
            refine WL.yes (by rfl) (Ex.q (q_move (by rfl)) (by rfl) ?_)
            refine WL.yes (by rfl) (Ex.callL (fReply_spec fb mh mw mf wpr (s := (FS.reply (now + (lat l k).gap) (lat l k).ok { s with wo := o, busy := true }).2) (now := (now + (lat l k).gap)) (ok := true) hs2.toFOk (by omega)) (by rfl) (by rfl) (.cons rfl (.cons rfl (.cons rfl (.cons rfl (.cons rfl .nil))))) ?_)
            rintro _ _ ⟨hr, hH9⟩
            rw [reply_no reply_busy] at hr hH9
            subst hr hH9
            refine WL.yes (by rfl) (Ex.callq (fnum_spec _) (by rfl) (by rfl) rfl (fun _ h => h) ?_)
            first | (refine WL.yes (by rfl) (Ex.q (q_int (by rfl) (by rfl) (by rfl)) (by rfl) ?_)) | (refine WL.yes (by rfl) (Ex.q (q_neb (by rfl) (by rfl)) (by rfl) ?_)) | (refine WL.yes (by rfl) (Ex.q (q_nep rfl rfl (by rfl) (by rfl) ?_) (by rfl) ?_); (· (rfl))) | (refine WL.yes (by rfl) (Ex.q (q_eqs (by rfl) (by rfl)) (by rfl) ?_))
            refine WL.set 137 (.bool false) (by rfl) (congrArg V.bool ((by simp) : false = _)) ?_
            refine WL.yes (by rfl) (Ex.q (q_pick_f (by rfl) (by rfl)) (by rfl) ?_)
            refine WL.nil ?_
            (repeat refine J.seq ?_)
            refine J.condF (by rfl) ?_
            (repeat refine J.seq ?_)
            refine J.skip ?_
            (repeat refine J.seq ?_)
            refine J.region ?_
            refine WL.yes (by rfl) (Ex.q (q_move (by rfl)) (by rfl) ?_)
            refine WL.yes (by rfl) (Ex.q (q_move (by rfl)) (by rfl) ?_)
            first | (refine WL.yes (by rfl) (Ex.q (q_indexAddr_ros (by rfl) (by rfl) (by intro _; rfl) ?_ ?_) (by rfl) ?_); (· (omega)); (· (omega))) | (refine WL.yes (by rfl) (Ex.q (q_indexAddr_sl (by rfl) (by rfl) ?_ ?_) (by rfl) ?_); (· (omega)); (· (omega))) | (refine WL.yes (by rfl) (Ex.q (q_indexAddr_arr (by rfl) (by rfl) ?_ ?_) (by rfl) ?_); (· (omega)); (· (omega)))
            first | (refine WL.yes (by rfl) (Ex.q (q_fieldAddr (by rfl)) (by rfl) ?_)) | (refine WL.yes (by rfl) (Ex.q (q_fieldAddr_rop (by rfl) (by rfl)) (by rfl) ?_)) | (refine WL.yes (by rfl) (Ex.q (q_fieldAddr_pel (by rfl)) (by rfl) ?_))
            first | (refine WL.yes (by rfl) (Ex.h (h_load (by rfl) (by rfl) (by rfl)) (by rfl) ?_)) | (refine WL.yes (by rfl) (Ex.q (q_load (by rfl) (by rfl) (by rfl)) (by rfl) ?_)) | (refine WL.yes (by rfl) (Ex.q (q_load_rop (by rfl) (by rfl)) (by rfl) ?_)) | (refine WL.yes (by rfl) (Ex.h (h_load_pel (by rfl) (by rfl) ?_ (by rfl)) (by rfl) ?_); (· (omega))) | (refine WL.yes (by rfl) (Ex.q (q_load_pel (by rfl) (by rfl) ?_ (by rfl)) (by rfl) ?_); (· (omega)))
            refine WL.set 143 (.bool (lat l k).ok) (by rfl) (by first | rfl | rw [Int.toNat_natCast] | rw [Nat.zero_add, Int.toNat_natCast]) ?_
            refine WL.nil ?_
            (repeat refine J.seq ?_)
            refine J.cond (by rfl) (fun c143 => ?_) (fun c143 => ?_)
            · skip
              (first | have e143 := of_decide_eq_true c143 | have e143 := of_decide_eq_false c143 | have e143 := ndec_t c143 | have e143 := ndec_f c143 | skip)
              have hok : (lat l k).ok = true := c143
              (repeat refine J.seq ?_)
              refine J.region ?_
              first | (refine WL.yes (by rfl) (Ex.q (q_fieldAddr (by rfl)) (by rfl) ?_)) | (refine WL.yes (by rfl) (Ex.q (q_fieldAddr_rop (by rfl) (by rfl)) (by rfl) ?_)) | (refine WL.yes (by rfl) (Ex.q (q_fieldAddr_pel (by rfl)) (by rfl) ?_))
              first | (refine WL.yes (by rfl) (Ex.h (h_load (by rfl) (by rfl) (by rfl)) (by rfl) ?_)) | (refine WL.yes (by rfl) (Ex.q (q_load (by rfl) (by rfl) (by rfl)) (by rfl) ?_)) | (refine WL.yes (by rfl) (Ex.q (q_load_rop (by rfl) (by rfl)) (by rfl) ?_)) | (refine WL.yes (by rfl) (Ex.h (h_load_pel (by rfl) (by rfl) ?_ (by rfl)) (by rfl) ?_); (· (omega))) | (refine WL.yes (by rfl) (Ex.q (q_load_pel (by rfl) (by rfl) ?_ (by rfl)) (by rfl) ?_); (· (omega)))
              first | (refine WL.yes (by rfl) (Ex.q (q_int (by rfl) (by rfl) (by rfl)) (by rfl) ?_)) | (refine WL.yes (by rfl) (Ex.q (q_eqb (by rfl) (by rfl)) (by rfl) ?_)) | (refine WL.yes (by rfl) (Ex.q (q_eqp rfl rfl (by rfl) (by rfl) ?_) (by rfl) ?_); (· (rfl))) | (refine WL.yes (by rfl) (Ex.q (q_eqs (by rfl) (by rfl)) (by rfl) ?_))
              refine WL.nil ?_
              (repeat refine J.seq ?_)
              refine J.cond (by rfl) (fun c146 => ?_) (fun c146 => ?_)
              · skip
                (first | have e146 := of_decide_eq_true c146 | have e146 := of_decide_eq_false c146 | have e146 := ndec_t c146 | have e146 := ndec_f c146 | skip)
                have h3k : o.k = 3 := e146
                obtain ⟨k0, hk0, hk1, hk4⟩ := fnd_ge (p := o.e.p) (l := s.H) (by omega)
                have hH : (FS.reply (now + (lat l k).gap) (lat l k).ok { s with wo := o, busy := true }).2.H = s.H.take k0 ++ s.H.drop (k0 + 1) := by rw [hok, reply_rem rfl h3k, tdel_at hs.h hk1 hk4]
                refine J.veccap (t := 4) rfl (fun hcap1 => ?_)
                rw [hk0]
                (repeat refine J.seq ?_)
                refine J.draw [4, 7, 1051, 1052, 1053, 1054, 1060] 9999 [(1, true), (2, true), (3, true), (5, true), (6, true), (7, true), (8, true), (0, false), (4, false), (9, false), (10, true)] (by kernel_rfl) rfl (by kernel_rfl) ?_
                intro F4 hF4
                refine WS.take rfl (by rfl) (by rfl) (q_move (by rfl)) ?_
                refine WS.take rfl (by rfl) (by rfl) (q_move (by rfl)) ?_
                first | (refine WS.take rfl (by rfl) (by rfl) (q_slice_arr (by rfl) (by rfl) (by rfl) ?_ ?_ ?_) ?_; (· (omega)); (· (omega)); (· (omega))) | (refine WS.take rfl (by rfl) (by rfl) (q_slice_ros (by rfl) (by intro _; rfl) (by rfl) (by rfl) ?_ ?_ ?_) ?_; (· (omega)); (· (omega)); (· (omega))) | (refine WS.take rfl (by rfl) (by rfl) (q_slice_sl (by rfl) (by rfl) (by rfl) ?_ ?_ ?_) ?_; (· (omega)); (· (omega)); (· (omega))) | (refine WS.take rfl (by rfl) (by rfl) (q_slice_sla (by rfl) (by rfl) (Nat.le_refl _) (by rfl) (by rfl) ?_ ?_ ?_) ?_; (· (omega)); (· (omega)); (· (omega)))
                refine WS.take rfl (by rfl) (by rfl) (q_move (by rfl)) ?_
                refine WS.take rfl (by rfl) (by rfl) (q_move (by rfl)) ?_
                refine WS.take rfl (by rfl) (by rfl) (q_int (by rfl) (by rfl) (by rfl)) ?_
                refine WS.set 154 (iV ((k0 + 1 : Nat) : Int)) (by rfl) (congrArg iV (w64_nat (by omega)).symm) ?_
                first | (refine WS.take rfl (by rfl) (by rfl) (q_slice_arr (by rfl) (by rfl) (by rfl) ?_ ?_ ?_) ?_; (· (omega)); (· (omega)); (· (omega))) | (refine WS.take rfl (by rfl) (by rfl) (q_slice_ros (by rfl) (by intro _; rfl) (by rfl) (by rfl) ?_ ?_ ?_) ?_; (· (omega)); (· (omega)); (· (omega))) | (refine WS.take rfl (by rfl) (by rfl) (q_slice_sl (by rfl) (by rfl) (by rfl) ?_ ?_ ?_) ?_; (· (omega)); (· (omega)); (· (omega))) | (refine WS.take rfl (by rfl) (by rfl) (q_slice_sla (by rfl) (by rfl) (Nat.le_refl _) (by rfl) (by rfl) ?_ ?_ ?_) ?_; (· (omega)); (· (omega)); (· (omega)))
                refine WS.ex rfl (by rfl) (Ex.buildSlice (parts := []) (us := []) (by rfl) (by rfl) rfl (by rfl) (by rfl) ?_)
                intro b147
                refine WS.ex rfl (by rfl) (Ex.append0 enE (l' := s.H.take k0) (by rfl) (by rfl) (by rfl) (by rfl) (Rd.subR _ (by rfl) ?_ ?_) ?_ ?_); (· (exact take_in (by omega))); (· (exact take_sl)); (· (simp; omega))
                intro a151 cap151
                refine WS.ex rfl (by rfl) (Ex.append (e := enE) (l := (s.H.take k0)) (l' := s.H.drop (k0 + 1)) (by rfl) (by rfl) (by rfl) (by rfl) (Rd.subR _ (by rfl) ?_ ?_) ?_ ?_); (· (exact drop_in hcap1 (by omega))); (· (exact drop_sl hcap1 (by omega))); (· (simp; omega))
                intro a156 cap156
                refine WS.take rfl (by rfl) (by rfl) (q_assign (by rfl)) ?_
                refine WS.nil ?_
                (repeat refine J.seq ?_)
                refine J.region ?_
                refine WL.yes (by rfl) (Ex.q (q_move (by rfl)) (by rfl) ?_)
                refine WL.yes (by rfl) (Ex.callL (fHas_spec fb mh mw mf wpr (s := (FS.reply (now + (lat l k).gap) (lat l k).ok { s with wo := o, busy := true }).2) hs2.toFOk) (by rfl) (by rfl) (.cons rfl (.cons rfl (.cons rfl (.cons rfl (.cons rfl .nil))))) ?_)
                rintro _ _ ⟨a162, cap162, rfl, rfl⟩
                refine WL.yes (by rfl) (Ex.q (q_move (by rfl)) (by rfl) ?_)
                refine WL.yes (by rfl) (Ex.callqz (same_spec (l := (FS.reply (now + (lat l k).gap) (lat l k).ok { s with wo := o, busy := true }).2.H) (l2 := _) ?_ ?_ ?_) (by rfl) (by rfl) (.cons (.sla (by rfl)) (.cons (.sla (by rfl)) .nil)) (fun _ => trivial) ?_); (· (have := hs2.lh; omega)); (· (exact hs2.h.ok)); (· (rw [← hH]; exact hs2.h.ok))
                refine WL.set 164 (.bool true) (by rfl) (congrArg V.bool ((decide_eq_true hH).symm : true = _)) ?_
                refine WL.yes (by rfl) (Ex.q (q_not (by rfl)) (by rfl) ?_)
                refine WL.nil ?_
                (repeat refine J.seq ?_)
                refine J.condF (by rfl) ?_
                (repeat refine J.seq ?_)
                refine J.skip ?_
                (repeat refine J.seq ?_)
                refine J.region ?_
                refine WL.yes (by rfl) (Ex.q (q_move (by rfl)) (by rfl) ?_)
                refine WL.yes (by rfl) (Ex.q (q_int (by rfl) (by rfl) (by rfl)) (by rfl) ?_)
                refine WL.yes (by rfl) (Ex.q (q_assign (by rfl)) (by rfl) ?_)
                refine WL.nil ?_
                first | (refine Kloop.nextP (k + 1, s.want (lat l k).l, mwq, wp, (now + (lat l k).gap), aX, cX) ?_ ?_ ⟨same (by rw [← w64_nat (k := k) (by omega)]; rfl), same rfl, same rfl, trivial⟩ ⟨same rfl, same rfl, trivial⟩ (.cons (s := 1060) rfl (CLe.refl _ _) rfl (.cons (s := 1051) rfl (CLe.refl _ _) rfl (.cons (s := 1052) rfl (CLe.refl _ _) rfl (.cons (s := 1053) rfl (CLe.refl _ _) rfl (.cons (s := 1054) rfl (CLe.refl _ _) rfl (.cons (s := 4) rfl (CLe.refl _ _) rfl .nil)))))); (· (exact ⟨by (try dsimp only); omega, (hs.want hact hg.2.2).mono (by omega), by (try dsimp only); omega, by (try dsimp only); omega, hb⟩)); (· ((try dsimp only) <;> omega))) | (refine Kloop.nextP (k + 1, (FS.reply (now + (lat l k).gap) (lat l k).ok { s with wo := o, busy := true }).2, mw, wpr, (now + (lat l k).gap), a156, cap156) ?_ ?_ ⟨same (by rw [← w64_nat (k := k) (by omega)]; rfl), same rfl, ⟨_, rfl, by rw [hH]; cases a156 <;> rfl, fun _ => trivial⟩, trivial⟩ ⟨same rfl, same rfl, trivial⟩ (.cons (s := 1060) rfl (CLe.refl _ _) rfl (.cons (s := 1051) rfl (CLe.refl _ _) rfl (.cons (s := 1052) rfl (CLe.refl _ _) rfl (.cons (s := 1053) rfl (CLe.refl _ _) rfl (.cons (s := 1054) rfl (CLe.refl _ _) rfl (.cons (s := 156) rfl (by rw [hH]; exact CLe.refl _ _) rfl .nil)))))); (· (exact ⟨by (try dsimp only); omega, hs2, by (try dsimp only); omega, by (try dsimp only); omega, reply_busy⟩)); (· ((try dsimp only) <;> omega))) | (refine Kloop.nextP (k + 1, (FS.reply (now + (lat l k).gap) (lat l k).ok { s with wo := o, busy := true }).2, mw, wpr, (now + (lat l k).gap), a160, cap160) ?_ ?_ ⟨same (by rw [← w64_nat (k := k) (by omega)]; rfl), same rfl, ⟨_, rfl, by rw [hH]; cases a160 <;> rfl, fun _ => trivial⟩, trivial⟩ ⟨same rfl, same rfl, trivial⟩ (.cons (s := 1060) rfl (CLe.refl _ _) rfl (.cons (s := 1051) rfl (CLe.refl _ _) rfl (.cons (s := 1052) rfl (CLe.refl _ _) rfl (.cons (s := 1053) rfl (CLe.refl _ _) rfl (.cons (s := 1054) rfl (CLe.refl _ _) rfl (.cons (s := 2044) rfl (by rw [hH]; exact CLe.refl _ _) rfl .nil)))))); (· (exact ⟨by (try dsimp only); omega, hs2, by (try dsimp only); omega, by (try dsimp only); omega, reply_busy⟩)); (· ((try dsimp only) <;> omega))) | (refine Kloop.nextP (k + 1, (FS.reply (now + (lat l k).gap) (lat l k).ok { s with wo := o, busy := true }).2, mw, wpr, (now + (lat l k).gap), aX, cX) ?_ ?_ ⟨same (by rw [← w64_nat (k := k) (by omega)]; rfl), same rfl, ⟨_, rfl, by rw [hH], fun _ => trivial⟩, trivial⟩ ⟨same rfl, same rfl, trivial⟩ (.cons (s := 1060) rfl (CLe.refl _ _) rfl (.cons (s := 1051) rfl (CLe.refl _ _) rfl (.cons (s := 1052) rfl (CLe.refl _ _) rfl (.cons (s := 1053) rfl (CLe.refl _ _) rfl (.cons (s := 1054) rfl (CLe.refl _ _) rfl (.cons (s := 4) rfl (by rw [hH]; exact CLe.refl _ _) rfl .nil)))))); (· (exact ⟨by (try dsimp only); omega, hs2, by (try dsimp only); omega, by (try dsimp only); omega, reply_busy⟩)); (· ((try dsimp only) <;> omega))) | (refine Kloop.nextP (k + 1, s, mw, wpq, (now + (lat l k).gap), aX, cX) ?_ ?_ ⟨same (by rw [← w64_nat (k := k) (by omega)]; rfl), same rfl, same rfl, trivial⟩ ⟨same rfl, same rfl, trivial⟩ (.cons (s := 1060) rfl (CLe.refl _ _) rfl (.cons (s := 1051) rfl (CLe.refl _ _) rfl (.cons (s := 1052) rfl (CLe.refl _ _) rfl (.cons (s := 1053) rfl (CLe.refl _ _) rfl (.cons (s := 1054) rfl (CLe.refl _ _) rfl (.cons (s := 4) rfl (CLe.refl _ _) rfl .nil)))))); (· (exact ⟨by (try dsimp only); omega, hs.mono (by omega), by (try dsimp only); omega, by (try dsimp only); omega, hb⟩)); (· ((try dsimp only) <;> omega)))
              · skip
                (first | have e146 := of_decide_eq_true c146 | have e146 := of_decide_eq_false c146 | have e146 := ndec_t c146 | have e146 := ndec_f c146 | skip)
                have h3k : ¬ o.k = 3 := e146
                have hH : (FS.reply (now + (lat l k).gap) (lat l k).ok { s with wo := o, busy := true }).2.H = tput o.e s.H := by rw [hok, reply_put rfl h3k]
                (repeat refine J.seq ?_)
                refine J.region ?_
                refine WL.yes (by rfl) (Ex.q (q_move (by rfl)) (by rfl) ?_)
                first | (refine WL.yes (by rfl) (Ex.q (q_fieldAddr (by rfl)) (by rfl) ?_)) | (refine WL.yes (by rfl) (Ex.q (q_fieldAddr_rop (by rfl) (by rfl)) (by rfl) ?_)) | (refine WL.yes (by rfl) (Ex.q (q_fieldAddr_pel (by rfl)) (by rfl) ?_))
                first | (refine WL.yes (by rfl) (Ex.h (h_load (by rfl) (by rfl) (by rfl)) (by rfl) ?_)) | (refine WL.yes (by rfl) (Ex.q (q_load (by rfl) (by rfl) (by rfl)) (by rfl) ?_)) | (refine WL.yes (by rfl) (Ex.q (q_load_rop (by rfl) (by rfl)) (by rfl) ?_)) | (refine WL.yes (by rfl) (Ex.h (h_load_pel (by rfl) (by rfl) ?_ (by rfl)) (by rfl) ?_); (· (omega))) | (refine WL.yes (by rfl) (Ex.q (q_load_pel (by rfl) (by rfl) ?_ (by rfl)) (by rfl) ?_); (· (omega)))
                refine WL.yes (by rfl) (Ex.callz _ [] [] (put_spec (l := s.H) (e := o.e) ?_ ?_ ?_) (by rfl) (by rfl) (.cons (.sla (by rfl)) (.cons (.same _) .nil)) (fun t c hg => by simp [get] at hg) plain_put ?_); (· (omega)); (· (exact hs.h)); (· (exact hoe))
                rintro _ _ ⟨a160, cap160, rfl, rfl⟩
                refine WL.yes (by rfl) (Ex.q (q_assign (by rfl)) (by rfl) ?_)
                refine WL.nil ?_
                (repeat refine J.seq ?_)
                refine J.region ?_
                refine WL.yes (by rfl) (Ex.q (q_move (by rfl)) (by rfl) ?_)
                refine WL.yes (by rfl) (Ex.callL (fHas_spec fb mh mw mf wpr (s := (FS.reply (now + (lat l k).gap) (lat l k).ok { s with wo := o, busy := true }).2) hs2.toFOk) (by rfl) (by rfl) (.cons rfl (.cons rfl (.cons rfl (.cons rfl (.cons rfl .nil))))) ?_)
                rintro _ _ ⟨a162, cap162, rfl, rfl⟩
                refine WL.yes (by rfl) (Ex.q (q_move (by rfl)) (by rfl) ?_)
                refine WL.yes (by rfl) (Ex.callqz (same_spec (l := (FS.reply (now + (lat l k).gap) (lat l k).ok { s with wo := o, busy := true }).2.H) (l2 := _) ?_ ?_ ?_) (by rfl) (by rfl) (.cons (.sla (by rfl)) (.cons (.sla (by rfl)) .nil)) (fun _ => trivial) ?_); (· (have := hs2.lh; omega)); (· (exact hs2.h.ok)); (· (rw [← hH]; exact hs2.h.ok))
                refine WL.set 164 (.bool true) (by rfl) (congrArg V.bool ((decide_eq_true hH).symm : true = _)) ?_
                refine WL.yes (by rfl) (Ex.q (q_not (by rfl)) (by rfl) ?_)
                refine WL.nil ?_
                (repeat refine J.seq ?_)
                refine J.condF (by rfl) ?_
                (repeat refine J.seq ?_)
                refine J.skip ?_
                (repeat refine J.seq ?_)
                refine J.region ?_
                refine WL.yes (by rfl) (Ex.q (q_move (by rfl)) (by rfl) ?_)
                refine WL.yes (by rfl) (Ex.q (q_int (by rfl) (by rfl) (by rfl)) (by rfl) ?_)
                refine WL.yes (by rfl) (Ex.q (q_assign (by rfl)) (by rfl) ?_)
                refine WL.nil ?_
                first | (refine Kloop.nextP (k + 1, s.want (lat l k).l, mwq, wp, (now + (lat l k).gap), aX, cX) ?_ ?_ ⟨same (by rw [← w64_nat (k := k) (by omega)]; rfl), same rfl, same rfl, trivial⟩ ⟨same rfl, same rfl, trivial⟩ (.cons (s := 1060) rfl (CLe.refl _ _) rfl (.cons (s := 1051) rfl (CLe.refl _ _) rfl (.cons (s := 1052) rfl (CLe.refl _ _) rfl (.cons (s := 1053) rfl (CLe.refl _ _) rfl (.cons (s := 1054) rfl (CLe.refl _ _) rfl (.cons (s := 4) rfl (CLe.refl _ _) rfl .nil)))))); (· (exact ⟨by (try dsimp only); omega, (hs.want hact hg.2.2).mono (by omega), by (try dsimp only); omega, by (try dsimp only); omega, hb⟩)); (· ((try dsimp only) <;> omega))) | (refine Kloop.nextP (k + 1, (FS.reply (now + (lat l k).gap) (lat l k).ok { s with wo := o, busy := true }).2, mw, wpr, (now + (lat l k).gap), a156, cap156) ?_ ?_ ⟨same (by rw [← w64_nat (k := k) (by omega)]; rfl), same rfl, ⟨_, rfl, by rw [hH]; cases a156 <;> rfl, fun _ => trivial⟩, trivial⟩ ⟨same rfl, same rfl, trivial⟩ (.cons (s := 1060) rfl (CLe.refl _ _) rfl (.cons (s := 1051) rfl (CLe.refl _ _) rfl (.cons (s := 1052) rfl (CLe.refl _ _) rfl (.cons (s := 1053) rfl (CLe.refl _ _) rfl (.cons (s := 1054) rfl (CLe.refl _ _) rfl (.cons (s := 156) rfl (by rw [hH]; exact CLe.refl _ _) rfl .nil)))))); (· (exact ⟨by (try dsimp only); omega, hs2, by (try dsimp only); omega, by (try dsimp only); omega, reply_busy⟩)); (· ((try dsimp only) <;> omega))) | (refine Kloop.nextP (k + 1, (FS.reply (now + (lat l k).gap) (lat l k).ok { s with wo := o, busy := true }).2, mw, wpr, (now + (lat l k).gap), a160, cap160) ?_ ?_ ⟨same (by rw [← w64_nat (k := k) (by omega)]; rfl), same rfl, ⟨_, rfl, by rw [hH]; cases a160 <;> rfl, fun _ => trivial⟩, trivial⟩ ⟨same rfl, same rfl, trivial⟩ (.cons (s := 1060) rfl (CLe.refl _ _) rfl (.cons (s := 1051) rfl (CLe.refl _ _) rfl (.cons (s := 1052) rfl (CLe.refl _ _) rfl (.cons (s := 1053) rfl (CLe.refl _ _) rfl (.cons (s := 1054) rfl (CLe.refl _ _) rfl (.cons (s := 2044) rfl (by rw [hH]; exact CLe.refl _ _) rfl .nil)))))); (· (exact ⟨by (try dsimp only); omega, hs2, by (try dsimp only); omega, by (try dsimp only); omega, reply_busy⟩)); (· ((try dsimp only) <;> omega))) | (refine Kloop.nextP (k + 1, (FS.reply (now + (lat l k).gap) (lat l k).ok { s with wo := o, busy := true }).2, mw, wpr, (now + (lat l k).gap), aX, cX) ?_ ?_ ⟨same (by rw [← w64_nat (k := k) (by omega)]; rfl), same rfl, ⟨_, rfl, by rw [hH], fun _ => trivial⟩, trivial⟩ ⟨same rfl, same rfl, trivial⟩ (.cons (s := 1060) rfl (CLe.refl _ _) rfl (.cons (s := 1051) rfl (CLe.refl _ _) rfl (.cons (s := 1052) rfl (CLe.refl _ _) rfl (.cons (s := 1053) rfl (CLe.refl _ _) rfl (.cons (s := 1054) rfl (CLe.refl _ _) rfl (.cons (s := 4) rfl (by rw [hH]; exact CLe.refl _ _) rfl .nil)))))); (· (exact ⟨by (try dsimp only); omega, hs2, by (try dsimp only); omega, by (try dsimp only); omega, reply_busy⟩)); (· ((try dsimp only) <;> omega))) | (refine Kloop.nextP (k + 1, s, mw, wpq, (now + (lat l k).gap), aX, cX) ?_ ?_ ⟨same (by rw [← w64_nat (k := k) (by omega)]; rfl), same rfl, same rfl, trivial⟩ ⟨same rfl, same rfl, trivial⟩ (.cons (s := 1060) rfl (CLe.refl _ _) rfl (.cons (s := 1051) rfl (CLe.refl _ _) rfl (.cons (s := 1052) rfl (CLe.refl _ _) rfl (.cons (s := 1053) rfl (CLe.refl _ _) rfl (.cons (s := 1054) rfl (CLe.refl _ _) rfl (.cons (s := 4) rfl (CLe.refl _ _) rfl .nil)))))); (· (exact ⟨by (try dsimp only); omega, hs.mono (by omega), by (try dsimp only); omega, by (try dsimp only); omega, hb⟩)); (· ((try dsimp only) <;> omega)))
            · skip
              (first | have e143 := of_decide_eq_true c143 | have e143 := of_decide_eq_false c143 | have e143 := ndec_t c143 | have e143 := ndec_f c143 | skip)
              have hok : (lat l k).ok = false := c143
              have hH : (FS.reply (now + (lat l k).gap) (lat l k).ok { s with wo := o, busy := true }).2.H = s.H := by rw [hok, reply_fail rfl]
              (repeat refine J.seq ?_)
              refine J.skip ?_
              (repeat refine J.seq ?_)
              refine J.region ?_
              refine WL.yes (by rfl) (Ex.q (q_move (by rfl)) (by rfl) ?_)
              refine WL.yes (by rfl) (Ex.callL (fHas_spec fb mh mw mf wpr (s := (FS.reply (now + (lat l k).gap) (lat l k).ok { s with wo := o, busy := true }).2) hs2.toFOk) (by rfl) (by rfl) (.cons rfl (.cons rfl (.cons rfl (.cons rfl (.cons rfl .nil))))) ?_)
              rintro _ _ ⟨a162, cap162, rfl, rfl⟩
              refine WL.yes (by rfl) (Ex.q (q_move (by rfl)) (by rfl) ?_)
              refine WL.yes (by rfl) (Ex.callqz (same_spec (l := (FS.reply (now + (lat l k).gap) (lat l k).ok { s with wo := o, busy := true }).2.H) (l2 := _) ?_ ?_ ?_) (by rfl) (by rfl) (.cons (.sla (by rfl)) (.cons (.sla (by rfl)) .nil)) (fun _ => trivial) ?_); (· (have := hs2.lh; omega)); (· (exact hs2.h.ok)); (· (rw [← hH]; exact hs2.h.ok))
              refine WL.set 164 (.bool true) (by rfl) (congrArg V.bool ((decide_eq_true hH).symm : true = _)) ?_
              refine WL.yes (by rfl) (Ex.q (q_not (by rfl)) (by rfl) ?_)
              refine WL.nil ?_
              (repeat refine J.seq ?_)
              refine J.condF (by rfl) ?_
              (repeat refine J.seq ?_)
              refine J.skip ?_
              (repeat refine J.seq ?_)
              refine J.region ?_
              refine WL.yes (by rfl) (Ex.q (q_move (by rfl)) (by rfl) ?_)
              refine WL.yes (by rfl) (Ex.q (q_int (by rfl) (by rfl) (by rfl)) (by rfl) ?_)
              refine WL.yes (by rfl) (Ex.q (q_assign (by rfl)) (by rfl) ?_)
              refine WL.nil ?_
              first | (refine Kloop.nextP (k + 1, s.want (lat l k).l, mwq, wp, (now + (lat l k).gap), aX, cX) ?_ ?_ ⟨same (by rw [← w64_nat (k := k) (by omega)]; rfl), same rfl, same rfl, trivial⟩ ⟨same rfl, same rfl, trivial⟩ (.cons (s := 1060) rfl (CLe.refl _ _) rfl (.cons (s := 1051) rfl (CLe.refl _ _) rfl (.cons (s := 1052) rfl (CLe.refl _ _) rfl (.cons (s := 1053) rfl (CLe.refl _ _) rfl (.cons (s := 1054) rfl (CLe.refl _ _) rfl (.cons (s := 4) rfl (CLe.refl _ _) rfl .nil)))))); (· (exact ⟨by (try dsimp only); omega, (hs.want hact hg.2.2).mono (by omega), by (try dsimp only); omega, by (try dsimp only); omega, hb⟩)); (· ((try dsimp only) <;> omega))) | (refine Kloop.nextP (k + 1, (FS.reply (now + (lat l k).gap) (lat l k).ok { s with wo := o, busy := true }).2, mw, wpr, (now + (lat l k).gap), a156, cap156) ?_ ?_ ⟨same (by rw [← w64_nat (k := k) (by omega)]; rfl), same rfl, ⟨_, rfl, by rw [hH]; cases a156 <;> rfl, fun _ => trivial⟩, trivial⟩ ⟨same rfl, same rfl, trivial⟩ (.cons (s := 1060) rfl (CLe.refl _ _) rfl (.cons (s := 1051) rfl (CLe.refl _ _) rfl (.cons (s := 1052) rfl (CLe.refl _ _) rfl (.cons (s := 1053) rfl (CLe.refl _ _) rfl (.cons (s := 1054) rfl (CLe.refl _ _) rfl (.cons (s := 156) rfl (by rw [hH]; exact CLe.refl _ _) rfl .nil)))))); (· (exact ⟨by (try dsimp only); omega, hs2, by (try dsimp only); omega, by (try dsimp only); omega, reply_busy⟩)); (· ((try dsimp only) <;> omega))) | (refine Kloop.nextP (k + 1, (FS.reply (now + (lat l k).gap) (lat l k).ok { s with wo := o, busy := true }).2, mw, wpr, (now + (lat l k).gap), a160, cap160) ?_ ?_ ⟨same (by rw [← w64_nat (k := k) (by omega)]; rfl), same rfl, ⟨_, rfl, by rw [hH]; cases a160 <;> rfl, fun _ => trivial⟩, trivial⟩ ⟨same rfl, same rfl, trivial⟩ (.cons (s := 1060) rfl (CLe.refl _ _) rfl (.cons (s := 1051) rfl (CLe.refl _ _) rfl (.cons (s := 1052) rfl (CLe.refl _ _) rfl (.cons (s := 1053) rfl (CLe.refl _ _) rfl (.cons (s := 1054) rfl (CLe.refl _ _) rfl (.cons (s := 2044) rfl (by rw [hH]; exact CLe.refl _ _) rfl .nil)))))); (· (exact ⟨by (try dsimp only); omega, hs2, by (try dsimp only); omega, by (try dsimp only); omega, reply_busy⟩)); (· ((try dsimp only) <;> omega))) | (refine Kloop.nextP (k + 1, (FS.reply (now + (lat l k).gap) (lat l k).ok { s with wo := o, busy := true }).2, mw, wpr, (now + (lat l k).gap), aX, cX) ?_ ?_ ⟨same (by rw [← w64_nat (k := k) (by omega)]; rfl), same rfl, ⟨_, rfl, by rw [hH], fun _ => trivial⟩, trivial⟩ ⟨same rfl, same rfl, trivial⟩ (.cons (s := 1060) rfl (CLe.refl _ _) rfl (.cons (s := 1051) rfl (CLe.refl _ _) rfl (.cons (s := 1052) rfl (CLe.refl _ _) rfl (.cons (s := 1053) rfl (CLe.refl _ _) rfl (.cons (s := 1054) rfl (CLe.refl _ _) rfl (.cons (s := 4) rfl (by rw [hH]; exact CLe.refl _ _) rfl .nil)))))); (· (exact ⟨by (try dsimp only); omega, hs2, by (try dsimp only); omega, by (try dsimp only); omega, reply_busy⟩)); (· ((try dsimp only) <;> omega))) | (refine Kloop.nextP (k + 1, s, mw, wpq, (now + (lat l k).gap), aX, cX) ?_ ?_ ⟨same (by rw [← w64_nat (k := k) (by omega)]; rfl), same rfl, same rfl, trivial⟩ ⟨same rfl, same rfl, trivial⟩ (.cons (s := 1060) rfl (CLe.refl _ _) rfl (.cons (s := 1051) rfl (CLe.refl _ _) rfl (.cons (s := 1052) rfl (CLe.refl _ _) rfl (.cons (s := 1053) rfl (CLe.refl _ _) rfl (.cons (s := 1054) rfl (CLe.refl _ _) rfl (.cons (s := 4) rfl (CLe.refl _ _) rfl .nil)))))); (· (exact ⟨by (try dsimp only); omega, hs.mono (by omega), by (try dsimp only); omega, by (try dsimp only); omega, hb⟩)); (· ((try dsimp only) <;> omega)))
    · skip
      (first | have e23 := of_decide_eq_true c23 | have e23 := of_decide_eq_false c23 | have e23 := ndec_t c23 | have e23 := ndec_f c23 | skip)
      (repeat refine J.seq ?_)
      refine J.exit ?_
      (repeat refine J.seq ?_)
      refine J.region ?_
      refine WL.yes (by rfl) (Ex.callL (live19_spec) (by rfl) (by rfl) .nil ?_)
      rintro _ _ ⟨rfl, rfl⟩
      refine WL.yes (by rfl) (Ex.q (q_assign (by rfl)) (by rfl) ?_)
      refine WL.nil ?_
      (repeat refine J.seq ?_)
      refine J.ret ?_
      (repeat (with_reducible first | refine Kseq.ret ?_ | refine Kblock.ret ?_ | refine Kloop.ret ?_ | refine Kcut.ret ?_))
      refine Kret.mk [] (.tmp (by rfl) (.nil)) (by rfl) trivial (HLe.nil _ _) ?_
      exact ⟨rfl, rfl⟩

end Go.Vm
