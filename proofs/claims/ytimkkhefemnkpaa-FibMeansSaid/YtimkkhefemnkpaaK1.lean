/- maps.Keys and its iterator. -/
import Derived.Test.YtimkkhefemnkpaaL1
namespace Go.Vm
open Go Go.Proofs

theorem keys80_spec (t b : Nat) : Spec Try.prog 80 [.map t (some b)] [] (fun r H' => ∃ q, r = .fn (.func 89) (.ptr 50 q 0) ∧ H' = [(50, .box q 91 (.map t (some b)))]) := by
  refine Spec.of_J Try.func80 rfl Try.ntmps80 Try.results80 rfl ?_
  intro A F hAF
  (repeat refine J.seq ?_)
  refine J.region ?_
  refine WL.yes (by rfl) (Ex.box (by rfl) (by rfl) (by rfl) ?_)
  intro b1
  refine WL.yes (by rfl) (Ex.q (q_assign (by rfl)) (by rfl) ?_)
  refine WL.nil ?_
  (repeat refine J.seq ?_)
  refine J.region ?_
  refine WL.yes (by rfl) (Ex.q (q_makeFunc (by rfl) (by rfl) (by rfl)) (by rfl) ?_)
  refine WL.yes (by rfl) (Ex.q (q_assign (by rfl)) (by rfl) ?_)
  refine WL.nil ?_
  (repeat refine J.seq ?_)
  refine J.ret ?_
  (repeat (with_reducible first | refine Kseq.ret ?_ | refine Kblock.ret ?_ | refine Kloop.ret ?_))
  exact Kret.mk2 (vs := [.fn (.func 89) (.ptr 1 b1 0)]) (.fn (.func 89) (.ptr 50 b1 0)) [(50, .box b1 91 (.map t (some b)))] (.tmp (by rfl) .nil) (by rfl) trivial rfl (fun _ _ => trivial) (HLe.sub (.cons (s := 1) rfl (CLe.refl _ _) rfl .nil)) ⟨b1, rfl, rfl⟩

set_option maxRecDepth 100000 in
theorem iter89_spec (q mb : Nat) {β : Type} (f : β → V) (L : List (Pr × β)) : Iter Try.prog 89 (.ptr 50 q 0) [(50, .box q 91 (.map 51 (some mb))), (51, mpc mb prE f L)] prE (fun ss => ss.Perm (L.map (·.1))) := by
  intro l inv H0 h100 hstep h0
  refine Spec.of_J Try.func89 rfl Try.ntmps89 Try.results89 rfl ?_
  intro A F hAF
  refine J.of_JR ?_
  (repeat refine JR.seq ?_)
  refine JR.region ?_
  refine WLR.yes (by rfl) (Ex.h (h_load (by rfl) (by rfl) (by rfl)) (by rfl) ?_)
  refine WLR.yes (by rfl) (Ex.range (e := prE) (f := f) (L := L) (by rfl) (by rfl) (by rfl) ?_)
  intro it
  refine WLR.nil ?_
  (repeat refine JR.seq ?_)
  refine JR.block ?_
  refine JR.loop (fun x : List (Pr × β) × List Pr × List (Nat × Cell) => inv x.2.1 x.2.2 ∧ (x.2.1 ++ x.1.map (·.1)).Perm (L.map (·.1)))
    (fun x => ⟨[(0, .fn (.yield l) .unit), (5, .ptr 51 it 0)], [(51, mitc mb it prE f L x.1 none), (50, .box q 91 (.map 51 (some mb)))] ++ x.2.2, []⟩) (fun x => x.1.length) (L, [], H0) ⟨h0, by simp⟩ ?_ ?_
  · refine Le.mk ⟨same rfl, same rfl, trivial⟩ ?_ rfl
    show HLe _ ([(51, mitc mb it prE f L L none), (50, .box q 91 (.map 51 (some mb))), (51, mpc mb prE f L)] ++ H0) _
    exact HLe.app (.cons (s := 51) rfl (CLe.refl _ _) rfl (.cons (s := 50) rfl (CLe.refl _ _) rfl .nil)) (fun t c hg => low_none (by rfl) (h100 _ _ _ _ h0 hg))
  rintro ⟨Lr, pre, Hx⟩ ⟨hinv, hp⟩
  have hnone : ∀ (H : List (Nat × Cell)), (H.all fun x => Nat.blt x.1 100) = true → ∀ t c, get t Hx = some c → get t H = none := fun H hH t c hg => low_none hH (h100 _ _ _ _ hinv hg)
  simp only at hinv hp
  (repeat refine JR.seq ?_)
  refine JR.region ?_
  refine WLR.yes (by rfl) (Ex.next (e := prE) (f := f) (L := L) (Lr := Lr) (cur := none) (by rfl) (by rfl) (by rfl) (fun hnil => ?_) (fun k v Lr' hperm => ?_))
  · refine WLR.yes (by rfl) (Ex.q (q_extract_raw (by rfl) (by rfl)) (by rfl) ?_)
    refine WLR.nil ?_
    (repeat refine JR.seq ?_)
    refine JR.condF (by rfl) ?_
    refine JR.exit ?_
    show Kret _ _ _ Exit.normal _
    refine Kret.mk ([(50, .box q 91 (.map 51 (some mb))), (51, mpc mb prE f L)] ++ Hx) .nil (by rfl) trivial ?_ ⟨pre, Hx, ?_, hinv, rfl⟩
    · exact HLe.app (.cons (s := 50) rfl (CLe.refl _ _) rfl (.cons (s := 51) rfl CLe.mit rfl .nil)) (hnone _ (by rfl))
    · subst hnil; simpa using hp
  · refine WLR.yes (by rfl) (Ex.q (q_extract3 (by rfl) (by rfl)) (by rfl) ?_)
    refine WLR.nil ?_
    (repeat refine JR.seq ?_)
    refine JR.condT (by rfl) ?_
    refine JR.skip ?_
    (repeat refine JR.seq ?_)
    refine JR.block ?_
    (repeat refine JR.seq ?_)
    refine JR.region ?_
    refine WLR.yes (by rfl) (Ex.h (h_entry (e := prE) (f := f) (k := k) (v := v) (by rfl) (by rfl)) (by rfl) ?_)
    refine WLR.yes (by rfl) (Ex.q (q_extract2 (by rfl) (by rfl)) (by rfl) ?_)
    refine WLR.yes (by rfl) (Ex.alloc (by rfl) ?_)
    intro b3
    refine WLR.yes (by rfl) (Ex.store (by rfl) (by rfl) (by rfl) (by rfl) (by rfl) (by rfl) ?_)
    refine WLR.nil ?_
    (repeat refine JR.seq ?_)
    have hp' : ((pre ++ [k]) ++ Lr'.map (·.1)).Perm (L.map (·.1)) := by
      refine List.Perm.trans ?_ hp
      rw [List.append_assoc]
      refine List.Perm.append_left pre ?_
      have := hperm.map (·.1)
      exact this.symm
    refine JR.region ?_
    refine WLR.yes (by rfl) (Ex.q (q_move (by rfl)) (by rfl) ?_)
    refine WLR.yes (by rfl) (Ex.h (h_load (by rfl) (by rfl) (by rfl)) (by rfl) ?_)
    refine WLR.yesR (by rfl) (ExR.yield (l := l) (front := [(3, .box b3 35 (prE k)), (3, .box b3 35 (prE default)), (51, mitc mb it prE f L Lr' (some (k, v))), (51, mitc mb it prE f L Lr none), (50, .box q 91 (.map 51 (some mb)))]) (H0 := Hx) (args := [.tmp 11]) (vs := [prE k]) (by rfl) (by rfl) (by rfl) (hstep pre k Hx hinv ⟨Lr'.map (·.1), hp'⟩) (hnone _ (by rfl))
      (fun H' hH' t c hg => low_none (by rfl) (h100 _ _ _ _ hH' hg)) (fun H' hH' => ?_))
    refine WLR.yes (by rfl) (Ex.q (q_not (by rfl)) (by rfl) ?_)
    refine WLR.nil ?_
    (repeat refine JR.seq ?_)
    refine JR.condF (by rfl) ?_
    refine JR.skip ?_
    refine Exists.intro (Lr', pre ++ [k], H') ⟨⟨hH', hp'⟩, ?_, Le.mk ⟨same rfl, same rfl, trivial⟩ ?_ rfl⟩
    · have := hperm.length_eq
      simp only [List.length_cons] at this
      show Lr'.length < Lr.length
      omega
    · exact HLe.app (.cons (s := 51) rfl CLe.mitcur rfl (.cons (s := 50) rfl (CLe.refl _ _) rfl .nil)) (fun t c hg => low_none (by rfl) (h100 _ _ _ _ hH' hg))

theorem keys82_spec (t b : Nat) : Spec Try.prog 82 [.map t (some b)] [] (fun r H' => ∃ q, r = .fn (.func 90) (.ptr 50 q 0) ∧ H' = [(50, .box q 97 (.map t (some b)))]) := by
  refine Spec.of_J Try.func82 rfl Try.ntmps82 Try.results82 rfl ?_
  intro A F hAF
  (repeat refine J.seq ?_)
  refine J.region ?_
  refine WL.yes (by rfl) (Ex.box (by rfl) (by rfl) (by rfl) ?_)
  intro b1
  refine WL.yes (by rfl) (Ex.q (q_assign (by rfl)) (by rfl) ?_)
  refine WL.nil ?_
  (repeat refine J.seq ?_)
  refine J.region ?_
  refine WL.yes (by rfl) (Ex.q (q_makeFunc (by rfl) (by rfl) (by rfl)) (by rfl) ?_)
  refine WL.yes (by rfl) (Ex.q (q_assign (by rfl)) (by rfl) ?_)
  refine WL.nil ?_
  (repeat refine J.seq ?_)
  refine J.ret ?_
  (repeat (with_reducible first | refine Kseq.ret ?_ | refine Kblock.ret ?_ | refine Kloop.ret ?_))
  exact Kret.mk2 (vs := [.fn (.func 90) (.ptr 1 b1 0)]) (.fn (.func 90) (.ptr 50 b1 0)) [(50, .box b1 97 (.map t (some b)))] (.tmp (by rfl) .nil) (by rfl) trivial rfl (fun _ _ => trivial) (HLe.sub (.cons (s := 1) rfl (CLe.refl _ _) rfl .nil)) ⟨b1, rfl, rfl⟩

set_option maxRecDepth 100000 in
theorem iter90_spec (q mb : Nat) {β : Type} (f : β → V) (L : List (Pr × β)) : Iter Try.prog 90 (.ptr 50 q 0) [(50, .box q 97 (.map 51 (some mb))), (51, mpc mb prE f L)] prE (fun ss => ss.Perm (L.map (·.1))) := by
  intro l inv H0 h100 hstep h0
  refine Spec.of_J Try.func90 rfl Try.ntmps90 Try.results90 rfl ?_
  intro A F hAF
  refine J.of_JR ?_
  (repeat refine JR.seq ?_)
  refine JR.region ?_
  refine WLR.yes (by rfl) (Ex.h (h_load (by rfl) (by rfl) (by rfl)) (by rfl) ?_)
  refine WLR.yes (by rfl) (Ex.range (e := prE) (f := f) (L := L) (by rfl) (by rfl) (by rfl) ?_)
  intro it
  refine WLR.nil ?_
  (repeat refine JR.seq ?_)
  refine JR.block ?_
  refine JR.loop (fun x : List (Pr × β) × List Pr × List (Nat × Cell) => inv x.2.1 x.2.2 ∧ (x.2.1 ++ x.1.map (·.1)).Perm (L.map (·.1)))
    (fun x => ⟨[(0, .fn (.yield l) .unit), (5, .ptr 51 it 0)], [(51, mitc mb it prE f L x.1 none), (50, .box q 97 (.map 51 (some mb)))] ++ x.2.2, []⟩) (fun x => x.1.length) (L, [], H0) ⟨h0, by simp⟩ ?_ ?_
  · refine Le.mk ⟨same rfl, same rfl, trivial⟩ ?_ rfl
    show HLe _ ([(51, mitc mb it prE f L L none), (50, .box q 97 (.map 51 (some mb))), (51, mpc mb prE f L)] ++ H0) _
    exact HLe.app (.cons (s := 51) rfl (CLe.refl _ _) rfl (.cons (s := 50) rfl (CLe.refl _ _) rfl .nil)) (fun t c hg => low_none (by rfl) (h100 _ _ _ _ h0 hg))
  rintro ⟨Lr, pre, Hx⟩ ⟨hinv, hp⟩
  have hnone : ∀ (H : List (Nat × Cell)), (H.all fun x => Nat.blt x.1 100) = true → ∀ t c, get t Hx = some c → get t H = none := fun H hH t c hg => low_none hH (h100 _ _ _ _ hinv hg)
  simp only at hinv hp
  (repeat refine JR.seq ?_)
  refine JR.region ?_
  refine WLR.yes (by rfl) (Ex.next (e := prE) (f := f) (L := L) (Lr := Lr) (cur := none) (by rfl) (by rfl) (by rfl) (fun hnil => ?_) (fun k v Lr' hperm => ?_))
  · refine WLR.yes (by rfl) (Ex.q (q_extract_raw (by rfl) (by rfl)) (by rfl) ?_)
    refine WLR.nil ?_
    (repeat refine JR.seq ?_)
    refine JR.condF (by rfl) ?_
    refine JR.exit ?_
    show Kret _ _ _ Exit.normal _
    refine Kret.mk ([(50, .box q 97 (.map 51 (some mb))), (51, mpc mb prE f L)] ++ Hx) .nil (by rfl) trivial ?_ ⟨pre, Hx, ?_, hinv, rfl⟩
    · exact HLe.app (.cons (s := 50) rfl (CLe.refl _ _) rfl (.cons (s := 51) rfl CLe.mit rfl .nil)) (hnone _ (by rfl))
    · subst hnil; simpa using hp
  · refine WLR.yes (by rfl) (Ex.q (q_extract3 (by rfl) (by rfl)) (by rfl) ?_)
    refine WLR.nil ?_
    (repeat refine JR.seq ?_)
    refine JR.condT (by rfl) ?_
    refine JR.skip ?_
    (repeat refine JR.seq ?_)
    refine JR.block ?_
    (repeat refine JR.seq ?_)
    refine JR.region ?_
    refine WLR.yes (by rfl) (Ex.h (h_entry (e := prE) (f := f) (k := k) (v := v) (by rfl) (by rfl)) (by rfl) ?_)
    refine WLR.yes (by rfl) (Ex.q (q_extract2 (by rfl) (by rfl)) (by rfl) ?_)
    refine WLR.yes (by rfl) (Ex.alloc (by rfl) ?_)
    intro b3
    refine WLR.yes (by rfl) (Ex.store (by rfl) (by rfl) (by rfl) (by rfl) (by rfl) (by rfl) ?_)
    refine WLR.nil ?_
    (repeat refine JR.seq ?_)
    have hp' : ((pre ++ [k]) ++ Lr'.map (·.1)).Perm (L.map (·.1)) := by
      refine List.Perm.trans ?_ hp
      rw [List.append_assoc]
      refine List.Perm.append_left pre ?_
      have := hperm.map (·.1)
      exact this.symm
    refine JR.region ?_
    refine WLR.yes (by rfl) (Ex.q (q_move (by rfl)) (by rfl) ?_)
    refine WLR.yes (by rfl) (Ex.h (h_load (by rfl) (by rfl) (by rfl)) (by rfl) ?_)
    refine WLR.yesR (by rfl) (ExR.yield (l := l) (front := [(3, .box b3 35 (prE k)), (3, .box b3 35 (prE default)), (51, mitc mb it prE f L Lr' (some (k, v))), (51, mitc mb it prE f L Lr none), (50, .box q 97 (.map 51 (some mb)))]) (H0 := Hx) (args := [.tmp 11]) (vs := [prE k]) (by rfl) (by rfl) (by rfl) (hstep pre k Hx hinv ⟨Lr'.map (·.1), hp'⟩) (hnone _ (by rfl))
      (fun H' hH' t c hg => low_none (by rfl) (h100 _ _ _ _ hH' hg)) (fun H' hH' => ?_))
    refine WLR.yes (by rfl) (Ex.q (q_not (by rfl)) (by rfl) ?_)
    refine WLR.nil ?_
    (repeat refine JR.seq ?_)
    refine JR.condF (by rfl) ?_
    refine JR.skip ?_
    refine Exists.intro (Lr', pre ++ [k], H') ⟨⟨hH', hp'⟩, ?_, Le.mk ⟨same rfl, same rfl, trivial⟩ ?_ rfl⟩
    · have := hperm.length_eq
      simp only [List.length_cons] at this
      show Lr'.length < Lr.length
      omega
    · exact HLe.app (.cons (s := 51) rfl CLe.mitcur rfl (.cons (s := 50) rfl (CLe.refl _ _) rfl .nil)) (fun t c hg => low_none (by rfl) (h100 _ _ _ _ hH' hg))

end Go.Vm
