/- slices.AppendSeq and slices.Collect over an iterator of pairs. -/
import Derived.Test.YtimkkhefemnkpaaK1
namespace Go.Vm
open Go Go.Proofs

/-- What AppendSeq has between two rounds. -/
def apInv (Bs : Nat) (rec : Loop) (l D : Nat) (pre : List Pr) (H : List (Nat × Cell)) : Prop :=
  ∃ a cap, H = [(100, .ex l (.loop rec)), (101, .ex D (.deferred (some []))), (102, .box Bs 84 (.sl 103 a 34 0 cap pre.length)), (103, lvec a 35 34 cap prE pre)]

theorem apInv_tags {Bs : Nat} {rec : Loop} {l D : Nat} {pre : List Pr} {H : List (Nat × Cell)} (h : apInv Bs rec l D pre H) {t : Nat} {c : Cell} (hg : get t H = some c) : 100 ≤ t := by
  obtain ⟨a, cap, rfl⟩ := h
  simp only [get_cons] at hg
  by_cases h0 : t = 100
  · omega
  · by_cases h1 : t = 101
    · omega
    · by_cases h2 : t = 102
      · omega
      · by_cases h3 : t = 103
        · omega
        · rw [if_neg h0, if_neg h1, if_neg h2, if_neg h3] at hg
          cases hg

set_option maxRecDepth 100000 in
theorem ap_round (Bs : Nat) (rec : Loop) (l D : Nat) (hs : rec.state = .ready) (hpn : rec.pending = none) (hps : rec.params = #[7]) (hN : rec.tmps.size = 13)
    (ha : rec.assign = .region 2 #[{ dst := some 5, op := .alloc 35, type := 0, pos := "iter.go:51", after := #[], guard := none }, { dst := none, op := .store 35 (.tmp 5) (.tmp 7), type := 0, pos := "iter.go:51", after := #[{ on := 0, ground := .data }, { on := 0, ground := .phase }], guard := none }] false)
    (hb : rec.body = Code.block 1 (Code.region 3 #[{ dst := some 8, op := Op.load 84 (Operand.tmp 2), type := 84, pos := "iter.go:52", after := #[], guard := none }, { dst := some 9, op := Op.load 35 (Operand.tmp 5), type := 35, pos := "iter.go:52", after := #[], guard := none },
      { dst := some 10, op := Op.buildSlice 84 1 #[(0, Operand.tmp 9)], type := 84, pos := "iter.go:52", after := #[{ on := 1, ground := Ground.data }], guard := none },
      { dst := some 11, op := Op.call { callee := Callee.builtin Builtin.append, args := #[Operand.tmp 8, Operand.tmp 10], argTypes := #[84, 84] }, type := 84, pos := "iter.go:52", after := #[{ on := 0, ground := Ground.data }, { on := 2, ground := Ground.data }], guard := none },
      { dst := none, op := Op.store 84 (Operand.tmp 2) (Operand.tmp 11), type := 0, pos := "iter.go:52", after := #[{ on := 3, ground := Ground.data }, { on := 3, ground := Ground.chain }, { on := 0, ground := Ground.phase }, { on := 1, ground := Ground.phase }, { on := 2, ground := Ground.phase }, { on := 3, ground := Ground.phase }], guard := none }] false))
    (h2 : rec.tmps[2]? = some (V.ptr 102 Bs 0).real) (pre : List Pr) (x : Pr) (H : List (Nat × Cell)) (hinv : apInv Bs rec l D pre H) (hlen : pre.length + 1 ≤ 1000000000) : RSpec Try.prog l [prE x] H (apInv Bs rec l D (pre ++ [x])) := by
  obtain ⟨a, cap, rfl⟩ := hinv
  refine RSpec.of_JR (tl := 100) (p := 7) (N := 13) (tmR := [(2, .ptr 102 Bs 0)]) rfl hs hpn hps hN (by decide) (fun d u hg => ?_) fun A F hAF => ?_
  · rw [get_cons] at hg
    split at hg
    · rename_i hd
      subst hd
      rw [Option.some.injEq] at hg
      subst hg
      exact ⟨h2, fun _ => trivial⟩
    · cases hg
  rw [ha, hb]
  refine JR.region ?_
  refine WLR.yes (by rfl) (Ex.alloc (by rfl) ?_)
  intro b5
  refine WLR.yes (by rfl) (Ex.store (by rfl) (by rfl) (by rfl) (by rfl) (by rfl) (by rfl) ?_)
  refine WLR.nil ⟨rfl, rfl, ?_⟩
  refine JR.block ?_
  refine JR.region ?_
  refine WLR.yes (by rfl) (Ex.h (h_load (by rfl) (by rfl) (by rfl)) (by rfl) ?_)
  refine WLR.yes (by rfl) (Ex.h (h_load (by rfl) (by rfl) (by rfl)) (by rfl) ?_)
  refine WLR.yes (by rfl) (Ex.buildSlice (parts := [(0, .tmp 9)]) (us := [_]) (by rfl) (by rfl) rfl (by rfl) (by rfl) ?_)
  intro b10
  refine WLR.yes (by rfl) (Ex.append (e := prE) (l := pre) (l' := [x]) (by rfl) (by rfl) (by rfl) (by rfl) (Rd.lit [x] rfl rfl rfl) (by simp only [List.length_singleton]; omega) ?_)
  intro a' cap'
  refine WLR.yes (by rfl) (Ex.store (by rfl) (by rfl) (by rfl) (by rfl) (by rfl) (by rfl) ?_)
  refine WLR.nil ⟨rfl, rfl, _, ?_, a', cap', rfl⟩
  exact HLe.sub (.cons (s := 100) rfl (CLe.refl _ _) rfl (.cons (s := 101) rfl (CLe.refl _ _) rfl (.cons (s := 102) rfl (CLe.cells (by cases a' <;> simp [V.cells]) (fun _ => rfl) (fun _ => trivial)) rfl (.cons (s := 11) rfl (CLe.refl _ _) rfl .nil))))


def ap93 : Code := Code.region 4 #[{ dst := some 12, op := Op.load 84 (Operand.tmp 2), type := 84, pos := "iter.go:54", after := #[], guard := none }, { dst := some 4, op := Op.assign (Operand.tmp 12), type := 84, pos := "iter.go:54", after := #[{ on := 0, ground := Ground.data }, { on := 0, ground := Ground.phase }], guard := none }] false

def HfOk (Hf : List (Nat × Cell)) : Prop := (Hf.all fun x => Nat.blt x.1 100 && Nat.ble 50 x.1) = true

theorem HfOk.low {Hf : List (Nat × Cell)} (h : HfOk Hf) : (Hf.all fun x => Nat.blt x.1 100) = true := by
  rw [List.all_eq_true]
  intro x hx
  have := List.all_eq_true.1 h x hx
  simp only [Bool.and_eq_true] at this
  exact this.1

theorem HfOk.tag {Hf : List (Nat × Cell)} (h : HfOk Hf) {t : Nat} {c : Cell} (hg : get t Hf = some c) : 50 ≤ t ∧ t < 100 := by
  induction Hf with
  | nil => simp [get] at hg
  | cons x r ih =>
    simp only [HfOk, List.all_cons, Bool.and_eq_true] at h
    rw [get_cons] at hg
    split at hg
    · rename_i e
      subst e
      exact ⟨Nat.le_of_ble_eq_true h.1.2, Nat.le_of_ble_eq_true h.1.1⟩
    · exact ih h.2 hg

set_option maxRecDepth 100000 in
theorem appendSeq_spec {g : FuncId} [Ent Try.prog g] {q : Nat} {Hf : List (Nat × Cell)} {S : List Pr → Prop} (hf : HfOk Hf) (it : Iter Try.prog g (.ptr 50 q 0) Hf prE S) (hS : ∀ ss, S ss → ss.length ≤ 1000000000) :
    Spec Try.prog 93 [.sl 0 none 0 0 0 0, .fn (.func g) (.ptr 50 q 0)] Hf (fun r H' => ∃ ss a cap, S ss ∧ r = .sl 103 a 34 0 cap ss.length ∧ H' = Hf ++ [(103, lvec a 35 34 cap prE ss)]) := by
  intro A F w hAF hH hargs
  refine callsIn_wide.1 (callsIn_of_wp_marks (n := 0) (c := _) Try.func93 rfl trivial ?_)
  have s : Sim { P := Try.prog, A := A, F := F, N := 13 } ⟨argTm 0 [.sl 0 none 0 0 0 0, .fn (.func g) (.ptr 50 q 0)], Hf, []⟩
      { tmps := (([.sl 0 none 0 0 0 0, .fn (.func g) (.ptr 50 q 0)] : List V).map V.real).toArray ++ Array.replicate (Try.f93.ntmps - (([.sl 0 none 0 0 0 0, .fn (.func g) (.ptr 50 q 0)] : List V).map V.real).toArray.size) undef, defers := [] } w := by
    refine ⟨hH.has, hAF, rfl, rfl, ?_, hH.hp, hH.dj, fun t c hg => by simp [get] at hg⟩
    intro d v hg
    obtain ⟨_, hg⟩ := argTm_get _ 0 d v hg
    rw [Nat.sub_zero] at hg
    match d, hg with
    | 0, hg => simp only [List.getElem?_cons_zero, Option.some.injEq] at hg; subst hg; exact ⟨rfl, trivial⟩
    | 1, hg => simp only [List.getElem?_cons_succ, List.getElem?_cons_zero, Option.some.injEq] at hg; subst hg; exact ⟨rfl, trivial⟩
    | d + 2, hg => simp at hg
  -- the box
  refine wpIn_seq (wpIn_mono (JR.region (r := none) (X := { P := Try.prog, A := A, F := F, N := 13 }) (K := fun e st => e = .normal ∧ ∃ Bs, Le { P := Try.prog, A := A, F := F, N := 13 } st ⟨[(1, .fn (.func g) (.ptr 50 q 0)), (2, .ptr 102 Bs 0)], Hf ++ [(102, .box Bs 84 (.sl 103 none 34 0 0 0)), (103, lvec none 35 34 0 prE [])], []⟩) ?_ _ _ s) ?_)
  · refine WLR.yes (by rfl) (Ex.box (by rfl) (by rfl) (by rfl) ?_)
    intro Bs
    refine WLR.yes (by rfl) (Ex.q (q_assign (by rfl)) (by rfl) ?_)
    refine WLR.nil ⟨rfl, Bs, Le.mk ⟨same rfl, ⟨_, rfl, rfl, fun _ => trivial⟩, trivial⟩ ?_ rfl⟩
    refine HLe.gen (fun t => if t = 102 then some 2 else if t = 103 then none else some t) (fun t c' hg => ?_) (fun t u s' c c' hne h1 h2 e1 e2 => ?_)
    · rw [get_append] at hg
      cases e1 : get t Hf with
      | some x =>
        rw [e1] at hg; simp only [Option.some_or, Option.some.injEq] at hg; subst hg
        have := hf.tag e1
        left
        refine ⟨t, x, by rw [if_neg (by omega), if_neg (by omega)], ?_, CLe.refl _ _⟩
        rw [get_cons, if_neg (by omega)]; exact e1
      | none =>
        rw [e1] at hg; simp only [Option.none_or] at hg
        rw [get_cons] at hg
        by_cases h2 : t = 102
        · subst h2
          simp only [if_true, Option.some.injEq] at hg
          subst hg
          exact .inl ⟨2, _, rfl, rfl, CLe.cells rfl (fun _ => rfl) (fun _ => trivial)⟩
        · rw [if_neg h2, get_cons] at hg
          by_cases h3 : t = 103
          · subst h3
            simp only [if_true, Option.some.injEq] at hg
            subst hg
            exact .inr ⟨rfl, _, _, _, rfl⟩
          · rw [if_neg h3] at hg; cases hg
    · have tags : ∀ t c, get t (Hf ++ [(102, Cell.box Bs 84 (.sl 103 none 34 0 0 0)), (103, lvec none 35 34 0 prE ([] : List Pr))]) = some c → 50 ≤ t := fun t c hg => by
        rw [get_append] at hg
        cases e1 : get t Hf with
        | some x => exact (hf.tag e1).1
        | none =>
          rw [e1] at hg; simp only [Option.none_or] at hg
          rw [get_cons] at hg
          by_cases h2 : t = 102
          · omega
          · rw [if_neg h2, get_cons] at hg
            by_cases h3 : t = 103
            · omega
            · rw [if_neg h3] at hg; cases hg
      have k1 := tags t c h1
      have k2 := tags u c' h2
      split at e1
      · split at e2
        · omega
        · split at e2
          · cases e2
          · simp only [Option.some.injEq] at e1 e2; omega
      · split at e1
        · cases e1
        · split at e2
          · simp only [Option.some.injEq] at e1 e2; omega
          · split at e2
            · cases e2
            · simp only [Option.some.injEq] at e1 e2; omega
  intro e1 a1 w1 q1
  cases e1 with
  | panic c => exact q1.elim
  | outgrown => exact q1.elim
  | exit i => obtain ⟨_, ⟨h, _⟩, _⟩ := q1; cases h
  | goto i => obtain ⟨_, ⟨h, _⟩, _⟩ := q1; cases h
  | ret => obtain ⟨_, ⟨h, _⟩, _⟩ := q1; cases h
  | normal =>
  obtain ⟨st1, ⟨_, Bs, hle⟩, s1⟩ := q1
  have s1 := hle _ _ s1
  show Code.wpIn _ _ _ _ _ _ _
  refine wpIn_seq (wpIn_seq (wpIn_mono (JR.region (r := none) (X := { P := Try.prog, A := A, F := F, N := 13 }) (K := fun e st => e = .normal ∧ st = ⟨[(6, .fn (.func g) (.ptr 50 q 0)), (1, .fn (.func g) (.ptr 50 q 0)), (2, .ptr 102 Bs 0)], Hf ++ [(102, .box Bs 84 (.sl 103 none 34 0 0 0)), (103, lvec none 35 34 0 prE [])], []⟩) ?_ _ _ s1) ?_))
  · refine WLR.yes (by rfl) (Ex.q (q_move (by rfl)) (by rfl) ?_)
    exact WLR.nil ⟨rfl, rfl⟩
  intro e2 a2 w2 q2
  cases e2 with
  | panic c => exact q2.elim
  | outgrown => exact q2.elim
  | exit i => obtain ⟨_, ⟨h, _⟩, _⟩ := q2; cases h
  | goto i => obtain ⟨_, ⟨h, _⟩, _⟩ := q2; cases h
  | ret => obtain ⟨_, ⟨h, _⟩, _⟩ := q2; cases h
  | normal =>
  obtain ⟨st2, ⟨_, rfl⟩, s2⟩ := q2
  show Code.wpIn _ _ _ _ _ _ _
  refine wpIn_block ?_
  refine rangeFunc_J (cp := .ptr 50 q 0) s2 rfl rfl rfl trivial it (apInv Bs) (fun rec l D pre H t c h hg => apInv_tags h hg) (fun t c hg => ?_) hf.low (fun rec l D h1 h2 h3 h4 h5 h6 h7 => ⟨⟨none, 0, rfl⟩, fun pre x H hi hz => ?_⟩) (fun rec l D ss H hi => ?_) _ (fun rec l D ss H hSs hi w' s' => ?_)
  · rw [get_cons] at hg
    by_cases h2 : t = 102
    · omega
    · rw [if_neg h2, get_cons] at hg
      by_cases h3 : t = 103
      · omega
      · rw [if_neg h3] at hg; cases hg
  · refine ap_round Bs rec l D h1 h2 h3 h4 h5 h6 (h7 2 _ rfl) pre x H hi ?_
    obtain ⟨zs, hz⟩ := hz
    have := hS _ hz
    simp only [List.length_append, List.length_singleton] at this
    omega
  · obtain ⟨a, cap, rfl⟩ := hi
    exact ⟨_, rfl, rfl⟩
  · obtain ⟨a, cap, rfl⟩ := hi
    show Code.wpIn _ _ _ _ _ _ _
    have hnf : ∀ t, 100 ≤ t → get t Hf = none := fun t ht => low_none hf.low ht
    have hgx : ∀ (t : Nat) (c : Cell) (r : List (Nat × Cell)), 100 ≤ t → get t r = some c → get t (Hf ++ r) = some c := fun t c r ht h => by rw [get_append, hnf t ht]; exact h
    refine wpIn_seq (wpIn_mono (JR.region (r := none) (X := { P := Try.prog, A := A, F := F, N := 13, D := [{ target := .collected D, args := #[] }] }) (K := fun e st => e = .normal ∧ get 4 st.tm = some (.sl 103 a 34 0 cap ss.length) ∧ st.H = Hf ++ ((100, .ex l (.loop { rec with state := .exhausted })) :: [(100, .ex l (.loop rec)), (101, .ex D (.deferred (some []))), (102, .box Bs 84 (.sl 103 a 34 0 cap ss.length)), (103, lvec a 35 34 cap prE ss)])) ?_ _ _ s') ?_)
    · refine WLR.yes (by rfl) (Ex.h (h_load (u := .sl 103 a 34 0 cap ss.length) (by rfl) (hgx 102 _ _ (by decide) rfl) (by rfl)) (by rfl) ?_)
      refine WLR.yes (by rfl) (Ex.q (q_assign (by rfl)) (by rfl) ?_)
      exact WLR.nil ⟨rfl, rfl, rfl⟩
    intro e3 a3 w3 q3
    cases e3 with
    | panic c => exact q3.elim
    | outgrown => exact q3.elim
    | exit i => obtain ⟨_, ⟨h, _⟩, _⟩ := q3; cases h
    | goto i => obtain ⟨_, ⟨h, _⟩, _⟩ := q3; cases h
    | ret => obtain ⟨_, ⟨h, _⟩, _⟩ := q3; cases h
    | normal =>
    obtain ⟨⟨tm3, H3, R3⟩, ⟨_, ht4, hH3⟩, s3⟩ := q3
    simp only at ht4 hH3
    subst hH3
    show Code.wpIn _ _ _ _ _ _ _
    refine wpIn_ret ?_
    have hD := (s3.hp 101 (.ex D (.deferred (some []))) (hgx 101 _ _ (by decide) rfl)).1
    have hdn : a3.defers = [{ target := .collected D, args := #[] }] := s3.dn
    show LeavesInM Fence.wide 0 Try.prog Try.f93 a3.tmps _ a3.defers .returning w3
    rw [hdn]
    refine ⟨by simp, .inl ⟨D, setBlk w3 D (.deferred none), rfl, run_takeDeferred hD, ?_⟩⟩
    have s4 := Sim.set s3 (hgx 101 _ _ (by decide) rfl : get 101 (Hf ++ ((100, Cell.ex l (.loop { rec with state := .exhausted })) :: [(100, .ex l (.loop rec)), (101, .ex D (.deferred (some []))), (102, .box Bs 84 (.sl 103 a 34 0 cap ss.length)), (103, lvec a 35 34 cap prE ss)])) = some (.ex D (.deferred (some [])))) (b := D) rfl (.ex D (.deferred none)) (.deferred none) (fun k hk => hk) (fun h hh => hh)
    have hres := results_run (fn := Try.f93) s4 (l := [.tmp 4]) rfl (.tmp (vs := []) ht4 .nil) (show 1 ≤ 3 by decide)
    refine ⟨_, hres.1, _, _, ⟨ss, a, cap, hSs, rfl, rfl⟩, rfl, trivial, ?_⟩
    have hsub : ∀ t c, get t (Hf ++ [(103, lvec a 35 34 cap prE ss)]) = some c → get t ((101, Cell.ex D (.deferred none)) :: (Hf ++ ((100, Cell.ex l (.loop { rec with state := .exhausted })) :: [(100, .ex l (.loop rec)), (101, .ex D (.deferred (some []))), (102, .box Bs 84 (.sl 103 a 34 0 cap ss.length)), (103, lvec a 35 34 cap prE ss)]))) = some c := fun t c hg => by
      rw [get_append] at hg
      cases e1 : get t Hf with
      | some x =>
        rw [e1] at hg; simp only [Option.some_or, Option.some.injEq] at hg; subst hg
        have := hf.tag e1
        rw [get_cons, if_neg (by omega), get_append, e1]; rfl
      | none =>
        rw [e1] at hg; simp only [Option.none_or] at hg
        rw [get_cons] at hg
        by_cases h3 : t = 103
        · subst h3
          rw [if_pos rfl] at hg
          rw [get_cons, if_neg (by omega), get_append, e1]
          exact hg
        · rw [if_neg h3] at hg; cases hg
    exact ⟨s4.has, fun t c hg => s4.hp t c (hsub t c hg), fun t u c c' hne h1 h2 => s4.dj t u c c' hne (hsub t c h1) (hsub u c' h2)⟩

end Go.Vm
