/- The kernel's laws: KernelNil, KernelPlays: the walks. -/
import Derived.Test.YtimkkhefemnkpaaF11
namespace Go.Vm
open Go Go.Proofs

structure KAct where
  k : Int
  o : Opn
  n : Int
  src : List Int
  dst : List Int
instance : Inhabited KAct := ⟨⟨0, default, 0, ad0, ad0⟩⟩
abbrev actE (x : KAct) : V := .pair (iV x.k) (.pair (opE x.o) (.pair (iV x.n) (.pair (adV x.src) (adV x.dst))))
def KAct.ok (x : KAct) : Prop := x.o.e.ok ∧ AdOk x.src ∧ AdOk x.dst ∧ x.n < 9223372036854775808

theorem kList2_spec (kb b1 b2 : Nat) {s : KS} (hs : KOk' s) (hn : s.T.length ≤ 1000000) : Spec Try.prog 21 [.ptr 2060 kb 0] (KO2 kb b1 b2 s) (fun r H' => ∃ a cap, r = .sl 2104 a 51 0 cap s.T.length ∧ H' = KO2 kb b1 b2 s ++ [(2104, lvec a 37 51 cap enE s.T)]) := by
  refine (kList_spec kb b1 b2 hs hn).conseq rfl (fun A hv v hm => by rw [List.mem_singleton] at hm; subst hm; trivial) (fun A => KO_of_KO2 A kb b1 b2 s) ?_
  rintro r H1 ⟨a, cap, rfl, rfl⟩
  exact ⟨.sl 2104 a 51 0 cap s.T.length, _, ⟨a, cap, rfl, rfl⟩, by cases a <;> rfl, fun _ _ => trivial, fun A => HLe.sub (.cons (s := 1060) rfl (CLe.cells rfl (fun _ => rfl) (fun _ => ⟨trivial, trivial, trivial⟩)) rfl (.cons (s := 1051) rfl (CLe.refl _ _) rfl (.cons (s := 1052) rfl (CLe.refl _ _) rfl (.cons (s := 1104) rfl (CLe.refl _ _) rfl .nil))))⟩
theorem kImported2_spec (kb b1 b2 : Nat) {s : KS} (hs : KOk' s) (hn : s.U.length ≤ 1000000) : Spec Try.prog 22 [.ptr 2060 kb 0] (KO2 kb b1 b2 s) (fun r H' => ∃ a cap, r = .sl 2105 a 51 0 cap s.U.length ∧ H' = KO2 kb b1 b2 s ++ [(2105, lvec a 37 51 cap enE s.U)]) := by
  refine (kImported_spec kb b1 b2 hs hn).conseq rfl (fun A hv v hm => by rw [List.mem_singleton] at hm; subst hm; trivial) (fun A => KO_of_KO2 A kb b1 b2 s) ?_
  rintro r H1 ⟨a, cap, rfl, rfl⟩
  exact ⟨.sl 2105 a 51 0 cap s.U.length, _, ⟨a, cap, rfl, rfl⟩, by cases a <;> rfl, fun _ _ => trivial, fun A => HLe.sub (.cons (s := 1060) rfl (CLe.cells rfl (fun _ => rfl) (fun _ => ⟨trivial, trivial, trivial⟩)) rfl (.cons (s := 1051) rfl (CLe.refl _ _) rfl (.cons (s := 1052) rfl (CLe.refl _ _) rfl (.cons (s := 1104) rfl (CLe.refl _ _) rfl .nil))))⟩
/-- KOk' of what a copy becomes does not matter. -/
theorem dec_self {l : List En} : true = decide (l = l) := (decide_eq_true rfl).symm

theorem plainK {kb b1 b2 : Nat} {s : KS} {l : List En} : ∀ (r : V) (H' : List (Nat × Cell)), (r = iV (kimps s l).1 ∧ H' = KO kb b1 b2 (kimps s l).2) → Plain r H' := by
  rintro r H' ⟨rfl, rfl⟩
  refine ⟨fun _ => trivial, fun t c hg A B h hc => ?_⟩
  simp only [get_cons] at hg
  split at hg
  · simp only [Option.some.injEq] at hg; subst hg; exact ⟨hc.1, hc.2.1, by simp [VOk]⟩
  split at hg
  · simp only [Option.some.injEq] at hg; subst hg; exact ⟨fun x hx => by obtain ⟨y, _, rfl⟩ := List.mem_map.1 hx; simp [VOk], hc.2⟩
  split at hg
  · simp only [Option.some.injEq] at hg; subst hg; exact ⟨fun x hx => by obtain ⟨y, _, rfl⟩ := List.mem_map.1 hx; simp [VOk], hc.2⟩
  · simp [get] at hg

theorem plainK2 {kb b1 b2 : Nat} {s : KS} {l : List En} : ∀ (r : V) (H' : List (Nat × Cell)), (r = iV (kimps s l).1 ∧ H' = KO2 kb b1 b2 (kimps s l).2) → Plain r H' := by
  rintro r H' ⟨rfl, rfl⟩
  refine ⟨fun _ => trivial, fun t c hg A B h hc => ?_⟩
  simp only [get_cons] at hg
  split at hg
  · simp only [Option.some.injEq] at hg; subst hg; exact ⟨hc.1, hc.2.1, by simp [VOk]⟩
  split at hg
  · simp only [Option.some.injEq] at hg; subst hg; exact ⟨fun x hx => by obtain ⟨y, _, rfl⟩ := List.mem_map.1 hx; simp [VOk], hc.2⟩
  split at hg
  · simp only [Option.some.injEq] at hg; subst hg; exact ⟨fun x hx => by obtain ⟨y, _, rfl⟩ := List.mem_map.1 hx; simp [VOk], hc.2⟩
  · simp [get] at hg

set_option maxHeartbeats 16000000 in
set_option maxRecDepth 100000 in
theorem kernelNil_spec {o : Opn} {src : List Int} : Spec Try.prog 4 [opE o, adV src] [] (fun r H' => r = .bool true ∧ H' = []) := by
  refine Spec.of_J Try.func4 rfl Try.ntmps4 Try.results4 rfl ?_
  intro A F hAF
  (repeat refine J.seq ?_)
  refine J.region ?_
  refine WL.yes (by rfl) (Ex.box (by rfl) (by rfl) (by rfl) ?_)
  intro b2
  refine WL.yes (by rfl) (Ex.box (by rfl) (by rfl) (by rfl) ?_)
  intro b3
  refine WL.yes (by rfl) (Ex.q (q_assign (by rfl)) (by rfl) ?_)
  refine WL.nil ?_
  (repeat refine J.seq ?_)
  refine J.region ?_
  refine WL.yes (by rfl) (Ex.q (q_assign (by rfl)) (by rfl) ?_)
  refine WL.nil ?_
  (repeat refine J.seq ?_)
  refine J.region ?_
  refine WL.yes (by rfl) (Ex.q (q_move (by rfl)) (by rfl) ?_)
  refine WL.yes (by rfl) (Ex.callq (kFailNil_spec _) (by rfl) (by rfl) rfl (fun _ h => h) ?_)
  refine WL.nil ?_
  (repeat refine J.seq ?_)
  refine J.region ?_
  refine WL.yes (by rfl) (Ex.q (q_move (by rfl)) (by rfl) ?_)
  first | (refine WL.yes (by rfl) (Ex.h (h_load (by rfl) (by rfl) (by rfl)) (by rfl) ?_)) | (refine WL.yes (by rfl) (Ex.q (q_load (by rfl) (by rfl) (by rfl)) (by rfl) ?_)) | (refine WL.yes (by rfl) (Ex.q (q_load_rop (by rfl) (by rfl)) (by rfl) ?_)) | (refine WL.yes (by rfl) (Ex.h (h_load_pel (by rfl) (by rfl) ?_ (by rfl)) (by rfl) ?_); (· (omega))) | (refine WL.yes (by rfl) (Ex.q (q_load_pel (by rfl) (by rfl) ?_ (by rfl)) (by rfl) ?_); (· (omega)))
  first | (refine WL.yes (by rfl) (Ex.h (h_load (by rfl) (by rfl) (by rfl)) (by rfl) ?_)) | (refine WL.yes (by rfl) (Ex.q (q_load (by rfl) (by rfl) (by rfl)) (by rfl) ?_)) | (refine WL.yes (by rfl) (Ex.q (q_load_rop (by rfl) (by rfl)) (by rfl) ?_)) | (refine WL.yes (by rfl) (Ex.h (h_load_pel (by rfl) (by rfl) ?_ (by rfl)) (by rfl) ?_); (· (omega))) | (refine WL.yes (by rfl) (Ex.q (q_load_pel (by rfl) (by rfl) ?_ (by rfl)) (by rfl) ?_); (· (omega)))
  refine WL.yes (by rfl) (Ex.callq (kLookupNil_spec _ _) (by rfl) (by rfl) rfl (fun _ h => h) ?_)
  refine WL.yes (by rfl) (Ex.q (q_move (by rfl)) (by rfl) ?_)
  first | (refine WL.yes (by rfl) (Ex.q (q_extract2 (by rfl) (by rfl)) (by rfl) ?_)) | (refine WL.yes (by rfl) (Ex.q (q_extract3 (by rfl) (by rfl)) (by rfl) ?_))
  first | (refine WL.yes (by rfl) (Ex.q (q_extract2 (by rfl) (by rfl)) (by rfl) ?_)) | (refine WL.yes (by rfl) (Ex.q (q_extract3 (by rfl) (by rfl)) (by rfl) ?_))
  refine WL.yes (by rfl) (Ex.alloc (by rfl) ?_)
  intro b6
  first | (refine WL.yes (by rfl) (Ex.store (by rfl) (by rfl) (by rfl) (by rfl) (by rfl) (by rfl) ?_)) | (refine WL.yes (by rfl) (Ex.store_pel (by rfl) (by rfl) (by rfl) (by rfl) (by rfl) ?_ (by rfl) ?_); (· (omega)))
  refine WL.yes (by rfl) (Ex.q (q_assign (by rfl)) (by rfl) ?_)
  refine WL.nil ?_
  (repeat refine J.seq ?_)
  refine J.region ?_
  refine WL.yes (by rfl) (Ex.q (q_move (by rfl)) (by rfl) ?_)
  first | (refine WL.yes (by rfl) (Ex.h (h_load (by rfl) (by rfl) (by rfl)) (by rfl) ?_)) | (refine WL.yes (by rfl) (Ex.q (q_load (by rfl) (by rfl) (by rfl)) (by rfl) ?_)) | (refine WL.yes (by rfl) (Ex.q (q_load_rop (by rfl) (by rfl)) (by rfl) ?_)) | (refine WL.yes (by rfl) (Ex.h (h_load_pel (by rfl) (by rfl) ?_ (by rfl)) (by rfl) ?_); (· (omega))) | (refine WL.yes (by rfl) (Ex.q (q_load_pel (by rfl) (by rfl) ?_ (by rfl)) (by rfl) ?_); (· (omega)))
  refine WL.yes (by rfl) (Ex.callq (kDoNil_spec o) (by rfl) (by rfl) rfl (fun _ h => h) ?_)
  refine WL.yes (by rfl) (Ex.q (q_not (by rfl)) (by rfl) ?_)
  refine WL.yes (by rfl) (Ex.q (q_move (by rfl)) (by rfl) ?_)
  refine WL.yes (by rfl) (Ex.q (q_move (by rfl)) (by rfl) ?_)
  first | (refine WL.yes (by rfl) (Ex.q (q_fieldAddr (by rfl)) (by rfl) ?_)) | (refine WL.yes (by rfl) (Ex.q (q_fieldAddr_rop (by rfl) (by rfl)) (by rfl) ?_)) | (refine WL.yes (by rfl) (Ex.q (q_fieldAddr_pel (by rfl)) (by rfl) ?_))
  first | (refine WL.yes (by rfl) (Ex.h (h_load (by rfl) (by rfl) (by rfl)) (by rfl) ?_)) | (refine WL.yes (by rfl) (Ex.q (q_load (by rfl) (by rfl) (by rfl)) (by rfl) ?_)) | (refine WL.yes (by rfl) (Ex.q (q_load_rop (by rfl) (by rfl)) (by rfl) ?_)) | (refine WL.yes (by rfl) (Ex.h (h_load_pel (by rfl) (by rfl) ?_ (by rfl)) (by rfl) ?_); (· (omega))) | (refine WL.yes (by rfl) (Ex.q (q_load_pel (by rfl) (by rfl) ?_ (by rfl)) (by rfl) ?_); (· (omega)))
  refine WL.yes (by rfl) (Ex.buildSlice (parts := [(0, .tmp 24)]) (us := [_]) (by rfl) (by rfl) rfl (by rfl) (by rfl) ?_)
  intro b25
  refine WL.yes (by rfl) (Ex.callqz (spec_lit (l := [o.e]) (us := [enE o.e]) kImportNil_spec rfl rfl) (by rfl) (by rfl) (.cons (.same _) (.cons (.sla (by rfl)) .nil)) (fun _ => trivial) ?_)
  first | (refine WL.yes (by rfl) (Ex.q (q_int (by rfl) (by rfl) (by rfl)) (by rfl) ?_)) | (refine WL.yes (by rfl) (Ex.q (q_eqb (by rfl) (by rfl)) (by rfl) ?_)) | (refine WL.yes (by rfl) (Ex.q (q_eqp rfl rfl (by rfl) (by rfl) ?_) (by rfl) ?_); (· (rfl))) | (refine WL.yes (by rfl) (Ex.q (q_eqs (by rfl) (by rfl)) (by rfl) ?_))
  refine WL.set 27 (.bool true) (by rfl) (congrArg V.bool ((decide_eq_true rfl).symm : true = _)) ?_
  refine WL.yes (by rfl) (Ex.q (q_pick_t (by rfl) (by rfl)) (by rfl) ?_)
  refine WL.yes (by rfl) (Ex.q (q_move (by rfl)) (by rfl) ?_)
  refine WL.yes (by rfl) (Ex.q (q_move (by rfl)) (by rfl) ?_)
  refine WL.yes (by rfl) (Ex.q (q_not (by rfl)) (by rfl) ?_)
  refine WL.yes (by rfl) (Ex.q (q_pick_t (by rfl) (by rfl)) (by rfl) ?_)
  refine WL.yes (by rfl) (Ex.q (q_move (by rfl)) (by rfl) ?_)
  refine WL.yes (by rfl) (Ex.q (q_move (by rfl)) (by rfl) ?_)
  refine WL.yes (by rfl) (Ex.callq (kListNil_spec) (by rfl) (by rfl) rfl (fun _ h => h) ?_)
  first | (refine WL.yes (by rfl) (Ex.q (q_len_slice (by rfl) (by rfl)) (by rfl) ?_)) | (refine WL.yes (by rfl) (Ex.q (q_len_string (by rfl)) (by rfl) ?_))
  refine WL.yes (by rfl) (Ex.q (q_move (by rfl)) (by rfl) ?_)
  refine WL.yes (by rfl) (Ex.callq (kImportedNil_spec) (by rfl) (by rfl) rfl (fun _ h => h) ?_)
  first | (refine WL.yes (by rfl) (Ex.q (q_len_slice (by rfl) (by rfl)) (by rfl) ?_)) | (refine WL.yes (by rfl) (Ex.q (q_len_string (by rfl)) (by rfl) ?_))
  refine WL.yes (by rfl) (Ex.q (q_int (by rfl) (by rfl) (by rfl)) (by rfl) ?_)
  first | (refine WL.yes (by rfl) (Ex.q (q_int (by rfl) (by rfl) (by rfl)) (by rfl) ?_)) | (refine WL.yes (by rfl) (Ex.q (q_eqb (by rfl) (by rfl)) (by rfl) ?_)) | (refine WL.yes (by rfl) (Ex.q (q_eqp rfl rfl (by rfl) (by rfl) ?_) (by rfl) ?_); (· (rfl))) | (refine WL.yes (by rfl) (Ex.q (q_eqs (by rfl) (by rfl)) (by rfl) ?_))
  refine WL.set 41 (.bool true) (by rfl) (congrArg V.bool ((decide_eq_true rfl).symm : true = _)) ?_
  refine WL.yes (by rfl) (Ex.q (q_pick_t (by rfl) (by rfl)) (by rfl) ?_)
  refine WL.yes (by rfl) (Ex.q (q_move (by rfl)) (by rfl) ?_)
  refine WL.yes (by rfl) (Ex.q (q_move (by rfl)) (by rfl) ?_)
  refine WL.yes (by rfl) (Ex.callq (kCopyNil_spec) (by rfl) (by rfl) rfl (fun _ h => h) ?_)
  refine WL.yes (by rfl) (Ex.q (q_eqnil (by rfl) (by rfl) (by rfl)) (by rfl) ?_)
  refine WL.yes (by rfl) (Ex.q (q_pick_t (by rfl) (by rfl)) (by rfl) ?_)
  refine WL.yes (by rfl) (Ex.q (q_move (by rfl)) (by rfl) ?_)
  refine WL.yes (by rfl) (Ex.callL (live20_spec) (by rfl) (by rfl) .nil ?_)
  rintro _ _ ⟨rfl, rfl⟩
  refine WL.yes (by rfl) (Ex.q (q_pick_t (by rfl) (by rfl)) (by rfl) ?_)
  refine WL.yes (by rfl) (Ex.q (q_assign (by rfl)) (by rfl) ?_)
  refine WL.nil ?_
  (repeat refine J.seq ?_)
  refine J.ret ?_
  (repeat (with_reducible first | refine Kseq.ret ?_ | refine Kblock.ret ?_ | refine Kloop.ret ?_ | refine Kcut.ret ?_))
  refine Kret.mk [] (.tmp (by rfl) (.nil)) (by rfl) trivial (HLe.nil _ _) ?_
  exact ⟨rfl, rfl⟩

set_option maxHeartbeats 16000000 in
set_option maxRecDepth 100000 in
theorem kernelPlays_spec {a : Option Addr} {cap : Nat} {l : List KAct} (ho : ∀ x ∈ l, x.ok) : Spec Try.prog 3 [lros a cap actE l] [] (fun r H' => r = .bool true ∧ H' = []) := by
  refine Spec.of_J Try.func3 rfl Try.ntmps3 Try.results3 rfl ?_
  intro A F hAF
  (repeat refine J.seq ?_)
  refine J.region ?_
  refine WL.yes (by rfl) (Ex.q (q_assign (by rfl)) (by rfl) ?_)
  refine WL.nil ?_
  (repeat refine J.seq ?_)
  refine J.region ?_
  refine WL.yes (by rfl) (Ex.q (q_move (by rfl)) (by rfl) ?_)
  first | (refine WL.yes (by rfl) (Ex.q (q_len_slice (by rfl) (by rfl)) (by rfl) ?_)) | (refine WL.yes (by rfl) (Ex.q (q_len_string (by rfl)) (by rfl) ?_))
  refine WL.yes (by rfl) (Ex.q (q_int (by rfl) (by rfl) (by rfl)) (by rfl) ?_)
  refine WL.nil ?_
  (repeat refine J.seq ?_)
  refine J.cond (by rfl) (fun c15 => ?_) (fun c15 => ?_)
  · skip
    (first | have e15 := of_decide_eq_true c15 | have e15 := of_decide_eq_false c15 | have e15 := ndec_t c15 | have e15 := ndec_f c15 | skip)
    (repeat refine J.seq ?_)
    refine J.region ?_
    refine WL.yes (by rfl) (Ex.callL (live20_spec) (by rfl) (by rfl) .nil ?_)
    rintro _ _ ⟨rfl, rfl⟩
    refine WL.yes (by rfl) (Ex.q (q_assign (by rfl)) (by rfl) ?_)
    refine WL.nil ?_
    (repeat refine J.seq ?_)
    refine J.ret ?_
    (repeat (with_reducible first | refine Kseq.ret ?_ | refine Kblock.ret ?_ | refine Kloop.ret ?_ | refine Kcut.ret ?_))
    refine Kret.mk [] (.tmp (by rfl) (.nil)) (by rfl) trivial (HLe.nil _ _) ?_
    exact ⟨rfl, rfl⟩
  · skip
    (first | have e15 := of_decide_eq_true c15 | have e15 := of_decide_eq_false c15 | have e15 := ndec_t c15 | have e15 := ndec_f c15 | skip)
    (repeat refine J.seq ?_)
    refine J.skip ?_
    (repeat refine J.seq ?_)
    refine J.region ?_
    refine WL.yes (by rfl) (Ex.callL (kNew_spec) (by rfl) (by rfl) .nil ?_)
    rintro _ _ ⟨kb, kt, ku, rfl, rfl⟩
    refine WL.yes (by rfl) (Ex.q (q_assign (by rfl)) (by rfl) ?_)
    refine WL.nil ?_
    (repeat refine J.seq ?_)
    refine J.region ?_
    refine WL.yes (by rfl) (Ex.q (q_build (parts := []) (by rfl) (by rfl)) (by rfl) ?_)
    refine WL.yes (by rfl) (Ex.box (by rfl) (by rfl) (by rfl) ?_)
    intro b19
    refine WL.yes (by rfl) (Ex.q (q_assign (by rfl)) (by rfl) ?_)
    refine WL.nil ?_
    (repeat refine J.seq ?_)
    refine J.region ?_
    refine WL.yes (by rfl) (Ex.q (q_move (by rfl)) (by rfl) ?_)
    refine WL.yes (by rfl) (Ex.q (q_eqnil (by rfl) (by rfl) (by rfl)) (by rfl) ?_)
    refine WL.nil ?_
    (repeat refine J.seq ?_)
    refine J.condF (by rfl) ?_
    (repeat refine J.seq ?_)
    refine J.skip ?_
    (repeat refine J.seq ?_)
    refine J.region ?_
    refine WL.yes (by rfl) (Ex.q (q_assign (by rfl)) (by rfl) ?_)
    refine WL.nil ?_
    (repeat refine J.seq ?_)
    refine J.block ?_
    (repeat refine J.seq ?_)
    refine J.loopP (fun x : Nat × KS × Option Nat × Nat × Option Nat × Nat => x.1 ≤ l.length ∧ KI x.2.1 x.1) (fun x => [(5, iV x.1), (4, .ptr 3060 b19 0)]) (fun x => [(1060, .box kb 93 (kV kt ku x.2.1.n)), (1051, tbl kt x.2.1.T), (1052, tbl ku x.2.1.U), (3060, .box b19 29 (rVv x.2.2.1 x.2.2.2.2.1 x.2.2.2.1 x.2.2.2.2.2 x.2.1)), (3051, lvec x.2.2.1 37 51 x.2.2.2.1 enE x.2.1.T), (3052, lvec x.2.2.2.2.1 37 51 x.2.2.2.2.2 enE x.2.1.U)]) (fun x => l.length - x.1) (0, ⟨[], [], 0⟩, none, 0, none, 0) [(0, _), (3, _)] [] ⟨same rfl, same rfl, trivial⟩ ⟨same rfl, ⟨_, rfl, rfl, fun _ => trivial⟩, trivial⟩ (.cons (s := 1060) rfl (CLe.refl _ _) rfl (.cons (s := 1051) rfl (CLe.refl _ _) rfl (.cons (s := 1052) rfl (CLe.refl _ _) rfl (.cons (s := 19) rfl (CLe.cells rfl (fun _ => rfl) (fun _ => ⟨trivial, trivial, trivial⟩)) rfl (.non (.non .nil)))))) ?_ ?_
    · (exact ⟨Nat.zero_le _, KI.zero⟩)
    rintro ⟨k, s, a1, c1, a2, c2⟩ hx
    (try dsimp only at hx)
    (try dsimp only)
    obtain ⟨hk, hs⟩ := hx
    (repeat refine J.seq ?_)
    refine J.region ?_
    refine WL.yes (by rfl) (Ex.q (q_move (by rfl)) (by rfl) ?_)
    refine WL.yes (by rfl) (Ex.q (q_move (by rfl)) (by rfl) ?_)
    first | (refine WL.yes (by rfl) (Ex.q (q_len_slice (by rfl) (by rfl)) (by rfl) ?_)) | (refine WL.yes (by rfl) (Ex.q (q_len_string (by rfl)) (by rfl) ?_))
    refine WL.yes (by rfl) (Ex.q (q_int (by rfl) (by rfl) (by rfl)) (by rfl) ?_)
    refine WL.nil ?_
    (repeat refine J.seq ?_)
    refine J.cond (by rfl) (fun c25 => ?_) (fun c25 => ?_)
    · skip
      (first | have e25 := of_decide_eq_true c25 | have e25 := of_decide_eq_false c25 | have e25 := ndec_t c25 | have e25 := ndec_f c25 | skip)
      (repeat refine J.seq ?_)
      refine J.skip ?_
      (repeat refine J.seq ?_)
      refine J.block ?_
      (repeat refine J.seq ?_)
      refine J.region ?_
      refine WL.yes (by rfl) (Ex.q (q_move (by rfl)) (by rfl) ?_)
      refine WL.yes (by rfl) (Ex.q (q_move (by rfl)) (by rfl) ?_)
      first | (refine WL.yes (by rfl) (Ex.q (q_indexAddr_ros (by rfl) (by rfl) (by intro _; rfl) ?_ ?_) (by rfl) ?_); (· (omega)); (· (omega))) | (refine WL.yes (by rfl) (Ex.q (q_indexAddr_sl (by rfl) (by rfl) ?_ ?_) (by rfl) ?_); (· (omega)); (· (omega))) | (refine WL.yes (by rfl) (Ex.q (q_indexAddr_arr (by rfl) (by rfl) ?_ ?_) (by rfl) ?_); (· (omega)); (· (omega)))
      first | (refine WL.yes (by rfl) (Ex.h (h_load (by rfl) (by rfl) (by rfl)) (by rfl) ?_)) | (refine WL.yes (by rfl) (Ex.q (q_load (by rfl) (by rfl) (by rfl)) (by rfl) ?_)) | (refine WL.yes (by rfl) (Ex.q (q_load_rop (by rfl) (by rfl)) (by rfl) ?_)) | (refine WL.yes (by rfl) (Ex.h (h_load_pel (by rfl) (by rfl) ?_ (by rfl)) (by rfl) ?_); (· (omega))) | (refine WL.yes (by rfl) (Ex.q (q_load_pel (by rfl) (by rfl) ?_ (by rfl)) (by rfl) ?_); (· (omega)))
      have hk2 : k < l.length := by omega
      have hact : (lat l k).ok := ho _ (lat_mem hk2)
      have hlt := hs.lt
      have hlu := hs.lu
      refine WL.set 31 (actE (lat l k)) (by rfl) (by rw [Int.toNat_natCast]) ?_
      refine WL.yes (by rfl) (Ex.alloc (by rfl) ?_)
      intro b6
      first | (refine WL.yes (by rfl) (Ex.store (by rfl) (by rfl) (by rfl) (by rfl) (by rfl) (by rfl) ?_)) | (refine WL.yes (by rfl) (Ex.store_pel (by rfl) (by rfl) (by rfl) (by rfl) (by rfl) ?_ (by rfl) ?_); (· (omega)))
      refine WL.nil ?_
      (repeat refine J.seq ?_)
      refine J.region ?_
      refine WL.yes (by rfl) (Ex.q (q_assign (by rfl)) (by rfl) ?_)
      refine WL.nil ?_
      (repeat refine J.seq ?_)
      refine J.region ?_
      first | (refine WL.yes (by rfl) (Ex.q (q_fieldAddr (by rfl)) (by rfl) ?_)) | (refine WL.yes (by rfl) (Ex.q (q_fieldAddr_rop (by rfl) (by rfl)) (by rfl) ?_)) | (refine WL.yes (by rfl) (Ex.q (q_fieldAddr_pel (by rfl)) (by rfl) ?_))
      first | (refine WL.yes (by rfl) (Ex.h (h_load (by rfl) (by rfl) (by rfl)) (by rfl) ?_)) | (refine WL.yes (by rfl) (Ex.q (q_load (by rfl) (by rfl) (by rfl)) (by rfl) ?_)) | (refine WL.yes (by rfl) (Ex.q (q_load_rop (by rfl) (by rfl)) (by rfl) ?_)) | (refine WL.yes (by rfl) (Ex.h (h_load_pel (by rfl) (by rfl) ?_ (by rfl)) (by rfl) ?_); (· (omega))) | (refine WL.yes (by rfl) (Ex.q (q_load_pel (by rfl) (by rfl) ?_ (by rfl)) (by rfl) ?_); (· (omega)))
      refine WL.nil ?_
      (repeat refine J.seq ?_)
      refine J.cutP (fun x : KS × Option Nat × Nat × Option Nat × Nat => KI x.1 (k + 1)) (fun x => [(7, .bool true)]) (fun x => [(1060, .box kb 93 (kV kt ku x.1.n)), (1051, tbl kt x.1.T), (1052, tbl ku x.1.U), (3060, .box b19 29 (rVv x.2.1 x.2.2.2.1 x.2.2.1 x.2.2.2.2 x.1)), (3051, lvec x.2.1 37 51 x.2.2.1 enE x.1.T), (3052, lvec x.2.2.2.1 37 51 x.2.2.2.2 enE x.1.U)]) [(0, _), (3, _), (4, _), (5, _), (6, _)] [(6, _)] ⟨same rfl, same rfl, same rfl, same rfl, same rfl, trivial⟩ (.cons (s := 6) rfl (CLe.refl _ _) rfl .nil) ?_ ?_
      · skip
        (repeat refine J.seq ?_)
        refine J.block ?_
        (repeat refine J.seq ?_)
        refine J.region ?_
        first | (refine WL.yes (by rfl) (Ex.q (q_int (by rfl) (by rfl) (by rfl)) (by rfl) ?_)) | (refine WL.yes (by rfl) (Ex.q (q_eqb (by rfl) (by rfl)) (by rfl) ?_)) | (refine WL.yes (by rfl) (Ex.q (q_eqp rfl rfl (by rfl) (by rfl) ?_) (by rfl) ?_); (· (rfl))) | (refine WL.yes (by rfl) (Ex.q (q_eqs (by rfl) (by rfl)) (by rfl) ?_))
        refine WL.yes (by rfl) (Ex.q (q_assign (by rfl)) (by rfl) ?_)
        refine WL.nil ?_
        (repeat refine J.seq ?_)
        refine J.cond (by rfl) (fun c34 => ?_) (fun c34 => ?_)
        · skip
          (first | have e34 := of_decide_eq_true c34 | have e34 := of_decide_eq_false c34 | have e34 := ndec_t c34 | have e34 := ndec_f c34 | skip)
          (repeat refine J.seq ?_)
          refine J.draw [6] 9999 [(0, true), (1, true), (2, true), (4, true), (5, true), (6, true), (3, false), (7, false), (8, true), (9, true)] (by kernel_rfl) rfl (by kernel_rfl) ?_
          intro F1 hF1
          refine WS.take rfl (by rfl) (by rfl) (q_move (by rfl)) ?_
          first | (refine WS.take rfl (by rfl) (by rfl) (q_fieldAddr (by rfl)) ?_) | (refine WS.take rfl (by rfl) (by rfl) (q_fieldAddr_rop (by rfl) (by rfl)) ?_) | (refine WS.take rfl (by rfl) (by rfl) (q_fieldAddr_pel (by rfl)) ?_)
          first | (refine WS.take rfl (by rfl) (by rfl) (q_load (by rfl) (by rfl) (by rfl)) ?_) | (refine WS.take rfl (by rfl) (by rfl) (q_load_rop (by rfl) (by rfl)) ?_) | (refine WS.take rfl (by rfl) (by rfl) (q_load_pel (by rfl) (by rfl) ?_ (by rfl)) ?_; (· (omega)))
          refine WS.take rfl (by rfl) (by rfl) (q_move (by rfl)) ?_
          first | (refine WS.take rfl (by rfl) (by rfl) (q_fieldAddr (by rfl)) ?_) | (refine WS.take rfl (by rfl) (by rfl) (q_fieldAddr_rop (by rfl) (by rfl)) ?_) | (refine WS.take rfl (by rfl) (by rfl) (q_fieldAddr_pel (by rfl)) ?_)
          first | (refine WS.take rfl (by rfl) (by rfl) (q_load (by rfl) (by rfl) (by rfl)) ?_) | (refine WS.take rfl (by rfl) (by rfl) (q_load_rop (by rfl) (by rfl)) ?_) | (refine WS.take rfl (by rfl) (by rfl) (q_load_pel (by rfl) (by rfl) ?_ (by rfl)) ?_; (· (omega)))
          refine WS.ex rfl (by rfl) (Ex.callL (kDo_spec kb kt ku (s := s) (o := (lat l k).o) hs.toKOk' hact.1) (by rfl) (by rfl) (.cons rfl (.cons rfl (.cons rfl .nil))) ?_)
          rintro _ _ ⟨rfl, rfl⟩
          refine WS.ex rfl (by rfl) (Ex.callL (rDo_spec b19 a1 c1 a2 c2 (s := s) (o := (lat l k).o) hs.toKOk' hact.1 (by have := hs.lt; omega) (by have := hs.lu; omega)) (by rfl) (by rfl) (.cons rfl (.cons rfl (.cons rfl .nil))) ?_)
          rintro _ _ ⟨a1q, c1q, a2q, c2q, rfl, rfl⟩
          first | (refine WS.take rfl (by rfl) (by rfl) (q_int (by rfl) (by rfl) (by rfl)) ?_) | (refine WS.take rfl (by rfl) (by rfl) (q_eqb (by rfl) (by rfl)) ?_) | (refine WS.take rfl (by rfl) (by rfl) (q_eqp rfl rfl (by rfl) (by rfl) ?_) ?_; (· (rfl))) | (refine WS.take rfl (by rfl) (by rfl) (q_eqs (by rfl) (by rfl)) ?_)
          refine WS.set 44 (.bool true) (by rfl) (congrArg V.bool ((beq_self_eq_true _).symm : true = _)) ?_
          refine WS.take rfl (by rfl) (by rfl) (q_assign (by rfl)) ?_
          refine WS.nil ?_
          first | (refine Kcut.mkP (((kdo s (lat l k).o).2, a1q, c1q, a2q, c2q)) ?_ ⟨(by first | exact same rfl | exact ⟨_, rfl, by simp, fun _ => trivial⟩), trivial⟩ ⟨same rfl, same rfl, same rfl, same rfl, same rfl, trivial⟩ (.cons (s := 1060) rfl (CLe.refl _ _) rfl (.cons (s := 1051) rfl (CLe.refl _ _) rfl (.cons (s := 1052) rfl (CLe.refl _ _) rfl (.cons (s := 3060) rfl (CLe.refl _ _) rfl (.cons (s := 3051) rfl (CLe.refl _ _) rfl (.cons (s := 3052) rfl (CLe.refl _ _) rfl (.cons (s := 6) rfl (CLe.refl _ _) rfl .nil))))))); (· (exact hs.do hact.1))) | (refine Kcut.mkP (((kimp s (lat l k).o.e).2, a1q, c1q, a2q, c2q)) ?_ ⟨(by first | exact same rfl | exact ⟨_, rfl, by simp, fun _ => trivial⟩), trivial⟩ ⟨same rfl, same rfl, same rfl, same rfl, same rfl, trivial⟩ (.cons (s := 1060) rfl (CLe.refl _ _) rfl (.cons (s := 1051) rfl (CLe.refl _ _) rfl (.cons (s := 1052) rfl (CLe.refl _ _) rfl (.cons (s := 3060) rfl (CLe.refl _ _) rfl (.cons (s := 3051) rfl (CLe.refl _ _) rfl (.cons (s := 3052) rfl (CLe.refl _ _) rfl (.cons (s := 6) rfl (CLe.refl _ _) rfl .nil))))))); (· (exact hs.imp hact.1))) | (refine Kcut.mkP (({ s with n := max (lat l k).n 0 }, a1, c1, a2, c2)) ?_ ⟨(by first | exact same rfl | exact ⟨_, rfl, by simp, fun _ => trivial⟩), trivial⟩ ⟨same rfl, same rfl, same rfl, same rfl, same rfl, trivial⟩ (.cons (s := 1060) rfl (CLe.refl _ _) rfl (.cons (s := 1051) rfl (CLe.refl _ _) rfl (.cons (s := 1052) rfl (CLe.refl _ _) rfl (.cons (s := 3060) rfl (CLe.refl _ _) rfl (.cons (s := 3051) rfl (CLe.refl _ _) rfl (.cons (s := 3052) rfl (CLe.refl _ _) rfl (.cons (s := 6) rfl (CLe.refl _ _) rfl .nil))))))); (· (exact (hs.fail hact.2.2.2).mono (by omega)))) | (refine Kcut.mkP ((s, a1, c1, a2, c2)) ?_ ⟨(by first | exact same rfl | exact ⟨_, rfl, by simp, fun _ => trivial⟩), trivial⟩ ⟨same rfl, same rfl, same rfl, same rfl, same rfl, trivial⟩ (.cons (s := 1060) rfl (CLe.refl _ _) rfl (.cons (s := 1051) rfl (CLe.refl _ _) rfl (.cons (s := 1052) rfl (CLe.refl _ _) rfl (.cons (s := 3060) rfl (CLe.refl _ _) rfl (.cons (s := 3051) rfl (CLe.refl _ _) rfl (.cons (s := 3052) rfl (CLe.refl _ _) rfl (.cons (s := 6) rfl (CLe.refl _ _) rfl .nil))))))); (· (exact hs.mono (by omega))))
        · skip
          (first | have e34 := of_decide_eq_true c34 | have e34 := of_decide_eq_false c34 | have e34 := ndec_t c34 | have e34 := ndec_f c34 | skip)
          (repeat refine J.seq ?_)
          refine J.region ?_
          first | (refine WL.yes (by rfl) (Ex.q (q_int (by rfl) (by rfl) (by rfl)) (by rfl) ?_)) | (refine WL.yes (by rfl) (Ex.q (q_eqb (by rfl) (by rfl)) (by rfl) ?_)) | (refine WL.yes (by rfl) (Ex.q (q_eqp rfl rfl (by rfl) (by rfl) ?_) (by rfl) ?_); (· (rfl))) | (refine WL.yes (by rfl) (Ex.q (q_eqs (by rfl) (by rfl)) (by rfl) ?_))
          refine WL.yes (by rfl) (Ex.q (q_assign (by rfl)) (by rfl) ?_)
          refine WL.nil ?_
          (repeat refine J.seq ?_)
          refine J.cond (by rfl) (fun c45 => ?_) (fun c45 => ?_)
          · skip
            (first | have e45 := of_decide_eq_true c45 | have e45 := of_decide_eq_false c45 | have e45 := ndec_t c45 | have e45 := ndec_f c45 | skip)
            (repeat refine J.seq ?_)
            refine J.region ?_
            refine WL.yes (by rfl) (Ex.q (q_move (by rfl)) (by rfl) ?_)
            first | (refine WL.yes (by rfl) (Ex.q (q_fieldAddr (by rfl)) (by rfl) ?_)) | (refine WL.yes (by rfl) (Ex.q (q_fieldAddr_rop (by rfl) (by rfl)) (by rfl) ?_)) | (refine WL.yes (by rfl) (Ex.q (q_fieldAddr_pel (by rfl)) (by rfl) ?_))
            first | (refine WL.yes (by rfl) (Ex.h (h_load (by rfl) (by rfl) (by rfl)) (by rfl) ?_)) | (refine WL.yes (by rfl) (Ex.q (q_load (by rfl) (by rfl) (by rfl)) (by rfl) ?_)) | (refine WL.yes (by rfl) (Ex.q (q_load_rop (by rfl) (by rfl)) (by rfl) ?_)) | (refine WL.yes (by rfl) (Ex.h (h_load_pel (by rfl) (by rfl) ?_ (by rfl)) (by rfl) ?_); (· (omega))) | (refine WL.yes (by rfl) (Ex.q (q_load_pel (by rfl) (by rfl) ?_ (by rfl)) (by rfl) ?_); (· (omega)))
            refine WL.yes (by rfl) (Ex.callL (kFail_spec kb kt ku s (lat l k).n) (by rfl) (by rfl) (.cons rfl (.cons rfl (.cons rfl .nil))) ?_)
            rintro _ _ ⟨rfl, rfl⟩
            refine WL.nil ?_
            (repeat refine J.seq ?_)
            refine J.region ?_
            refine WL.yes (by rfl) (Ex.q (q_move (by rfl)) (by rfl) ?_)
            first | (refine WL.yes (by rfl) (Ex.q (q_fieldAddr (by rfl)) (by rfl) ?_)) | (refine WL.yes (by rfl) (Ex.q (q_fieldAddr_rop (by rfl) (by rfl)) (by rfl) ?_)) | (refine WL.yes (by rfl) (Ex.q (q_fieldAddr_pel (by rfl)) (by rfl) ?_))
            first | (refine WL.yes (by rfl) (Ex.h (h_load (by rfl) (by rfl) (by rfl)) (by rfl) ?_)) | (refine WL.yes (by rfl) (Ex.q (q_load (by rfl) (by rfl) (by rfl)) (by rfl) ?_)) | (refine WL.yes (by rfl) (Ex.q (q_load_rop (by rfl) (by rfl)) (by rfl) ?_)) | (refine WL.yes (by rfl) (Ex.h (h_load_pel (by rfl) (by rfl) ?_ (by rfl)) (by rfl) ?_); (· (omega))) | (refine WL.yes (by rfl) (Ex.q (q_load_pel (by rfl) (by rfl) ?_ (by rfl)) (by rfl) ?_); (· (omega)))
            refine WL.yes (by rfl) (Ex.q (q_max (by rfl)) (by rfl) ?_)
            refine WL.yes (by rfl) (Ex.q (q_nilCheck (by rfl) (by rfl)) (by rfl) ?_)
            first | (refine WL.yes (by rfl) (Ex.q (q_fieldAddr (by rfl)) (by rfl) ?_)) | (refine WL.yes (by rfl) (Ex.q (q_fieldAddr_rop (by rfl) (by rfl)) (by rfl) ?_)) | (refine WL.yes (by rfl) (Ex.q (q_fieldAddr_pel (by rfl)) (by rfl) ?_))
            first | (refine WL.yes (by rfl) (Ex.store (by rfl) (by rfl) (by rfl) (by rfl) (by rfl) (by rfl) ?_)) | (refine WL.yes (by rfl) (Ex.store_pel (by rfl) (by rfl) (by rfl) (by rfl) (by rfl) ?_ (by rfl) ?_); (· (omega)))
            refine WL.nil ?_
            first | (refine Kcut.mkP (((kdo s (lat l k).o).2, a1q, c1q, a2q, c2q)) ?_ ⟨(by first | exact same rfl | exact ⟨_, rfl, by simp, fun _ => trivial⟩), trivial⟩ ⟨same rfl, same rfl, same rfl, same rfl, same rfl, trivial⟩ (.cons (s := 1060) rfl (CLe.refl _ _) rfl (.cons (s := 1051) rfl (CLe.refl _ _) rfl (.cons (s := 1052) rfl (CLe.refl _ _) rfl (.cons (s := 3060) rfl (CLe.refl _ _) rfl (.cons (s := 3051) rfl (CLe.refl _ _) rfl (.cons (s := 3052) rfl (CLe.refl _ _) rfl (.cons (s := 6) rfl (CLe.refl _ _) rfl .nil))))))); (· (exact hs.do hact.1))) | (refine Kcut.mkP (((kimp s (lat l k).o.e).2, a1q, c1q, a2q, c2q)) ?_ ⟨(by first | exact same rfl | exact ⟨_, rfl, by simp, fun _ => trivial⟩), trivial⟩ ⟨same rfl, same rfl, same rfl, same rfl, same rfl, trivial⟩ (.cons (s := 1060) rfl (CLe.refl _ _) rfl (.cons (s := 1051) rfl (CLe.refl _ _) rfl (.cons (s := 1052) rfl (CLe.refl _ _) rfl (.cons (s := 3060) rfl (CLe.refl _ _) rfl (.cons (s := 3051) rfl (CLe.refl _ _) rfl (.cons (s := 3052) rfl (CLe.refl _ _) rfl (.cons (s := 6) rfl (CLe.refl _ _) rfl .nil))))))); (· (exact hs.imp hact.1))) | (refine Kcut.mkP (({ s with n := max (lat l k).n 0 }, a1, c1, a2, c2)) ?_ ⟨(by first | exact same rfl | exact ⟨_, rfl, by simp, fun _ => trivial⟩), trivial⟩ ⟨same rfl, same rfl, same rfl, same rfl, same rfl, trivial⟩ (.cons (s := 1060) rfl (CLe.refl _ _) rfl (.cons (s := 1051) rfl (CLe.refl _ _) rfl (.cons (s := 1052) rfl (CLe.refl _ _) rfl (.cons (s := 3060) rfl (CLe.refl _ _) rfl (.cons (s := 3051) rfl (CLe.refl _ _) rfl (.cons (s := 3052) rfl (CLe.refl _ _) rfl (.cons (s := 6) rfl (CLe.refl _ _) rfl .nil))))))); (· (exact (hs.fail hact.2.2.2).mono (by omega)))) | (refine Kcut.mkP ((s, a1, c1, a2, c2)) ?_ ⟨(by first | exact same rfl | exact ⟨_, rfl, by simp, fun _ => trivial⟩), trivial⟩ ⟨same rfl, same rfl, same rfl, same rfl, same rfl, trivial⟩ (.cons (s := 1060) rfl (CLe.refl _ _) rfl (.cons (s := 1051) rfl (CLe.refl _ _) rfl (.cons (s := 1052) rfl (CLe.refl _ _) rfl (.cons (s := 3060) rfl (CLe.refl _ _) rfl (.cons (s := 3051) rfl (CLe.refl _ _) rfl (.cons (s := 3052) rfl (CLe.refl _ _) rfl (.cons (s := 6) rfl (CLe.refl _ _) rfl .nil))))))); (· (exact hs.mono (by omega))))
          · skip
            (first | have e45 := of_decide_eq_true c45 | have e45 := of_decide_eq_false c45 | have e45 := ndec_t c45 | have e45 := ndec_f c45 | skip)
            (repeat refine J.seq ?_)
            refine J.region ?_
            first | (refine WL.yes (by rfl) (Ex.q (q_int (by rfl) (by rfl) (by rfl)) (by rfl) ?_)) | (refine WL.yes (by rfl) (Ex.q (q_eqb (by rfl) (by rfl)) (by rfl) ?_)) | (refine WL.yes (by rfl) (Ex.q (q_eqp rfl rfl (by rfl) (by rfl) ?_) (by rfl) ?_); (· (rfl))) | (refine WL.yes (by rfl) (Ex.q (q_eqs (by rfl) (by rfl)) (by rfl) ?_))
            refine WL.yes (by rfl) (Ex.q (q_assign (by rfl)) (by rfl) ?_)
            refine WL.nil ?_
            (repeat refine J.seq ?_)
            refine J.cond (by rfl) (fun c57 => ?_) (fun c57 => ?_)
            · skip
              (first | have e57 := of_decide_eq_true c57 | have e57 := of_decide_eq_false c57 | have e57 := ndec_t c57 | have e57 := ndec_f c57 | skip)
              (repeat refine J.seq ?_)
              refine J.draw [6] 9999 [(0, true), (1, true), (2, true), (3, true), (4, true), (5, true), (6, true), (9, true), (10, true), (11, true), (12, true), (7, false), (8, false), (13, false), (14, true), (15, true)] (by kernel_rfl) rfl (by kernel_rfl) ?_
              intro F2 hF2
              refine WS.take rfl (by rfl) (by rfl) (q_move (by rfl)) ?_
              first | (refine WS.take rfl (by rfl) (by rfl) (q_fieldAddr (by rfl)) ?_) | (refine WS.take rfl (by rfl) (by rfl) (q_fieldAddr_rop (by rfl) (by rfl)) ?_) | (refine WS.take rfl (by rfl) (by rfl) (q_fieldAddr_pel (by rfl)) ?_)
              first | (refine WS.take rfl (by rfl) (by rfl) (q_fieldAddr (by rfl)) ?_) | (refine WS.take rfl (by rfl) (by rfl) (q_fieldAddr_rop (by rfl) (by rfl)) ?_) | (refine WS.take rfl (by rfl) (by rfl) (q_fieldAddr_pel (by rfl)) ?_)
              first | (refine WS.take rfl (by rfl) (by rfl) (q_load (by rfl) (by rfl) (by rfl)) ?_) | (refine WS.take rfl (by rfl) (by rfl) (q_load_rop (by rfl) (by rfl)) ?_) | (refine WS.take rfl (by rfl) (by rfl) (q_load_pel (by rfl) (by rfl) ?_ (by rfl)) ?_; (· (omega)))
              first | (refine WS.take rfl (by rfl) (by rfl) (q_fieldAddr (by rfl)) ?_) | (refine WS.take rfl (by rfl) (by rfl) (q_fieldAddr_rop (by rfl) (by rfl)) ?_) | (refine WS.take rfl (by rfl) (by rfl) (q_fieldAddr_pel (by rfl)) ?_)
              first | (refine WS.take rfl (by rfl) (by rfl) (q_fieldAddr (by rfl)) ?_) | (refine WS.take rfl (by rfl) (by rfl) (q_fieldAddr_rop (by rfl) (by rfl)) ?_) | (refine WS.take rfl (by rfl) (by rfl) (q_fieldAddr_pel (by rfl)) ?_)
              first | (refine WS.take rfl (by rfl) (by rfl) (q_load (by rfl) (by rfl) (by rfl)) ?_) | (refine WS.take rfl (by rfl) (by rfl) (q_load_rop (by rfl) (by rfl)) ?_) | (refine WS.take rfl (by rfl) (by rfl) (q_load_pel (by rfl) (by rfl) ?_ (by rfl)) ?_; (· (omega)))
              refine WS.take rfl (by rfl) (by rfl) (q_move (by rfl)) ?_
              first | (refine WS.take rfl (by rfl) (by rfl) (q_fieldAddr (by rfl)) ?_) | (refine WS.take rfl (by rfl) (by rfl) (q_fieldAddr_rop (by rfl) (by rfl)) ?_) | (refine WS.take rfl (by rfl) (by rfl) (q_fieldAddr_pel (by rfl)) ?_)
              first | (refine WS.take rfl (by rfl) (by rfl) (q_fieldAddr (by rfl)) ?_) | (refine WS.take rfl (by rfl) (by rfl) (q_fieldAddr_rop (by rfl) (by rfl)) ?_) | (refine WS.take rfl (by rfl) (by rfl) (q_fieldAddr_pel (by rfl)) ?_)
              first | (refine WS.take rfl (by rfl) (by rfl) (q_load (by rfl) (by rfl) (by rfl)) ?_) | (refine WS.take rfl (by rfl) (by rfl) (q_load_rop (by rfl) (by rfl)) ?_) | (refine WS.take rfl (by rfl) (by rfl) (q_load_pel (by rfl) (by rfl) ?_ (by rfl)) ?_; (· (omega)))
              refine WS.ex rfl (by rfl) (Ex.buildSlice (parts := [(0, .tmp 62), (1, .tmp 65)]) (us := [_, _]) (by rfl) (by rfl) rfl (by rfl) (by rfl) ?_)
              intro b66
              refine WS.ex rfl (by rfl) (Ex.callz _ (KO kb kt ku s) [1060, 1051, 1052] (spec_lit (l := [(lat l k).o.e, (lat l k).o.e]) (us := [enE (lat l k).o.e, enE (lat l k).o.e]) (kImport_spec kb kt ku (s := s) hs.toKOk' (by simpa using hact.1) (by simp)) rfl rfl) (by rfl) (by rfl) (.cons (.same _) (.cons (.sla (by rfl)) .nil)) (Got.get (.cons rfl (.cons rfl (.cons rfl .nil)))) plainK ?_)
              rintro _ _ ⟨rfl, rfl⟩
              rw [kimps_two]
              refine WS.ex rfl (by rfl) (Ex.callL (rImport_spec b19 a1 c1 a2 c2 (s := s) (e := (lat l k).o.e) hs.toKOk' hact.1 (by have := hs.lt; omega) (by have := hs.lu; omega)) (by rfl) (by rfl) (.cons rfl (.cons rfl (.cons rfl .nil))) ?_)
              rintro _ _ ⟨a1q, c1q, a2q, c2q, rfl, rfl⟩
              first | (refine WS.take rfl (by rfl) (by rfl) (q_int (by rfl) (by rfl) (by rfl)) ?_) | (refine WS.take rfl (by rfl) (by rfl) (q_eqb (by rfl) (by rfl)) ?_) | (refine WS.take rfl (by rfl) (by rfl) (q_eqp rfl rfl (by rfl) (by rfl) ?_) ?_; (· (rfl))) | (refine WS.take rfl (by rfl) (by rfl) (q_eqs (by rfl) (by rfl)) ?_)
              refine WS.set 73 (.bool true) (by rfl) (congrArg V.bool ((decide_eq_true rfl).symm : true = _)) ?_
              refine WS.take rfl (by rfl) (by rfl) (q_assign (by rfl)) ?_
              refine WS.nil ?_
              first | (refine Kcut.mkP (((kdo s (lat l k).o).2, a1q, c1q, a2q, c2q)) ?_ ⟨(by first | exact same rfl | exact ⟨_, rfl, by simp, fun _ => trivial⟩), trivial⟩ ⟨same rfl, same rfl, same rfl, same rfl, same rfl, trivial⟩ (.cons (s := 1060) rfl (CLe.refl _ _) rfl (.cons (s := 1051) rfl (CLe.refl _ _) rfl (.cons (s := 1052) rfl (CLe.refl _ _) rfl (.cons (s := 3060) rfl (CLe.refl _ _) rfl (.cons (s := 3051) rfl (CLe.refl _ _) rfl (.cons (s := 3052) rfl (CLe.refl _ _) rfl (.cons (s := 6) rfl (CLe.refl _ _) rfl .nil))))))); (· (exact hs.do hact.1))) | (refine Kcut.mkP (((kimp s (lat l k).o.e).2, a1q, c1q, a2q, c2q)) ?_ ⟨(by first | exact same rfl | exact ⟨_, rfl, by simp, fun _ => trivial⟩), trivial⟩ ⟨same rfl, same rfl, same rfl, same rfl, same rfl, trivial⟩ (.cons (s := 1060) rfl (CLe.refl _ _) rfl (.cons (s := 1051) rfl (CLe.refl _ _) rfl (.cons (s := 1052) rfl (CLe.refl _ _) rfl (.cons (s := 3060) rfl (CLe.refl _ _) rfl (.cons (s := 3051) rfl (CLe.refl _ _) rfl (.cons (s := 3052) rfl (CLe.refl _ _) rfl (.cons (s := 6) rfl (CLe.refl _ _) rfl .nil))))))); (· (exact hs.imp hact.1))) | (refine Kcut.mkP (({ s with n := max (lat l k).n 0 }, a1, c1, a2, c2)) ?_ ⟨(by first | exact same rfl | exact ⟨_, rfl, by simp, fun _ => trivial⟩), trivial⟩ ⟨same rfl, same rfl, same rfl, same rfl, same rfl, trivial⟩ (.cons (s := 1060) rfl (CLe.refl _ _) rfl (.cons (s := 1051) rfl (CLe.refl _ _) rfl (.cons (s := 1052) rfl (CLe.refl _ _) rfl (.cons (s := 3060) rfl (CLe.refl _ _) rfl (.cons (s := 3051) rfl (CLe.refl _ _) rfl (.cons (s := 3052) rfl (CLe.refl _ _) rfl (.cons (s := 6) rfl (CLe.refl _ _) rfl .nil))))))); (· (exact (hs.fail hact.2.2.2).mono (by omega)))) | (refine Kcut.mkP ((s, a1, c1, a2, c2)) ?_ ⟨(by first | exact same rfl | exact ⟨_, rfl, by simp, fun _ => trivial⟩), trivial⟩ ⟨same rfl, same rfl, same rfl, same rfl, same rfl, trivial⟩ (.cons (s := 1060) rfl (CLe.refl _ _) rfl (.cons (s := 1051) rfl (CLe.refl _ _) rfl (.cons (s := 1052) rfl (CLe.refl _ _) rfl (.cons (s := 3060) rfl (CLe.refl _ _) rfl (.cons (s := 3051) rfl (CLe.refl _ _) rfl (.cons (s := 3052) rfl (CLe.refl _ _) rfl (.cons (s := 6) rfl (CLe.refl _ _) rfl .nil))))))); (· (exact hs.mono (by omega))))
            · skip
              (first | have e57 := of_decide_eq_true c57 | have e57 := of_decide_eq_false c57 | have e57 := ndec_t c57 | have e57 := ndec_f c57 | skip)
              (repeat refine J.seq ?_)
              refine J.region ?_
              first | (refine WL.yes (by rfl) (Ex.q (q_int (by rfl) (by rfl) (by rfl)) (by rfl) ?_)) | (refine WL.yes (by rfl) (Ex.q (q_eqb (by rfl) (by rfl)) (by rfl) ?_)) | (refine WL.yes (by rfl) (Ex.q (q_eqp rfl rfl (by rfl) (by rfl) ?_) (by rfl) ?_); (· (rfl))) | (refine WL.yes (by rfl) (Ex.q (q_eqs (by rfl) (by rfl)) (by rfl) ?_))
              refine WL.yes (by rfl) (Ex.q (q_assign (by rfl)) (by rfl) ?_)
              refine WL.nil ?_
              (repeat refine J.seq ?_)
              refine J.cond (by rfl) (fun c74 => ?_) (fun c74 => ?_)
              · skip
                (first | have e74 := of_decide_eq_true c74 | have e74 := of_decide_eq_false c74 | have e74 := ndec_t c74 | have e74 := ndec_f c74 | skip)
                (repeat refine J.seq ?_)
                refine J.region ?_
                refine WL.yes (by rfl) (Ex.q (q_move (by rfl)) (by rfl) ?_)
                refine WL.yes (by rfl) (Ex.callL (kCopy_spec kb kt ku (s := s)) (by rfl) (by rfl) (.cons rfl (.cons rfl (.cons rfl .nil))) ?_)
                rintro _ _ ⟨qb, qt, qu, rfl, rfl⟩
                refine WL.yes (by rfl) (Ex.q (q_assign (by rfl)) (by rfl) ?_)
                refine WL.nil ?_
                (repeat refine J.seq ?_)
                refine J.draw [3060] 9999 [(0, true), (1, true), (2, true), (3, true), (5, true), (6, true), (7, true), (8, true), (4, false), (9, false), (10, true), (11, true), (12, true), (13, true), (15, true), (16, true), (17, true), (18, true), (14, false), (19, false), (20, true), (21, true)] (by kernel_rfl) rfl (by kernel_rfl) ?_
                intro F3 hF3
                refine WS.take rfl (by rfl) (by rfl) (q_move (by rfl)) ?_
                refine WS.take rfl (by rfl) (by rfl) (q_eqnil (by rfl) (by rfl) (by rfl)) ?_
                refine WS.take rfl (by rfl) (by rfl) (q_move (by rfl)) ?_
                refine WS.take rfl (by rfl) (by rfl) (q_move (by rfl)) ?_
                refine WS.take rfl (by rfl) (by rfl) (q_move (by rfl)) ?_
                refine WS.take rfl (by rfl) (by rfl) (q_nilCheck (by rfl) (by rfl)) ?_
                first | (refine WS.take rfl (by rfl) (by rfl) (q_fieldAddr (by rfl)) ?_) | (refine WS.take rfl (by rfl) (by rfl) (q_fieldAddr_rop (by rfl) (by rfl)) ?_) | (refine WS.take rfl (by rfl) (by rfl) (q_fieldAddr_pel (by rfl)) ?_)
                first | (refine WS.take rfl (by rfl) (by rfl) (q_load (by rfl) (by rfl) (by rfl)) ?_) | (refine WS.take rfl (by rfl) (by rfl) (q_load_rop (by rfl) (by rfl)) ?_) | (refine WS.take rfl (by rfl) (by rfl) (q_load_pel (by rfl) (by rfl) ?_ (by rfl)) ?_; (· (omega)))
                refine WS.ex rfl (by rfl) (Ex.callL (kList2_spec qb qt qu (s := s) hs.toKOk' (by omega)) (by rfl) (by rfl) (.cons rfl (.cons rfl (.cons rfl .nil))) ?_)
                rintro _ _ ⟨a82, cap82, rfl, rfl⟩
                refine WS.ex rfl (by rfl) (Ex.callqz (same_spec (l := s.T) (l2 := s.T) ?_ ?_ ?_) (by rfl) (by rfl) (.cons (.sla (by rfl)) (.cons (.sla (by rfl)) .nil)) (fun _ => trivial) ?_); (· (omega)); (· (exact hs.t.ok)); (· (exact hs.t.ok))
                refine WS.set 87 (.bool true) (by rfl) (congrArg V.bool (dec_self : true = _)) ?_
                refine WS.take rfl (by rfl) (by rfl) (q_not (by rfl)) ?_
                refine WS.take rfl (by rfl) (by rfl) (q_pick_f (by rfl) (by rfl)) ?_
                refine WS.take rfl (by rfl) (by rfl) (q_move (by rfl)) ?_
                refine WS.take rfl (by rfl) (by rfl) (q_move (by rfl)) ?_
                refine WS.take rfl (by rfl) (by rfl) (q_move (by rfl)) ?_
                refine WS.take rfl (by rfl) (by rfl) (q_nilCheck (by rfl) (by rfl)) ?_
                first | (refine WS.take rfl (by rfl) (by rfl) (q_fieldAddr (by rfl)) ?_) | (refine WS.take rfl (by rfl) (by rfl) (q_fieldAddr_rop (by rfl) (by rfl)) ?_) | (refine WS.take rfl (by rfl) (by rfl) (q_fieldAddr_pel (by rfl)) ?_)
                first | (refine WS.take rfl (by rfl) (by rfl) (q_load (by rfl) (by rfl) (by rfl)) ?_) | (refine WS.take rfl (by rfl) (by rfl) (q_load_rop (by rfl) (by rfl)) ?_) | (refine WS.take rfl (by rfl) (by rfl) (q_load_pel (by rfl) (by rfl) ?_ (by rfl)) ?_; (· (omega)))
                refine WS.ex rfl (by rfl) (Ex.callL (kImported2_spec qb qt qu (s := s) hs.toKOk' (by omega)) (by rfl) (by rfl) (.cons rfl (.cons rfl (.cons rfl .nil))) ?_)
                rintro _ _ ⟨a92, cap92, rfl, rfl⟩
                refine WS.ex rfl (by rfl) (Ex.callqz (same_spec (l := s.U) (l2 := s.U) ?_ ?_ ?_) (by rfl) (by rfl) (.cons (.sla (by rfl)) (.cons (.sla (by rfl)) .nil)) (fun _ => trivial) ?_); (· (omega)); (· (exact hs.u.ok)); (· (exact hs.u.ok))
                refine WS.set 97 (.bool true) (by rfl) (congrArg V.bool (dec_self : true = _)) ?_
                refine WS.take rfl (by rfl) (by rfl) (q_not (by rfl)) ?_
                refine WS.take rfl (by rfl) (by rfl) (q_pick_f (by rfl) (by rfl)) ?_
                refine WS.nil ?_
                (repeat refine J.seq ?_)
                refine J.condF (by rfl) ?_
                (repeat refine J.seq ?_)
                refine J.skip ?_
                (repeat refine J.seq ?_)
                refine J.region ?_
                refine WL.yes (by rfl) (Ex.q (q_move (by rfl)) (by rfl) ?_)
                first | (refine WL.yes (by rfl) (Ex.q (q_fieldAddr (by rfl)) (by rfl) ?_)) | (refine WL.yes (by rfl) (Ex.q (q_fieldAddr_rop (by rfl) (by rfl)) (by rfl) ?_)) | (refine WL.yes (by rfl) (Ex.q (q_fieldAddr_pel (by rfl)) (by rfl) ?_))
                first | (refine WL.yes (by rfl) (Ex.h (h_load (by rfl) (by rfl) (by rfl)) (by rfl) ?_)) | (refine WL.yes (by rfl) (Ex.q (q_load (by rfl) (by rfl) (by rfl)) (by rfl) ?_)) | (refine WL.yes (by rfl) (Ex.q (q_load_rop (by rfl) (by rfl)) (by rfl) ?_)) | (refine WL.yes (by rfl) (Ex.h (h_load_pel (by rfl) (by rfl) ?_ (by rfl)) (by rfl) ?_); (· (omega))) | (refine WL.yes (by rfl) (Ex.q (q_load_pel (by rfl) (by rfl) ?_ (by rfl)) (by rfl) ?_); (· (omega)))
                refine WL.yes (by rfl) (Ex.callL (Spec.second (kDo_spec qb qt qu (s := s) (o := (lat l k).o) hs.toKOk' hact.1)) (by rfl) (by rfl) (.cons rfl (.cons rfl (.cons rfl .nil))) ?_)
                rintro _ _ ⟨rfl, rfl⟩
                refine WL.nil ?_
                (repeat refine J.seq ?_)
                refine J.region ?_
                refine WL.yes (by rfl) (Ex.q (q_move (by rfl)) (by rfl) ?_)
                first | (refine WL.yes (by rfl) (Ex.q (q_fieldAddr (by rfl)) (by rfl) ?_)) | (refine WL.yes (by rfl) (Ex.q (q_fieldAddr_rop (by rfl) (by rfl)) (by rfl) ?_)) | (refine WL.yes (by rfl) (Ex.q (q_fieldAddr_pel (by rfl)) (by rfl) ?_))
                first | (refine WL.yes (by rfl) (Ex.q (q_fieldAddr (by rfl)) (by rfl) ?_)) | (refine WL.yes (by rfl) (Ex.q (q_fieldAddr_rop (by rfl) (by rfl)) (by rfl) ?_)) | (refine WL.yes (by rfl) (Ex.q (q_fieldAddr_pel (by rfl)) (by rfl) ?_))
                first | (refine WL.yes (by rfl) (Ex.h (h_load (by rfl) (by rfl) (by rfl)) (by rfl) ?_)) | (refine WL.yes (by rfl) (Ex.q (q_load (by rfl) (by rfl) (by rfl)) (by rfl) ?_)) | (refine WL.yes (by rfl) (Ex.q (q_load_rop (by rfl) (by rfl)) (by rfl) ?_)) | (refine WL.yes (by rfl) (Ex.h (h_load_pel (by rfl) (by rfl) ?_ (by rfl)) (by rfl) ?_); (· (omega))) | (refine WL.yes (by rfl) (Ex.q (q_load_pel (by rfl) (by rfl) ?_ (by rfl)) (by rfl) ?_); (· (omega)))
                refine WL.yes (by rfl) (Ex.buildSlice (parts := [(0, .tmp 107)]) (us := [_]) (by rfl) (by rfl) rfl (by rfl) (by rfl) ?_)
                intro b108
                refine WL.yes (by rfl) (Ex.callz _ (KO2 qb qt qu (kdo s (lat l k).o).2) [2060, 2051, 2052] (spec_lit (l := [(lat l k).o.e]) (us := [enE (lat l k).o.e]) (Spec.second (kImport_spec qb qt qu (s := (kdo s (lat l k).o).2) (hs.do hact.1).toKOk' (by simpa using hact.1) (by simp))) rfl rfl) (by rfl) (by rfl) (.cons (.same _) (.cons (.sla (by rfl)) .nil)) (Got.get (.cons rfl (.cons rfl (.cons rfl .nil)))) plainK2 ?_)
                rintro _ _ ⟨rfl, rfl⟩
                refine WL.nil ?_
                first | (refine Kcut.mkP (((kdo s (lat l k).o).2, a1q, c1q, a2q, c2q)) ?_ ⟨(by first | exact same rfl | exact ⟨_, rfl, by simp, fun _ => trivial⟩), trivial⟩ ⟨same rfl, same rfl, same rfl, same rfl, same rfl, trivial⟩ (.cons (s := 1060) rfl (CLe.refl _ _) rfl (.cons (s := 1051) rfl (CLe.refl _ _) rfl (.cons (s := 1052) rfl (CLe.refl _ _) rfl (.cons (s := 3060) rfl (CLe.refl _ _) rfl (.cons (s := 3051) rfl (CLe.refl _ _) rfl (.cons (s := 3052) rfl (CLe.refl _ _) rfl (.cons (s := 6) rfl (CLe.refl _ _) rfl .nil))))))); (· (exact hs.do hact.1))) | (refine Kcut.mkP (((kimp s (lat l k).o.e).2, a1q, c1q, a2q, c2q)) ?_ ⟨(by first | exact same rfl | exact ⟨_, rfl, by simp, fun _ => trivial⟩), trivial⟩ ⟨same rfl, same rfl, same rfl, same rfl, same rfl, trivial⟩ (.cons (s := 1060) rfl (CLe.refl _ _) rfl (.cons (s := 1051) rfl (CLe.refl _ _) rfl (.cons (s := 1052) rfl (CLe.refl _ _) rfl (.cons (s := 3060) rfl (CLe.refl _ _) rfl (.cons (s := 3051) rfl (CLe.refl _ _) rfl (.cons (s := 3052) rfl (CLe.refl _ _) rfl (.cons (s := 6) rfl (CLe.refl _ _) rfl .nil))))))); (· (exact hs.imp hact.1))) | (refine Kcut.mkP (({ s with n := max (lat l k).n 0 }, a1, c1, a2, c2)) ?_ ⟨(by first | exact same rfl | exact ⟨_, rfl, by simp, fun _ => trivial⟩), trivial⟩ ⟨same rfl, same rfl, same rfl, same rfl, same rfl, trivial⟩ (.cons (s := 1060) rfl (CLe.refl _ _) rfl (.cons (s := 1051) rfl (CLe.refl _ _) rfl (.cons (s := 1052) rfl (CLe.refl _ _) rfl (.cons (s := 3060) rfl (CLe.refl _ _) rfl (.cons (s := 3051) rfl (CLe.refl _ _) rfl (.cons (s := 3052) rfl (CLe.refl _ _) rfl (.cons (s := 6) rfl (CLe.refl _ _) rfl .nil))))))); (· (exact (hs.fail hact.2.2.2).mono (by omega)))) | (refine Kcut.mkP ((s, a1, c1, a2, c2)) ?_ ⟨(by first | exact same rfl | exact ⟨_, rfl, by simp, fun _ => trivial⟩), trivial⟩ ⟨same rfl, same rfl, same rfl, same rfl, same rfl, trivial⟩ (.cons (s := 1060) rfl (CLe.refl _ _) rfl (.cons (s := 1051) rfl (CLe.refl _ _) rfl (.cons (s := 1052) rfl (CLe.refl _ _) rfl (.cons (s := 3060) rfl (CLe.refl _ _) rfl (.cons (s := 3051) rfl (CLe.refl _ _) rfl (.cons (s := 3052) rfl (CLe.refl _ _) rfl (.cons (s := 6) rfl (CLe.refl _ _) rfl .nil))))))); (· (exact hs.mono (by omega))))
              · skip
                (first | have e74 := of_decide_eq_true c74 | have e74 := of_decide_eq_false c74 | have e74 := ndec_t c74 | have e74 := ndec_f c74 | skip)
                (repeat refine J.seq ?_)
                refine J.skip ?_
                first | (refine Kcut.mkP (((kdo s (lat l k).o).2, a1q, c1q, a2q, c2q)) ?_ ⟨(by first | exact same rfl | exact ⟨_, rfl, by simp, fun _ => trivial⟩), trivial⟩ ⟨same rfl, same rfl, same rfl, same rfl, same rfl, trivial⟩ (.cons (s := 1060) rfl (CLe.refl _ _) rfl (.cons (s := 1051) rfl (CLe.refl _ _) rfl (.cons (s := 1052) rfl (CLe.refl _ _) rfl (.cons (s := 3060) rfl (CLe.refl _ _) rfl (.cons (s := 3051) rfl (CLe.refl _ _) rfl (.cons (s := 3052) rfl (CLe.refl _ _) rfl (.cons (s := 6) rfl (CLe.refl _ _) rfl .nil))))))); (· (exact hs.do hact.1))) | (refine Kcut.mkP (((kimp s (lat l k).o.e).2, a1q, c1q, a2q, c2q)) ?_ ⟨(by first | exact same rfl | exact ⟨_, rfl, by simp, fun _ => trivial⟩), trivial⟩ ⟨same rfl, same rfl, same rfl, same rfl, same rfl, trivial⟩ (.cons (s := 1060) rfl (CLe.refl _ _) rfl (.cons (s := 1051) rfl (CLe.refl _ _) rfl (.cons (s := 1052) rfl (CLe.refl _ _) rfl (.cons (s := 3060) rfl (CLe.refl _ _) rfl (.cons (s := 3051) rfl (CLe.refl _ _) rfl (.cons (s := 3052) rfl (CLe.refl _ _) rfl (.cons (s := 6) rfl (CLe.refl _ _) rfl .nil))))))); (· (exact hs.imp hact.1))) | (refine Kcut.mkP (({ s with n := max (lat l k).n 0 }, a1, c1, a2, c2)) ?_ ⟨(by first | exact same rfl | exact ⟨_, rfl, by simp, fun _ => trivial⟩), trivial⟩ ⟨same rfl, same rfl, same rfl, same rfl, same rfl, trivial⟩ (.cons (s := 1060) rfl (CLe.refl _ _) rfl (.cons (s := 1051) rfl (CLe.refl _ _) rfl (.cons (s := 1052) rfl (CLe.refl _ _) rfl (.cons (s := 3060) rfl (CLe.refl _ _) rfl (.cons (s := 3051) rfl (CLe.refl _ _) rfl (.cons (s := 3052) rfl (CLe.refl _ _) rfl (.cons (s := 6) rfl (CLe.refl _ _) rfl .nil))))))); (· (exact (hs.fail hact.2.2.2).mono (by omega)))) | (refine Kcut.mkP ((s, a1, c1, a2, c2)) ?_ ⟨(by first | exact same rfl | exact ⟨_, rfl, by simp, fun _ => trivial⟩), trivial⟩ ⟨same rfl, same rfl, same rfl, same rfl, same rfl, trivial⟩ (.cons (s := 1060) rfl (CLe.refl _ _) rfl (.cons (s := 1051) rfl (CLe.refl _ _) rfl (.cons (s := 1052) rfl (CLe.refl _ _) rfl (.cons (s := 3060) rfl (CLe.refl _ _) rfl (.cons (s := 3051) rfl (CLe.refl _ _) rfl (.cons (s := 3052) rfl (CLe.refl _ _) rfl (.cons (s := 6) rfl (CLe.refl _ _) rfl .nil))))))); (· (exact hs.mono (by omega))))
      rintro ⟨s2, a1p, c1p, a2p, c2p⟩ hcut
      (try dsimp only at hcut ⊢)
      have hinv : KInv s2 := hcut.inv (by omega)
      have hlt2 := hcut.lt
      have hlu2 := hcut.lu
      have hkl : (klook s2 (lat l k).src (lat l k).dst).1.ok := klook_ok hinv
      (repeat refine J.seq ?_)
      refine J.region ?_
      refine WL.yes (by rfl) (Ex.q (q_move (by rfl)) (by rfl) ?_)
      first | (refine WL.yes (by rfl) (Ex.q (q_fieldAddr (by rfl)) (by rfl) ?_)) | (refine WL.yes (by rfl) (Ex.q (q_fieldAddr_rop (by rfl) (by rfl)) (by rfl) ?_)) | (refine WL.yes (by rfl) (Ex.q (q_fieldAddr_pel (by rfl)) (by rfl) ?_))
      first | (refine WL.yes (by rfl) (Ex.h (h_load (by rfl) (by rfl) (by rfl)) (by rfl) ?_)) | (refine WL.yes (by rfl) (Ex.q (q_load (by rfl) (by rfl) (by rfl)) (by rfl) ?_)) | (refine WL.yes (by rfl) (Ex.q (q_load_rop (by rfl) (by rfl)) (by rfl) ?_)) | (refine WL.yes (by rfl) (Ex.h (h_load_pel (by rfl) (by rfl) ?_ (by rfl)) (by rfl) ?_); (· (omega))) | (refine WL.yes (by rfl) (Ex.q (q_load_pel (by rfl) (by rfl) ?_ (by rfl)) (by rfl) ?_); (· (omega)))
      first | (refine WL.yes (by rfl) (Ex.q (q_fieldAddr (by rfl)) (by rfl) ?_)) | (refine WL.yes (by rfl) (Ex.q (q_fieldAddr_rop (by rfl) (by rfl)) (by rfl) ?_)) | (refine WL.yes (by rfl) (Ex.q (q_fieldAddr_pel (by rfl)) (by rfl) ?_))
      first | (refine WL.yes (by rfl) (Ex.h (h_load (by rfl) (by rfl) (by rfl)) (by rfl) ?_)) | (refine WL.yes (by rfl) (Ex.q (q_load (by rfl) (by rfl) (by rfl)) (by rfl) ?_)) | (refine WL.yes (by rfl) (Ex.q (q_load_rop (by rfl) (by rfl)) (by rfl) ?_)) | (refine WL.yes (by rfl) (Ex.h (h_load_pel (by rfl) (by rfl) ?_ (by rfl)) (by rfl) ?_); (· (omega))) | (refine WL.yes (by rfl) (Ex.q (q_load_pel (by rfl) (by rfl) ?_ (by rfl)) (by rfl) ?_); (· (omega)))
      refine WL.yes (by rfl) (Ex.callL (kLookup_spec kb kt ku (s := s2) (src := (lat l k).src) (dst := (lat l k).dst) hinv) (by rfl) (by rfl) (.cons rfl (.cons rfl (.cons rfl .nil))) ?_)
      rintro _ _ ⟨rfl, rfl⟩
      refine WL.yes (by rfl) (Ex.q (q_move (by rfl)) (by rfl) ?_)
      first | (refine WL.yes (by rfl) (Ex.q (q_extract2 (by rfl) (by rfl)) (by rfl) ?_)) | (refine WL.yes (by rfl) (Ex.q (q_extract3 (by rfl) (by rfl)) (by rfl) ?_))
      first | (refine WL.yes (by rfl) (Ex.q (q_extract2 (by rfl) (by rfl)) (by rfl) ?_)) | (refine WL.yes (by rfl) (Ex.q (q_extract3 (by rfl) (by rfl)) (by rfl) ?_))
      refine WL.yes (by rfl) (Ex.alloc (by rfl) ?_)
      intro b9
      first | (refine WL.yes (by rfl) (Ex.store (by rfl) (by rfl) (by rfl) (by rfl) (by rfl) (by rfl) ?_)) | (refine WL.yes (by rfl) (Ex.store_pel (by rfl) (by rfl) (by rfl) (by rfl) (by rfl) ?_ (by rfl) ?_); (· (omega)))
      refine WL.yes (by rfl) (Ex.q (q_assign (by rfl)) (by rfl) ?_)
      refine WL.nil ?_
      (repeat refine J.seq ?_)
      refine J.region ?_
      refine WL.yes (by rfl) (Ex.q (q_move (by rfl)) (by rfl) ?_)
      first | (refine WL.yes (by rfl) (Ex.q (q_fieldAddr (by rfl)) (by rfl) ?_)) | (refine WL.yes (by rfl) (Ex.q (q_fieldAddr_rop (by rfl) (by rfl)) (by rfl) ?_)) | (refine WL.yes (by rfl) (Ex.q (q_fieldAddr_pel (by rfl)) (by rfl) ?_))
      first | (refine WL.yes (by rfl) (Ex.h (h_load (by rfl) (by rfl) (by rfl)) (by rfl) ?_)) | (refine WL.yes (by rfl) (Ex.q (q_load (by rfl) (by rfl) (by rfl)) (by rfl) ?_)) | (refine WL.yes (by rfl) (Ex.q (q_load_rop (by rfl) (by rfl)) (by rfl) ?_)) | (refine WL.yes (by rfl) (Ex.h (h_load_pel (by rfl) (by rfl) ?_ (by rfl)) (by rfl) ?_); (· (omega))) | (refine WL.yes (by rfl) (Ex.q (q_load_pel (by rfl) (by rfl) ?_ (by rfl)) (by rfl) ?_); (· (omega)))
      first | (refine WL.yes (by rfl) (Ex.q (q_fieldAddr (by rfl)) (by rfl) ?_)) | (refine WL.yes (by rfl) (Ex.q (q_fieldAddr_rop (by rfl) (by rfl)) (by rfl) ?_)) | (refine WL.yes (by rfl) (Ex.q (q_fieldAddr_pel (by rfl)) (by rfl) ?_))
      first | (refine WL.yes (by rfl) (Ex.h (h_load (by rfl) (by rfl) (by rfl)) (by rfl) ?_)) | (refine WL.yes (by rfl) (Ex.q (q_load (by rfl) (by rfl) (by rfl)) (by rfl) ?_)) | (refine WL.yes (by rfl) (Ex.q (q_load_rop (by rfl) (by rfl)) (by rfl) ?_)) | (refine WL.yes (by rfl) (Ex.h (h_load_pel (by rfl) (by rfl) ?_ (by rfl)) (by rfl) ?_); (· (omega))) | (refine WL.yes (by rfl) (Ex.q (q_load_pel (by rfl) (by rfl) ?_ (by rfl)) (by rfl) ?_); (· (omega)))
      refine WL.yes (by rfl) (Ex.callL (rLookup_spec b19 a1p c1p a2p c2p (s := s2) (src := (lat l k).src) (dst := (lat l k).dst) hinv hact.2.1 hact.2.2.1) (by rfl) (by rfl) (.cons rfl (.cons rfl (.cons rfl .nil))) ?_)
      rintro _ _ ⟨rfl, rfl⟩
      refine WL.yes (by rfl) (Ex.q (q_move (by rfl)) (by rfl) ?_)
      first | (refine WL.yes (by rfl) (Ex.q (q_extract2 (by rfl) (by rfl)) (by rfl) ?_)) | (refine WL.yes (by rfl) (Ex.q (q_extract3 (by rfl) (by rfl)) (by rfl) ?_))
      first | (refine WL.yes (by rfl) (Ex.q (q_extract2 (by rfl) (by rfl)) (by rfl) ?_)) | (refine WL.yes (by rfl) (Ex.q (q_extract3 (by rfl) (by rfl)) (by rfl) ?_))
      refine WL.yes (by rfl) (Ex.alloc (by rfl) ?_)
      intro b11
      first | (refine WL.yes (by rfl) (Ex.store (by rfl) (by rfl) (by rfl) (by rfl) (by rfl) (by rfl) ?_)) | (refine WL.yes (by rfl) (Ex.store_pel (by rfl) (by rfl) (by rfl) (by rfl) (by rfl) ?_ (by rfl) ?_); (· (omega)))
      refine WL.yes (by rfl) (Ex.q (q_assign (by rfl)) (by rfl) ?_)
      refine WL.nil ?_
      (repeat refine J.seq ?_)
      refine J.draw [9, 11, 3060] 9999 [(0, true), (1, true), (2, true), (3, true), (4, true), (5, true), (6, true), (7, true), (8, true), (9, true), (10, true), (11, true), (12, true), (13, true), (15, true), (16, true), (17, true), (18, true), (14, false), (19, false), (20, true), (21, true), (22, true), (23, true), (25, true), (26, true), (27, true), (28, true), (24, false), (29, false), (30, true), (31, true)] (by kernel_rfl) rfl (by kernel_rfl) ?_
      intro F4 hF4
      refine WS.take rfl (by rfl) (by rfl) (q_move (by rfl)) ?_
      refine WS.take rfl (by rfl) (by rfl) (q_not (by rfl)) ?_
      refine WS.take rfl (by rfl) (by rfl) (q_move (by rfl)) ?_
      first | (refine WS.take rfl (by rfl) (by rfl) (q_load (by rfl) (by rfl) (by rfl)) ?_) | (refine WS.take rfl (by rfl) (by rfl) (q_load_rop (by rfl) (by rfl)) ?_) | (refine WS.take rfl (by rfl) (by rfl) (q_load_pel (by rfl) (by rfl) ?_ (by rfl)) ?_; (· (omega)))
      first | (refine WS.take rfl (by rfl) (by rfl) (q_load (by rfl) (by rfl) (by rfl)) ?_) | (refine WS.take rfl (by rfl) (by rfl) (q_load_rop (by rfl) (by rfl)) ?_) | (refine WS.take rfl (by rfl) (by rfl) (q_load_pel (by rfl) (by rfl) ?_ (by rfl)) ?_; (· (omega)))
      first | (refine WS.take rfl (by rfl) (by rfl) (q_int (by rfl) (by rfl) (by rfl)) ?_) | (refine WS.take rfl (by rfl) (by rfl) (q_neb (by rfl) (by rfl)) ?_) | (refine WS.take rfl (by rfl) (by rfl) (q_nep rfl rfl (by rfl) (by rfl) ?_) ?_; (· (rfl))) | (refine WS.take rfl (by rfl) (by rfl) (q_eqs (by rfl) (by rfl)) ?_)
      refine WS.set 133 (.bool false) (by rfl) (congrArg V.bool ((by rw [eqEn_self hkl]; rfl) : false = _)) ?_
      refine WS.take rfl (by rfl) (by rfl) (q_pick_f (by rfl) (by rfl)) ?_
      refine WS.take rfl (by rfl) (by rfl) (q_move (by rfl)) ?_
      refine WS.take rfl (by rfl) (by rfl) (q_move (by rfl)) ?_
      refine WS.take rfl (by rfl) (by rfl) (q_move (by rfl)) ?_
      first | (refine WS.take rfl (by rfl) (by rfl) (q_int (by rfl) (by rfl) (by rfl)) ?_) | (refine WS.take rfl (by rfl) (by rfl) (q_neb (by rfl) (by rfl)) ?_) | (refine WS.take rfl (by rfl) (by rfl) (q_nep rfl rfl (by rfl) (by rfl) ?_) ?_; (· (rfl))) | (refine WS.take rfl (by rfl) (by rfl) (q_eqs (by rfl) (by rfl)) ?_)
      refine WS.set 138 (.bool false) (by rfl) (congrArg V.bool ((by rw [beq_self_eq_true]; rfl) : false = _)) ?_
      refine WS.take rfl (by rfl) (by rfl) (q_pick_f (by rfl) (by rfl)) ?_
      refine WS.take rfl (by rfl) (by rfl) (q_move (by rfl)) ?_
      refine WS.take rfl (by rfl) (by rfl) (q_move (by rfl)) ?_
      refine WS.take rfl (by rfl) (by rfl) (q_move (by rfl)) ?_
      refine WS.take rfl (by rfl) (by rfl) (q_nilCheck (by rfl) (by rfl)) ?_
      first | (refine WS.take rfl (by rfl) (by rfl) (q_fieldAddr (by rfl)) ?_) | (refine WS.take rfl (by rfl) (by rfl) (q_fieldAddr_rop (by rfl) (by rfl)) ?_) | (refine WS.take rfl (by rfl) (by rfl) (q_fieldAddr_pel (by rfl)) ?_)
      first | (refine WS.take rfl (by rfl) (by rfl) (q_load (by rfl) (by rfl) (by rfl)) ?_) | (refine WS.take rfl (by rfl) (by rfl) (q_load_rop (by rfl) (by rfl)) ?_) | (refine WS.take rfl (by rfl) (by rfl) (q_load_pel (by rfl) (by rfl) ?_ (by rfl)) ?_; (· (omega)))
      refine WS.ex rfl (by rfl) (Ex.callL (kList_spec kb kt ku (s := s2) hcut.toKOk' (by omega)) (by rfl) (by rfl) (.cons rfl (.cons rfl (.cons rfl .nil))) ?_)
      rintro _ _ ⟨a142, cap142, rfl, rfl⟩
      refine WS.ex rfl (by rfl) (Ex.callqz (same_spec (l := s2.T) (l2 := s2.T) ?_ ?_ ?_) (by rfl) (by rfl) (.cons (.sla (by rfl)) (.cons (.sla (by rfl)) .nil)) (fun _ => trivial) ?_); (· (omega)); (· (exact hcut.t.ok)); (· (exact hcut.t.ok))
      refine WS.set 147 (.bool true) (by rfl) (congrArg V.bool (dec_self : true = _)) ?_
      refine WS.take rfl (by rfl) (by rfl) (q_not (by rfl)) ?_
      refine WS.take rfl (by rfl) (by rfl) (q_pick_f (by rfl) (by rfl)) ?_
      refine WS.take rfl (by rfl) (by rfl) (q_move (by rfl)) ?_
      refine WS.take rfl (by rfl) (by rfl) (q_move (by rfl)) ?_
      refine WS.take rfl (by rfl) (by rfl) (q_move (by rfl)) ?_
      refine WS.take rfl (by rfl) (by rfl) (q_nilCheck (by rfl) (by rfl)) ?_
      first | (refine WS.take rfl (by rfl) (by rfl) (q_fieldAddr (by rfl)) ?_) | (refine WS.take rfl (by rfl) (by rfl) (q_fieldAddr_rop (by rfl) (by rfl)) ?_) | (refine WS.take rfl (by rfl) (by rfl) (q_fieldAddr_pel (by rfl)) ?_)
      first | (refine WS.take rfl (by rfl) (by rfl) (q_load (by rfl) (by rfl) (by rfl)) ?_) | (refine WS.take rfl (by rfl) (by rfl) (q_load_rop (by rfl) (by rfl)) ?_) | (refine WS.take rfl (by rfl) (by rfl) (q_load_pel (by rfl) (by rfl) ?_ (by rfl)) ?_; (· (omega)))
      refine WS.ex rfl (by rfl) (Ex.callL (kImported_spec kb kt ku (s := s2) hcut.toKOk' (by omega)) (by rfl) (by rfl) (.cons rfl (.cons rfl (.cons rfl .nil))) ?_)
      rintro _ _ ⟨a152, cap152, rfl, rfl⟩
      refine WS.ex rfl (by rfl) (Ex.callqz (same_spec (l := s2.U) (l2 := s2.U) ?_ ?_ ?_) (by rfl) (by rfl) (.cons (.sla (by rfl)) (.cons (.sla (by rfl)) .nil)) (fun _ => trivial) ?_); (· (omega)); (· (exact hcut.u.ok)); (· (exact hcut.u.ok))
      refine WS.set 157 (.bool true) (by rfl) (congrArg V.bool (dec_self : true = _)) ?_
      refine WS.take rfl (by rfl) (by rfl) (q_not (by rfl)) ?_
      refine WS.take rfl (by rfl) (by rfl) (q_pick_f (by rfl) (by rfl)) ?_
      refine WS.nil ?_
      (repeat refine J.seq ?_)
      refine J.condF (by rfl) ?_
      (repeat refine J.seq ?_)
      refine J.skip ?_
      (repeat refine J.seq ?_)
      refine J.region ?_
      refine WL.yes (by rfl) (Ex.q (q_move (by rfl)) (by rfl) ?_)
      refine WL.yes (by rfl) (Ex.q (q_int (by rfl) (by rfl) (by rfl)) (by rfl) ?_)
      refine WL.yes (by rfl) (Ex.q (q_assign (by rfl)) (by rfl) ?_)
      refine WL.nil ?_
      refine Kloop.nextP (k + 1, s2, a1p, c1p, a2p, c2p) ?_ ?_ ⟨same (by rw [← w64_nat (k := k) (by omega)]; rfl), same rfl, trivial⟩ ⟨same rfl, same rfl, trivial⟩ (.cons (s := 1060) rfl (CLe.refl _ _) rfl (.cons (s := 1051) rfl (CLe.refl _ _) rfl (.cons (s := 1052) rfl (CLe.refl _ _) rfl (.cons (s := 3060) rfl (CLe.refl _ _) rfl (.cons (s := 3051) rfl (CLe.refl _ _) rfl (.cons (s := 3052) rfl (CLe.refl _ _) rfl .nil))))))
      · (exact ⟨by (try dsimp only); omega, hcut⟩)
      · ((try dsimp only) <;> omega)
    · skip
      (first | have e25 := of_decide_eq_true c25 | have e25 := of_decide_eq_false c25 | have e25 := ndec_t c25 | have e25 := ndec_f c25 | skip)
      (repeat refine J.seq ?_)
      refine J.exit ?_
      (repeat refine J.seq ?_)
      refine J.region ?_
      refine WL.yes (by rfl) (Ex.callL (live20_spec) (by rfl) (by rfl) .nil ?_)
      rintro _ _ ⟨rfl, rfl⟩
      refine WL.yes (by rfl) (Ex.q (q_assign (by rfl)) (by rfl) ?_)
      refine WL.nil ?_
      (repeat refine J.seq ?_)
      refine J.ret ?_
      (repeat (with_reducible first | refine Kseq.ret ?_ | refine Kblock.ret ?_ | refine Kloop.ret ?_ | refine Kcut.ret ?_))
      refine Kret.mk [] (.tmp (by rfl) (.nil)) (by rfl) trivial (HLe.nil _ _) ?_
      exact ⟨rfl, rfl⟩

end Go.Vm
