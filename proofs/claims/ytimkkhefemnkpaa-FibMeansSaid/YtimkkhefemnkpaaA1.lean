/- Facts on the types and functions of the program. -/
import Derived.Test.YtimkkhefemnkpaaTyA
import Derived.Test.YtimkkhefemnkpaaVm9
import Derived.Test.YtimkkhefemnkpaaProg
namespace Go.Vm
open Go Go.Proofs

abbrev adV (a : List Int) : V := .bytes 16 a

def keepN (n : Int) (i : Nat) : Int := min (max (n - 8 * i) 0) 8
def mbyte (x n : Int) (i : Nat) : Int :=
  IntKind.u8.wrap ((BitVec.ofInt 8 x &&& BitVec.ofInt 8 (IntKind.u8.wrap ((65280 : Int).fdiv (2 ^ (min (keepN n i).toNat 16))))).toNat)
/-- the first k bytes masked -/
def mk1 (a : List Int) (n : Int) (k : Nat) : List Int := (List.range 16).map fun i => if i < k then mbyte (a.getD i 0) n i else a.getD i 0

theorem mk1_zero (a : List Int) (n : Int) : bcells 16 (mk1 a n 0) = bcells 16 a := by
  unfold bcells
  apply List.map_congr_left
  intro i hi
  simp [mk1, List.getD, List.mem_range.1 hi]

theorem mk1_succ (a : List Int) (n : Int) (k : Nat) (h : k < 16) : padset 16 (mk1 a n k) k (mbyte ((mk1 a n k).getD k 0) n k) = mk1 a n (k + 1) := by
  unfold padset mk1
  apply List.map_congr_left
  intro i hi
  have hi' := List.mem_range.1 hi
  by_cases e : i = k
  · subst e
    simp [List.getD, h]
  · rw [if_neg e]
    simp only [List.getD, List.getElem?_map, List.getElem?_range hi', Option.map_some, Option.getD_some]
    by_cases h1 : i < k
    · rw [if_pos h1, if_pos (by omega)]
    · rw [if_neg h1, if_neg (by omega)]

set_option maxRecDepth 100000 in
theorem masked_spec (a : List Int) (n : Int) (hn : -1000 ≤ n ∧ n ≤ 1000) : SpecQ Try.prog 71 [adV a, .int .i64 n] (adV (mk1 a n 16)) := by
  refine Spec.of_J Try.func71 rfl Try.ntmps71 Try.results71 rfl ?_
  intro A F hAF
  (repeat refine J.seq ?_)
  refine J.region ?_
  refine WL.yes (by rfl) (Ex.box (by rfl) (by rfl) (by rfl) ?_)
  intro b2
  refine WL.yes (by rfl) (Ex.alloc (by rfl) ?_)
  intro b4
  refine WL.nil ?_
  (repeat refine J.seq ?_)
  refine J.region ?_
  refine WL.yes (by rfl) (Ex.q (q_move (by rfl)) (by rfl) ?_)
  refine WL.nil ?_
  (repeat refine J.seq ?_)
  refine J.block ?_
  (repeat refine J.seq ?_)
  refine J.loop (fun k : Nat => k ≤ 16) (fun k => ⟨[(1, .int .i64 n), (2, .ptr 2 b2 0), (4, .ptr 4 b4 0), (7, .int .i64 k)], [(2, .box b2 31 (adV (mk1 a n k))), (4, .box b4 31 (.bytes 16 (List.replicate 16 0)))], []⟩) (fun k => 16 - k) 0 ?_ ?_ ?_
  · omega
  · exact Le.mk ⟨same rfl, same rfl, same rfl, same rfl, trivial⟩ (HLe.sub (.cons (s := 2) rfl (CLe.bytes (mk1_zero a n)) rfl (.cons (s := 4) rfl (CLe.refl _ _) rfl .nil))) rfl
  intro k hk
  (repeat refine J.seq ?_)
  refine J.region ?_
  refine WL.yes (by rfl) (Ex.q (q_int (by rfl) (by rfl) (by rfl)) (by rfl) ?_)
  refine WL.nil ?_
  (repeat refine J.seq ?_)
  refine J.cond (by rfl) (fun c8 => ?_) (fun c8 => ?_)
  · skip
    have hlt : k < 16 := by have := of_decide_eq_true c8; omega
    (repeat refine J.seq ?_)
    refine J.skip ?_
    (repeat refine J.seq ?_)
    refine J.block ?_
    (repeat refine J.seq ?_)
    refine J.region ?_
    refine WL.yes (by rfl) (Ex.q (q_move (by rfl)) (by rfl) ?_)
    refine WL.yes (by rfl) (Ex.q (q_assign (by rfl)) (by rfl) ?_)
    refine WL.nil ?_
    (repeat refine J.seq ?_)
    refine J.region ?_
    refine WL.yes (by rfl) (Ex.q (q_move (by rfl)) (by rfl) ?_)
    refine WL.yes (by rfl) (Ex.q (q_move (by rfl)) (by rfl) ?_)
    refine WL.yes (by rfl) (Ex.q (q_int (by rfl) (by rfl) (by rfl)) (by rfl) ?_)
    refine WL.yes (by rfl) (Ex.q (q_int (by rfl) (by rfl) (by rfl)) (by rfl) ?_)
    refine WL.yes (by rfl) (Ex.q (q_max (by rfl)) (by rfl) ?_)
    refine WL.yes (by rfl) (Ex.q (q_min (by rfl)) (by rfl) ?_)
    refine WL.yes (by rfl) (Ex.q (q_assign (by rfl)) (by rfl) ?_)
    refine WL.nil ?_
    (repeat refine J.seq ?_)
    refine J.draw [2, 4] 8 [(0, true), (1, true), (2, true), (3, true), (4, true), (5, true), (6, true), (7, true), (8, false)] (by kernel_rfl) rfl (by kernel_rfl) ?_
    intro F1 hF1
    refine WS.take rfl (by rfl) (by rfl) (q_move (by rfl)) ?_
    first | (refine WS.take rfl (by rfl) (by rfl) (q_indexAddr_ros (by rfl) (by rfl) (by intro _; rfl) ?_ ?_) ?_; (· omega); (· omega)) | (refine WS.take rfl (by rfl) (by rfl) (q_indexAddr_sl (by rfl) (by rfl) ?_ ?_) ?_; (· omega); (· omega)) | (refine WS.take rfl (by rfl) (by rfl) (q_indexAddr_arr (by rfl) (by rfl) ?_ ?_) ?_; (· omega); (· omega))
    first | (refine WS.take rfl (by rfl) (by rfl) (q_load (by rfl) (by rfl) (at_byte (by omega))) ?_) | (refine WS.take rfl (by rfl) (by rfl) (q_load_rop (by rfl) (by rfl)) ?_) | (refine WS.take rfl (by rfl) (by rfl) (q_load_pel (by rfl) (by rfl) ?_ (by rfl)) ?_; (· omega))
    refine WS.take rfl (by rfl) (by rfl) (q_move (by rfl)) ?_
    refine WS.take rfl (by rfl) (by rfl) (q_shr (by rfl) (by rfl) ?_) ?_; (· omega)
    refine WS.take rfl (by rfl) (by rfl) (q_conv (by rfl)) ?_
    refine WS.take rfl (by rfl) (by rfl) (q_int (by rfl) (by rfl) (by rfl)) ?_
    first | (refine WS.take rfl (by rfl) (by rfl) (q_indexAddr_ros (by rfl) (by rfl) (by intro _; rfl) ?_ ?_) ?_; (· omega); (· omega)) | (refine WS.take rfl (by rfl) (by rfl) (q_indexAddr_sl (by rfl) (by rfl) ?_ ?_) ?_; (· omega); (· omega)) | (refine WS.take rfl (by rfl) (by rfl) (q_indexAddr_arr (by rfl) (by rfl) ?_ ?_) ?_; (· omega); (· omega))
    first | (refine WS.last rfl (by rfl) (by rfl) (Ex.store (by rfl) (by rfl) (by rfl) (by rfl) (by rfl) (upd_byte (by omega)) ?_)) | (refine WS.last rfl (by rfl) (by rfl) (Ex.store_pel (by rfl) (by rfl) (by rfl) (by rfl) (by rfl) ?_ (by rfl) ?_); (· omega))
    (repeat refine J.seq ?_)
    refine J.region ?_
    refine WL.yes (by rfl) (Ex.q (q_int (by rfl) (by rfl) (by rfl)) (by rfl) ?_)
    refine WL.yes (by rfl) (Ex.q (q_move (by rfl)) (by rfl) ?_)
    refine WL.nil ?_
    refine Kloop.next (k + 1) (by omega) (by omega) (Le.mk ⟨same rfl, same rfl, same rfl, same (by rw [← w64_nat (k := k) (by omega)]; rfl), trivial⟩ (HLe.sub (.cons (s := 2) rfl (CLe.box ?_) rfl (.cons (s := 4) rfl (CLe.refl _ _) rfl .nil))) rfl)
    simp only [Nat.zero_add, Nat.mul_one, Int.toNat_natCast]
    rw [w64 (x := 8 * (k : Int)) (by omega) (by omega), w64 (x := n - 8 * (k : Int)) (by omega) (by omega)]
    exact congrArg (V.bytes 16) (mk1_succ a n k hlt)
  · skip
    have he : k = 16 := by have := of_decide_eq_false c8; omega
    subst he
    (repeat refine J.seq ?_)
    refine J.exit ?_
    (repeat refine J.seq ?_)
    refine J.region ?_
    first | (refine WL.yes (by rfl) (Ex.h (h_load (by rfl) (by rfl) (by rfl)) (by rfl) ?_)) | (refine WL.yes (by rfl) (Ex.q (q_load (by rfl) (by rfl) (by rfl)) (by rfl) ?_)) | (refine WL.yes (by rfl) (Ex.q (q_load_rop (by rfl) (by rfl)) (by rfl) ?_)) | (refine WL.yes (by rfl) (Ex.h (h_load_pel (by rfl) (by rfl) ?_ (by rfl)) (by rfl) ?_); (· omega)) | (refine WL.yes (by rfl) (Ex.q (q_load_pel (by rfl) (by rfl) ?_ (by rfl)) (by rfl) ?_); (· omega))
    first | (refine WL.yes (by rfl) (Ex.store (by rfl) (by rfl) (by rfl) (by rfl) (by rfl) (by rfl) ?_)) | (refine WL.yes (by rfl) (Ex.store_pel (by rfl) (by rfl) (by rfl) (by rfl) (by rfl) ?_ (by rfl) ?_); (· omega))
    refine WL.nil ?_
    (repeat refine J.seq ?_)
    refine J.ret ?_
    (repeat (with_reducible first | refine Kseq.ret ?_ | refine Kblock.ret ?_ | refine Kloop.ret ?_))
    exact Kret.mk [] (.cell inferInstance (by rfl) (by rfl) (by rfl) .nil) (by rfl) trivial (HLe.nil _ _) ⟨rfl, rfl⟩
end Go.Vm
