/- slices.Collect, slices.SortedFunc over maps.Keys; the tables' list. -/
import Derived.Test.YtimkkhefemnkpaaS2
namespace Go.Vm
open Go Go.Proofs

theorem tags_of {H : List (Nat × Cell)} {t : Nat} {c : Cell} (h : get t H = some c) : (H.map (·.1)).contains t = true := by
  induction H with
  | nil => simp [get] at h
  | cons x r ih =>
    rw [get_cons] at h
    split at h
    · rename_i e; simp [e]
    · have := ih h
      simp only [List.map_cons, List.contains_cons, Bool.or_eq_true]
      exact .inr this

abbrev tblKV (T : List En) : List (Pr × En) := T.map fun e => (e.p, e)
/-- A table: its entries in order. -/
abbrev tbl (b : Nat) (T : List En) : Cell := mpc b prE enE (tblKV T)

structure TOk (T : List En) : Prop where
  ok : ∀ e ∈ T, e.ok
  srt : T.Pairwise fun x y => cmpR x.p y.p < 0

theorem TOk.nil : TOk [] := ⟨by simp, .nil⟩

theorem cmpR_self (p : Pr) : cmpR p p = 0 := by have := cmpR_ord.anti p p; omega

theorem TOk.keys {T : List En} (h : TOk T) : KOk Pr.ok (tblKV T) := by
  refine ⟨fun x hx => ?_, ?_⟩
  · obtain ⟨e, he, rfl⟩ := List.mem_map.1 hx
    exact (h.ok e he).1
  · have : (tblKV T).map (·.1) = T.map (·.p) := by simp [tblKV]
    rw [this, List.nodup_iff_pairwise_ne, List.pairwise_map]
    refine h.srt.imp fun {x y} hxy e => ?_
    rw [e, cmpR_self] at hxy
    omega

/-- Keys that are a sorted permutation of a table's keys are the table's keys in order. -/
theorem sorted_keys {T : List En} (h : TOk T) {ks : List Pr} (hp : ks.Perm ((tblKV T).map (·.1))) (hs : SortedK ks) : ks = T.map (·.p) := by
  have e : (tblKV T).map (·.1) = T.map (·.p) := by simp [tblKV]
  rw [e] at hp
  have hs2 : (T.map (·.p)).Pairwise fun p q => cmpR p q < 0 := by rw [List.pairwise_map]; exact h.srt
  refine List.Perm.eq_of_pairwise (le := fun p q => ¬ cmpR q p < 0) ?_ hs ?_ hp
  · intro a b ha hb h1 h2
    have ka : a.ok := by
      obtain ⟨x, hx, rfl⟩ := List.mem_map.1 (hp.mem_iff.1 ha)
      exact (h.ok x hx).1
    have kb : b.ok := by
      obtain ⟨x, hx, rfl⟩ := List.mem_map.1 hb
      exact (h.ok x hx).1
    have := cmpR_ord.anti a b
    exact cmpR_zero ka kb (by omega)
  · refine hs2.imp fun {p q} hpq => ?_
    have := cmpR_ord.anti p q
    omega

theorem lat_mem {α : Type} [Inhabited α] {T : List α} {k : Nat} (h : k < T.length) : lat T k ∈ T := by
  simp only [lat, List.getD_eq_getElem?_getD, List.getElem?_eq_getElem h, Option.getD_some]
  exact List.getElem_mem h
theorem lat_map {α β : Type} [Inhabited α] [Inhabited β] {T : List α} {f : α → β} {k : Nat} (h : k < T.length) : lat (T.map f) k = f (lat T k) := by
  simp [lat, List.getD, h]
theorem take_succ_lat {α : Type} [Inhabited α] {T : List α} {k : Nat} (h : k < T.length) : T.take (k + 1) = T.take k ++ [lat T k] := by
  rw [List.take_add_one, List.getElem?_eq_getElem h]
  simp [lat, List.getD, h]

theorem alook_tbl {T : List En} (h : TOk T) {e : En} (he : e ∈ T) : alook e.p (tblKV T) = some e := (alook_mem h.keys.2).2 (List.mem_map.2 ⟨e, he, rfl⟩)

set_option maxRecDepth 100000 in
theorem collect_spec {g : FuncId} [Ent Try.prog g] {q : Nat} {c1 c2 : Cell} {S : List Pr → Prop} (it : Iter Try.prog g (.ptr 50 q 0) [(50, c1), (51, c2)] prE S) (hS : ∀ ss, S ss → ss.length ≤ 1000000000) :
    Spec Try.prog 87 [.fn (.func g) (.ptr 50 q 0)] [(50, c1), (51, c2)] (fun r H' => ∃ ss a cap, S ss ∧ r = .sl 103 a 34 0 cap ss.length ∧ H' = [(50, c1), (51, c2), (103, lvec a 35 34 cap prE ss)]) := by
  refine Spec.of_J Try.func87 rfl Try.ntmps87 Try.results87 rfl ?_
  intro A F hAF
  (repeat refine J.seq ?_)
  refine J.region ?_
  refine WL.yes (by rfl) (Ex.q (q_assign (by rfl)) (by rfl) ?_)
  refine WL.nil ?_
  (repeat refine J.seq ?_)
  refine J.region ?_
  refine WL.yes (by rfl) (Ex.q (q_move (by rfl)) (by rfl) ?_)
  refine WL.yes (by rfl) (Ex.call [.sl 0 none 0 0 0 0, .fn (.func g) (.ptr 50 q 0)] [(50, c1), (51, c2)] [50, 51] (appendSeq_spec (by rfl) it hS) (by rfl) (by rfl) rfl (fun _ h => h) (fun t c hg => ⟨tags_of hg, hg⟩) ?_)
  rintro _ _ ⟨ss, a, cap, hSs, rfl, rfl⟩
  refine WL.yes (by rfl) (Ex.q (q_assign (by rfl)) (by rfl) ?_)
  refine WL.nil ?_
  (repeat refine J.seq ?_)
  refine J.ret ?_
  (repeat (with_reducible first | refine Kseq.ret ?_ | refine Kblock.ret ?_ | refine Kloop.ret ?_))
  exact Kret.mk [(50, c1), (51, c2), (103, lvec a 35 34 cap prE ss)] (.tmp (by rfl) .nil) (by rfl) trivial (HLe.refl _ _) ⟨ss, a, cap, hSs, rfl, rfl⟩

set_option maxRecDepth 100000 in
theorem sortedFunc_spec {g : FuncId} [Ent Try.prog g] {q : Nat} {c1 c2 : Cell} {S : List Pr → Prop} (it : Iter Try.prog g (.ptr 50 q 0) [(50, c1), (51, c2)] prE S) (hS : ∀ ss, S ss → ss.length ≤ 1000000000) :
    Spec Try.prog 79 [.fn (.func g) (.ptr 50 q 0), .fn (.func 48) .unit] [(50, c1), (51, c2)] (fun r H' => ∃ ss ks a cap, S ss ∧ ks.Perm ss ∧ SortedK ks ∧ r = .sl 103 a 34 0 cap ks.length ∧ H' = [(50, c1), (51, c2), (103, lvec a 35 34 cap prE ks)]) := by
  refine Spec.of_J Try.func79 rfl Try.ntmps79 Try.results79 rfl ?_
  intro A F hAF
  (repeat refine J.seq ?_)
  refine J.region ?_
  refine WL.yes (by rfl) (Ex.q (q_assign (by rfl)) (by rfl) ?_)
  refine WL.nil ?_
  (repeat refine J.seq ?_)
  refine J.region ?_
  refine WL.yes (by rfl) (Ex.q (q_move (by rfl)) (by rfl) ?_)
  refine WL.yes (by rfl) (Ex.call [.fn (.func g) (.ptr 50 q 0)] [(50, c1), (51, c2)] [50, 51] (collect_spec it hS) (by rfl) (by rfl) rfl (fun _ h => h) (fun t c hg => ⟨tags_of hg, hg⟩) ?_)
  rintro _ _ ⟨ss, a, cap, hSs, rfl, rfl⟩
  refine WL.yes (by rfl) (Ex.q (q_assign (by rfl)) (by rfl) ?_)
  refine WL.nil ?_
  (repeat refine J.seq ?_)
  refine J.region ?_
  refine WL.yes (by rfl) (Ex.q (q_move (by rfl)) (by rfl) ?_)
  refine WL.yes (by rfl) (Ex.q (q_move (by rfl)) (by rfl) ?_)
  refine WL.yes (by rfl) (Ex.call [.sl 103 a 34 0 cap ss.length, .fn (.func 48) .unit] [(103, lvec a 35 34 cap prE ss)] [103] (sort_spec 103 a cap ss (by have := hS ss hSs; omega)) (by rfl) (by rfl) rfl (fun _ h => h) (fun t c hg => ⟨tags_of hg, by obtain ⟨rfl, rfl⟩ := get1 hg; rfl⟩) ?_)
  rintro _ _ ⟨rfl, ks, hp, hs, rfl⟩
  refine WL.nil ?_
  (repeat refine J.seq ?_)
  refine J.region ?_
  refine WL.yes (by rfl) (Ex.q (q_move (by rfl)) (by rfl) ?_)
  refine WL.yes (by rfl) (Ex.q (q_assign (by rfl)) (by rfl) ?_)
  refine WL.nil ?_
  (repeat refine J.seq ?_)
  refine J.ret ?_
  (repeat (with_reducible first | refine Kseq.ret ?_ | refine Kblock.ret ?_ | refine Kloop.ret ?_))
  refine Kret.mk [(50, c1), (51, c2), (103, lvec a 35 34 cap prE ks)] (.tmp (by rfl) .nil) (by rfl) trivial (HLe.sub (.cons (s := 50) rfl (CLe.refl _ _) rfl (.cons (s := 51) rfl (CLe.refl _ _) rfl (.cons (s := 103) rfl (CLe.refl _ _) rfl .nil)))) ?_
  exact ⟨ss, ks, a, cap, hSs, hp, hs, by rw [hp.length_eq]; rfl, rfl⟩

set_option maxRecDepth 100000 in
theorem list57_spec (mb : Nat) {T : List En} (h : TOk T) (hn : T.length ≤ 1000000) : Spec Try.prog 57 [.map 51 (some mb)] [(51, tbl mb T)] (fun r H' => ∃ a cap, r = .sl 104 a 51 0 cap T.length ∧ H' = [(51, tbl mb T), (104, lvec a 37 51 cap enE T)]) := by
  refine Spec.of_J Try.func57 rfl Try.ntmps57 Try.results57 rfl ?_
  intro A F hAF
  (repeat refine J.seq ?_)
  refine J.region ?_
  refine WL.yes (by rfl) (Ex.q (q_assign (by rfl)) (by rfl) ?_)
  refine WL.nil ?_
  (repeat refine J.seq ?_)
  refine J.region ?_
  refine WL.yes (by rfl) (Ex.q (q_move (by rfl)) (by rfl) ?_)
  refine WL.yes (by rfl) (Ex.call [.map 51 (some mb)] [] [] (keys80_spec 51 mb) (by rfl) (by rfl) rfl (fun _ h => h) (fun t c hg => by simp [get] at hg) ?_)
  rintro _ _ ⟨q, rfl, rfl⟩
  refine WL.yes (by rfl) (Ex.call [.fn (.func 89) (.ptr 50 q 0), .fn (.func 48) .unit] [(50, .box q 91 (.map 51 (some mb))), (51, tbl mb T)] [50, 51] (sortedFunc_spec (iter89_spec q mb enE (tblKV T)) (fun ss hss => by have := hss.length_eq; simp only [List.length_map] at this; omega)) (by rfl) (by rfl) rfl (fun _ h => h) (fun t c hg => ⟨tags_of hg, by rcases get2 hg with ⟨rfl, rfl⟩ | ⟨rfl, rfl⟩ <;> rfl⟩) ?_)
  rintro _ _ ⟨ss, ks, a, cap, hSs, hp, hs, rfl, rfl⟩
  have hks := sorted_keys h (hp.trans hSs) hs
  subst hks
  first | (refine WL.yes (by rfl) (Ex.q (q_len_slice (by rfl) (by rfl)) (by rfl) ?_)) | (refine WL.yes (by rfl) (Ex.q (q_len_string (by rfl)) (by rfl) ?_))
  refine WL.yes (by rfl) (Ex.q (q_move (by rfl)) (by rfl) ?_)
  refine WL.nil ?_
  (repeat refine J.seq ?_)
  refine J.block ?_
  (repeat refine J.seq ?_)
  refine J.loop (fun x : Nat × Option Nat × Nat => x.1 ≤ T.length) (fun x => ⟨[(0, .map 51 (some mb)), (2, .sl 2 x.2.1 51 0 x.2.2 (T.take x.1).length), (7, .sl 103 a 34 0 cap (T.map (·.p)).length), (8, iV (T.map (·.p)).length), (9, iV x.1)], [(51, tbl mb T), (103, lvec a 35 34 cap prE (T.map (·.p))), (2, lvec x.2.1 37 51 x.2.2 enE (T.take x.1))], []⟩) (fun x => T.length - x.1) (0, none, 0) ?_ ?_ ?_
  · exact Nat.zero_le _
  · exact Le.mk ⟨same rfl, ⟨_, rfl, rfl, fun _ => trivial⟩, same rfl, same rfl, same rfl, trivial⟩ (HLe.sub (.cons (s := 51) rfl (CLe.refl _ _) rfl (.cons (s := 103) rfl (CLe.refl _ _) rfl (.non .nil)))) rfl
  intro ⟨k, a1, cap1⟩ hk0
  (repeat refine J.seq ?_)
  refine J.region ?_
  refine WL.yes (by rfl) (Ex.q (q_int (by rfl) (by rfl) (by rfl)) (by rfl) ?_)
  refine WL.nil ?_
  (repeat refine J.seq ?_)
  refine J.cond (by rfl) (fun c10 => ?_) (fun c10 => ?_)
  · skip
    have hlt : k < T.length := by have := of_decide_eq_true c10; simpa using this
    refine J.vecsome (t := 103) rfl (by rw [List.length_map]; omega) ?_
    intro bk hbk
    subst hbk
    have hmem : lat T k ∈ T := lat_mem hlt
    have hkey : lat (T.map (·.p)) (0 + ((k : Nat) : Int).toNat) = (lat T k).p := by rw [show 0 + ((k : Nat) : Int).toNat = k by omega]; exact lat_map hlt
    have hko : Pr.ok (lat (T.map (·.p)) (0 + ((k : Nat) : Int).toNat)) := hkey ▸ (h.ok _ hmem).1
    have hlk : (alook (lat (T.map (·.p)) (0 + ((k : Nat) : Int).toNat)) (tblKV T)).getD default = lat T k := by rw [hkey, alook_tbl h hmem]; rfl
    have e1 : T.take k ++ [(alook (lat (T.map (·.p)) (0 + ((k : Nat) : Int).toNat)) (tblKV T)).getD default] = T.take (k + 1) := by rw [hlk]; exact (take_succ_lat hlt).symm
    (repeat refine J.seq ?_)
    refine J.skip ?_
    (repeat refine J.seq ?_)
    refine J.block ?_
    (repeat refine J.seq ?_)
    refine J.region ?_
    first | (refine WL.yes (by rfl) (Ex.q (q_indexAddr_ros (by rfl) (by rfl) (by intro _; rfl) ?_ ?_) (by rfl) ?_); (· omega); (· (rw [List.length_map]; omega))) | (refine WL.yes (by rfl) (Ex.q (q_indexAddr_sl (by rfl) (by rfl) ?_ ?_) (by rfl) ?_); (· omega); (· (rw [List.length_map]; omega))) | (refine WL.yes (by rfl) (Ex.q (q_indexAddr_arr (by rfl) (by rfl) ?_ ?_) (by rfl) ?_); (· omega); (· (rw [List.length_map]; omega)))
    first | (refine WL.yes (by rfl) (Ex.h (h_load (by rfl) (by rfl) (by rfl)) (by rfl) ?_)) | (refine WL.yes (by rfl) (Ex.q (q_load (by rfl) (by rfl) (by rfl)) (by rfl) ?_)) | (refine WL.yes (by rfl) (Ex.q (q_load_rop (by rfl) (by rfl)) (by rfl) ?_)) | (refine WL.yes (by rfl) (Ex.h (h_load_pel (by rfl) (by rfl) ?_ (by rfl)) (by rfl) ?_); (· (rw [List.length_map]; omega))) | (refine WL.yes (by rfl) (Ex.q (q_load_pel (by rfl) (by rfl) ?_ (by rfl)) (by rfl) ?_); (· (rw [List.length_map]; omega)))
    refine WL.yes (by rfl) (Ex.alloc (by rfl) ?_)
    intro b4
    first | (refine WL.yes (by rfl) (Ex.store (by rfl) (by rfl) (by rfl) (by rfl) (by rfl) (by rfl) ?_)) | (refine WL.yes (by rfl) (Ex.store_pel (by rfl) (by rfl) (by rfl) (by rfl) (by rfl) ?_ (by rfl) ?_); (· omega))
    refine WL.nil ?_
    (repeat refine J.seq ?_)
    refine J.region ?_
    refine WL.yes (by rfl) (Ex.q (q_move (by rfl)) (by rfl) ?_)
    refine WL.yes (by rfl) (Ex.q (q_move (by rfl)) (by rfl) ?_)
    first | (refine WL.yes (by rfl) (Ex.h (h_load (by rfl) (by rfl) (by rfl)) (by rfl) ?_)) | (refine WL.yes (by rfl) (Ex.q (q_load (by rfl) (by rfl) (by rfl)) (by rfl) ?_)) | (refine WL.yes (by rfl) (Ex.q (q_load_rop (by rfl) (by rfl)) (by rfl) ?_)) | (refine WL.yes (by rfl) (Ex.h (h_load_pel (by rfl) (by rfl) ?_ (by rfl)) (by rfl) ?_); (· omega)) | (refine WL.yes (by rfl) (Ex.q (q_load_pel (by rfl) (by rfl) ?_ (by rfl)) (by rfl) ?_); (· omega))
    refine WL.yes (by rfl) (Ex.h (h_lookup (e := prE) (f := enE) (L := tblKV T) (k := lat (T.map (·.p)) (0 + ((k : Nat) : Int).toNat)) rfl (by rfl) (by rfl) (by rfl) h.keys hko) (by rfl) ?_)
    refine WL.yes (by rfl) (Ex.buildSlice (parts := [(0, .tmp 16)]) (us := [_]) (by rfl) (by rfl) rfl (by rfl) (by rfl) ?_)
    intro b17
    refine WL.yes (by rfl) (Ex.append (e := enE) (l := T.take k) (l' := [(alook (lat (T.map (·.p)) (0 + ((k : Nat) : Int).toNat)) (tblKV T)).getD default]) (by rfl) (by rfl) (by rfl) (by rfl) (Rd.lit [_] rfl rfl rfl) (by simp only [List.length_take, List.length_singleton]; omega) ?_)
    intro a2 cap2
    refine WL.yes (by rfl) (Ex.q (q_assign (by rfl)) (by rfl) ?_)
    refine WL.nil ?_
    (repeat refine J.seq ?_)
    refine J.region ?_
    refine WL.yes (by rfl) (Ex.q (q_int (by rfl) (by rfl) (by rfl)) (by rfl) ?_)
    refine WL.yes (by rfl) (Ex.q (q_move (by rfl)) (by rfl) ?_)
    refine WL.nil ?_
    refine Kloop.next (k + 1, a2, cap2) (show k + 1 ≤ T.length by omega) (show T.length - (k + 1) < T.length - k by omega) (Le.mk ⟨same rfl, ⟨_, rfl, by rw [e1]; cases a2 <;> rfl, fun _ => trivial⟩, same rfl, same rfl, same (by rw [← w64_nat (k := k) (by omega)]; rfl), trivial⟩ (HLe.sub (.cons (s := 51) rfl (CLe.refl _ _) rfl (.cons (s := 103) rfl (CLe.refl _ _) rfl (.cons (s := 18) rfl (by rw [e1]; exact CLe.refl _ _) rfl .nil)))) rfl)
  · skip
    have he : k = T.length := by have h9 := of_decide_eq_false c10; simp only [List.length_map] at h9; have := hk0; simp only at this; omega
    subst he
    (repeat refine J.seq ?_)
    refine J.exit ?_
    (repeat refine J.seq ?_)
    refine J.region ?_
    refine WL.yes (by rfl) (Ex.q (q_move (by rfl)) (by rfl) ?_)
    refine WL.yes (by rfl) (Ex.q (q_assign (by rfl)) (by rfl) ?_)
    refine WL.nil ?_
    (repeat refine J.seq ?_)
    refine J.ret ?_
    (repeat (with_reducible first | refine Kseq.ret ?_ | refine Kblock.ret ?_ | refine Kloop.ret ?_))
    refine Kret.mk2 (vs := [.sl 2 a1 51 0 cap1 (T.take T.length).length]) (.sl 104 a1 51 0 cap1 T.length) [(51, tbl mb T), (104, lvec a1 37 51 cap1 enE T)] (.tmp (by rfl) .nil) (by rfl) trivial (by rw [List.take_length]; cases a1 <;> rfl) (fun _ _ => trivial) (HLe.sub (.cons (s := 51) rfl (CLe.refl _ _) rfl (.cons (s := 2) rfl (by rw [List.take_length]; exact CLe.refl _ _) rfl .nil))) ⟨a1, cap1, rfl, rfl⟩

set_option maxRecDepth 100000 in
theorem list61_spec (mb : Nat) {T : List En} (h : TOk T) (hn : T.length ≤ 1000000) : Spec Try.prog 61 [.map 51 (some mb)] [(51, tbl mb T)] (fun r H' => ∃ a cap, r = .sl 104 a 51 0 cap T.length ∧ H' = [(51, tbl mb T), (104, lvec a 37 51 cap enE T)]) := by
  refine Spec.of_J Try.func61 rfl Try.ntmps61 Try.results61 rfl ?_
  intro A F hAF
  (repeat refine J.seq ?_)
  refine J.region ?_
  refine WL.yes (by rfl) (Ex.q (q_assign (by rfl)) (by rfl) ?_)
  refine WL.nil ?_
  (repeat refine J.seq ?_)
  refine J.region ?_
  refine WL.yes (by rfl) (Ex.q (q_move (by rfl)) (by rfl) ?_)
  refine WL.yes (by rfl) (Ex.call [.map 51 (some mb)] [] [] (keys82_spec 51 mb) (by rfl) (by rfl) rfl (fun _ h => h) (fun t c hg => by simp [get] at hg) ?_)
  rintro _ _ ⟨q, rfl, rfl⟩
  refine WL.yes (by rfl) (Ex.call [.fn (.func 90) (.ptr 50 q 0), .fn (.func 48) .unit] [(50, .box q 97 (.map 51 (some mb))), (51, tbl mb T)] [50, 51] (sortedFunc_spec (iter90_spec q mb enE (tblKV T)) (fun ss hss => by have := hss.length_eq; simp only [List.length_map] at this; omega)) (by rfl) (by rfl) rfl (fun _ h => h) (fun t c hg => ⟨tags_of hg, by rcases get2 hg with ⟨rfl, rfl⟩ | ⟨rfl, rfl⟩ <;> rfl⟩) ?_)
  rintro _ _ ⟨ss, ks, a, cap, hSs, hp, hs, rfl, rfl⟩
  have hks := sorted_keys h (hp.trans hSs) hs
  subst hks
  first | (refine WL.yes (by rfl) (Ex.q (q_len_slice (by rfl) (by rfl)) (by rfl) ?_)) | (refine WL.yes (by rfl) (Ex.q (q_len_string (by rfl)) (by rfl) ?_))
  refine WL.yes (by rfl) (Ex.q (q_move (by rfl)) (by rfl) ?_)
  refine WL.nil ?_
  (repeat refine J.seq ?_)
  refine J.block ?_
  (repeat refine J.seq ?_)
  refine J.loop (fun x : Nat × Option Nat × Nat => x.1 ≤ T.length) (fun x => ⟨[(0, .map 51 (some mb)), (2, .sl 2 x.2.1 51 0 x.2.2 (T.take x.1).length), (7, .sl 103 a 34 0 cap (T.map (·.p)).length), (8, iV (T.map (·.p)).length), (9, iV x.1)], [(51, tbl mb T), (103, lvec a 35 34 cap prE (T.map (·.p))), (2, lvec x.2.1 37 51 x.2.2 enE (T.take x.1))], []⟩) (fun x => T.length - x.1) (0, none, 0) ?_ ?_ ?_
  · exact Nat.zero_le _
  · exact Le.mk ⟨same rfl, ⟨_, rfl, rfl, fun _ => trivial⟩, same rfl, same rfl, same rfl, trivial⟩ (HLe.sub (.cons (s := 51) rfl (CLe.refl _ _) rfl (.cons (s := 103) rfl (CLe.refl _ _) rfl (.non .nil)))) rfl
  intro ⟨k, a1, cap1⟩ hk0
  (repeat refine J.seq ?_)
  refine J.region ?_
  refine WL.yes (by rfl) (Ex.q (q_int (by rfl) (by rfl) (by rfl)) (by rfl) ?_)
  refine WL.nil ?_
  (repeat refine J.seq ?_)
  refine J.cond (by rfl) (fun c10 => ?_) (fun c10 => ?_)
  · skip
    have hlt : k < T.length := by have := of_decide_eq_true c10; simpa using this
    refine J.vecsome (t := 103) rfl (by rw [List.length_map]; omega) ?_
    intro bk hbk
    subst hbk
    have hmem : lat T k ∈ T := lat_mem hlt
    have hkey : lat (T.map (·.p)) (0 + ((k : Nat) : Int).toNat) = (lat T k).p := by rw [show 0 + ((k : Nat) : Int).toNat = k by omega]; exact lat_map hlt
    have hko : Pr.ok (lat (T.map (·.p)) (0 + ((k : Nat) : Int).toNat)) := hkey ▸ (h.ok _ hmem).1
    have hlk : (alook (lat (T.map (·.p)) (0 + ((k : Nat) : Int).toNat)) (tblKV T)).getD default = lat T k := by rw [hkey, alook_tbl h hmem]; rfl
    have e1 : T.take k ++ [(alook (lat (T.map (·.p)) (0 + ((k : Nat) : Int).toNat)) (tblKV T)).getD default] = T.take (k + 1) := by rw [hlk]; exact (take_succ_lat hlt).symm
    (repeat refine J.seq ?_)
    refine J.skip ?_
    (repeat refine J.seq ?_)
    refine J.block ?_
    (repeat refine J.seq ?_)
    refine J.region ?_
    first | (refine WL.yes (by rfl) (Ex.q (q_indexAddr_ros (by rfl) (by rfl) (by intro _; rfl) ?_ ?_) (by rfl) ?_); (· omega); (· (rw [List.length_map]; omega))) | (refine WL.yes (by rfl) (Ex.q (q_indexAddr_sl (by rfl) (by rfl) ?_ ?_) (by rfl) ?_); (· omega); (· (rw [List.length_map]; omega))) | (refine WL.yes (by rfl) (Ex.q (q_indexAddr_arr (by rfl) (by rfl) ?_ ?_) (by rfl) ?_); (· omega); (· (rw [List.length_map]; omega)))
    first | (refine WL.yes (by rfl) (Ex.h (h_load (by rfl) (by rfl) (by rfl)) (by rfl) ?_)) | (refine WL.yes (by rfl) (Ex.q (q_load (by rfl) (by rfl) (by rfl)) (by rfl) ?_)) | (refine WL.yes (by rfl) (Ex.q (q_load_rop (by rfl) (by rfl)) (by rfl) ?_)) | (refine WL.yes (by rfl) (Ex.h (h_load_pel (by rfl) (by rfl) ?_ (by rfl)) (by rfl) ?_); (· (rw [List.length_map]; omega))) | (refine WL.yes (by rfl) (Ex.q (q_load_pel (by rfl) (by rfl) ?_ (by rfl)) (by rfl) ?_); (· (rw [List.length_map]; omega)))
    refine WL.yes (by rfl) (Ex.alloc (by rfl) ?_)
    intro b4
    first | (refine WL.yes (by rfl) (Ex.store (by rfl) (by rfl) (by rfl) (by rfl) (by rfl) (by rfl) ?_)) | (refine WL.yes (by rfl) (Ex.store_pel (by rfl) (by rfl) (by rfl) (by rfl) (by rfl) ?_ (by rfl) ?_); (· omega))
    refine WL.nil ?_
    (repeat refine J.seq ?_)
    refine J.region ?_
    refine WL.yes (by rfl) (Ex.q (q_move (by rfl)) (by rfl) ?_)
    refine WL.yes (by rfl) (Ex.q (q_move (by rfl)) (by rfl) ?_)
    first | (refine WL.yes (by rfl) (Ex.h (h_load (by rfl) (by rfl) (by rfl)) (by rfl) ?_)) | (refine WL.yes (by rfl) (Ex.q (q_load (by rfl) (by rfl) (by rfl)) (by rfl) ?_)) | (refine WL.yes (by rfl) (Ex.q (q_load_rop (by rfl) (by rfl)) (by rfl) ?_)) | (refine WL.yes (by rfl) (Ex.h (h_load_pel (by rfl) (by rfl) ?_ (by rfl)) (by rfl) ?_); (· omega)) | (refine WL.yes (by rfl) (Ex.q (q_load_pel (by rfl) (by rfl) ?_ (by rfl)) (by rfl) ?_); (· omega))
    refine WL.yes (by rfl) (Ex.h (h_lookup (e := prE) (f := enE) (L := tblKV T) (k := lat (T.map (·.p)) (0 + ((k : Nat) : Int).toNat)) rfl (by rfl) (by rfl) (by rfl) h.keys hko) (by rfl) ?_)
    refine WL.yes (by rfl) (Ex.buildSlice (parts := [(0, .tmp 16)]) (us := [_]) (by rfl) (by rfl) rfl (by rfl) (by rfl) ?_)
    intro b17
    refine WL.yes (by rfl) (Ex.append (e := enE) (l := T.take k) (l' := [(alook (lat (T.map (·.p)) (0 + ((k : Nat) : Int).toNat)) (tblKV T)).getD default]) (by rfl) (by rfl) (by rfl) (by rfl) (Rd.lit [_] rfl rfl rfl) (by simp only [List.length_take, List.length_singleton]; omega) ?_)
    intro a2 cap2
    refine WL.yes (by rfl) (Ex.q (q_assign (by rfl)) (by rfl) ?_)
    refine WL.nil ?_
    (repeat refine J.seq ?_)
    refine J.region ?_
    refine WL.yes (by rfl) (Ex.q (q_int (by rfl) (by rfl) (by rfl)) (by rfl) ?_)
    refine WL.yes (by rfl) (Ex.q (q_move (by rfl)) (by rfl) ?_)
    refine WL.nil ?_
    refine Kloop.next (k + 1, a2, cap2) (show k + 1 ≤ T.length by omega) (show T.length - (k + 1) < T.length - k by omega) (Le.mk ⟨same rfl, ⟨_, rfl, by rw [e1]; cases a2 <;> rfl, fun _ => trivial⟩, same rfl, same rfl, same (by rw [← w64_nat (k := k) (by omega)]; rfl), trivial⟩ (HLe.sub (.cons (s := 51) rfl (CLe.refl _ _) rfl (.cons (s := 103) rfl (CLe.refl _ _) rfl (.cons (s := 18) rfl (by rw [e1]; exact CLe.refl _ _) rfl .nil)))) rfl)
  · skip
    have he : k = T.length := by have h9 := of_decide_eq_false c10; simp only [List.length_map] at h9; have := hk0; simp only at this; omega
    subst he
    (repeat refine J.seq ?_)
    refine J.exit ?_
    (repeat refine J.seq ?_)
    refine J.region ?_
    refine WL.yes (by rfl) (Ex.q (q_move (by rfl)) (by rfl) ?_)
    refine WL.yes (by rfl) (Ex.q (q_assign (by rfl)) (by rfl) ?_)
    refine WL.nil ?_
    (repeat refine J.seq ?_)
    refine J.ret ?_
    (repeat (with_reducible first | refine Kseq.ret ?_ | refine Kblock.ret ?_ | refine Kloop.ret ?_))
    refine Kret.mk2 (vs := [.sl 2 a1 51 0 cap1 (T.take T.length).length]) (.sl 104 a1 51 0 cap1 T.length) [(51, tbl mb T), (104, lvec a1 37 51 cap1 enE T)] (.tmp (by rfl) .nil) (by rfl) trivial (by rw [List.take_length]; cases a1 <;> rfl) (fun _ _ => trivial) (HLe.sub (.cons (s := 51) rfl (CLe.refl _ _) rfl (.cons (s := 2) rfl (by rw [List.take_length]; exact CLe.refl _ _) rfl .nil))) ⟨a1, cap1, rfl, rfl⟩

end Go.Vm
