/- The Fib: its state, plain. -/
import Derived.Test.YtimkkhefemnkpaaG3
namespace Go.Vm
open Go Go.Proofs

structure FS where
  H : List En
  W : List En
  F : List (Pr × Int)
  wo : Opn
  busy : Bool

abbrev waE (w : Pr × Int) : V := .pair (prE w.1) (iV w.2)
abbrev fV (b1 b2 b3 : Nat) (w : V) : V := .pair (.map 1051 (some b1)) (.pair (.map 1052 (some b2)) (.pair (.map 1053 (some b3)) w))
def wayV (b4 : Nat) (busy : Bool) : V := if busy then .ptr 1054 b4 0 else .nilp
def wayC (b4 : Nat) (busy : Bool) (wo : Opn) : Cell := if busy then .box b4 39 (opE wo) else .vec none 39 52 0 0 (fun _ => opE default)

theorem fold_step {α β : Type} [Inhabited α] {f : β → α → β} {b : β} {l : List α} {k : Nat} (h : k < l.length) : (l.take (k + 1)).foldl f b = f ((l.take k).foldl f b) (lat l k) := by
  rw [take_succ_lat h, List.foldl_append]; rfl
theorem take_all {α : Type} {l : List α} {k : Nat} (h : l.length ≤ k) : l.take k = l := List.take_of_length_le h

/-! ### what is to be done -/
def td1 (W : List En) (out : List Opn) (e : En) : List Opn := if has e.p W = true then out else out ++ [⟨3, e⟩]
def td2 (H : List En) (out : List Opn) (e : En) : List Opn := if has e.p H = false then out ++ [⟨1, e⟩] else if (tlook e.p H).getD default = e then out else out ++ [⟨2, e⟩]
def todoL (H W : List En) : List Opn := W.foldl (td2 H) (H.foldl (td1 W) [])

theorem td1_no {W : List En} {out : List Opn} {e : En} (h : has e.p W = true) : td1 W out e = out := if_pos h
theorem td1_yes {W : List En} {out : List Opn} {e : En} (h : has e.p W = false) : td1 W out e = out ++ [⟨3, e⟩] := if_neg (by simp [h])
theorem td2_add {H : List En} {out : List Opn} {e : En} (h : has e.p H = false) : td2 H out e = out ++ [⟨1, e⟩] := if_pos h
theorem td2_no {H : List En} {out : List Opn} {e : En} (h : has e.p H = true) (h2 : (tlook e.p H).getD default = e) : td2 H out e = out := by unfold td2; rw [if_neg (by simp [h]), if_pos h2]
theorem td2_chg {H : List En} {out : List Opn} {e : En} (h : has e.p H = true) (h2 : ¬ (tlook e.p H).getD default = e) : td2 H out e = out ++ [⟨2, e⟩] := by unfold td2; rw [if_neg (by simp [h]), if_neg h2]

theorem td1_len {W : List En} : ∀ (l : List En) (out : List Opn), (l.foldl (td1 W) out).length ≤ out.length + l.length
  | [], _ => by simp
  | e :: l, out => by
    have h1 := td1_len (W := W) l (td1 W out e)
    have h2 : (td1 W out e).length ≤ out.length + 1 := by unfold td1; split <;> simp
    simp only [List.foldl_cons, List.length_cons]; omega
theorem td2_len {H : List En} : ∀ (l : List En) (out : List Opn), (l.foldl (td2 H) out).length ≤ out.length + l.length
  | [], _ => by simp
  | e :: l, out => by
    have h1 := td2_len (H := H) l (td2 H out e)
    have h2 : (td2 H out e).length ≤ out.length + 1 := by unfold td2; split <;> (try split) <;> simp
    simp only [List.foldl_cons, List.length_cons]; omega
theorem todo_len (H W : List En) : (todoL H W).length ≤ H.length + W.length := by
  have h1 := td1_len (W := W) H []
  have h2 := td2_len (H := H) W (H.foldl (td1 W) [])
  unfold todoL
  simp at h1
  omega
theorem td1_ok {W : List En} : ∀ (l : List En) (out : List Opn), (∀ e ∈ l, e.ok) → (∀ o ∈ out, o.e.ok) → ∀ o ∈ l.foldl (td1 W) out, o.e.ok
  | [], _, _, h => h
  | e :: l, out, hl, h => td1_ok (W := W) l (td1 W out e) (fun x hx => hl x (by simp [hx])) (by
      unfold td1; split
      · exact h
      · intro o ho
        rcases List.mem_append.1 ho with ho | ho
        · exact h o ho
        · rw [List.mem_singleton.1 ho]; exact hl e (by simp))
theorem td2_ok {H : List En} : ∀ (l : List En) (out : List Opn), (∀ e ∈ l, e.ok) → (∀ o ∈ out, o.e.ok) → ∀ o ∈ l.foldl (td2 H) out, o.e.ok
  | [], _, _, h => h
  | e :: l, out, hl, h => td2_ok (H := H) l (td2 H out e) (fun x hx => hl x (by simp [hx])) (by
      have key : ∀ k, ∀ o ∈ out ++ [(⟨k, e⟩ : Opn)], o.e.ok := fun k o ho => by
        rcases List.mem_append.1 ho with ho | ho
        · exact h o ho
        · rw [List.mem_singleton.1 ho]; exact hl e (by simp)
      unfold td2; split
      · exact key 1
      · split
        · exact h
        · exact key 2)
theorem todo_ok {H W : List En} (h : ∀ e ∈ H, e.ok) (w : ∀ e ∈ W, e.ok) : ∀ o ∈ todoL H W, o.e.ok := td2_ok W _ w (td1_ok H [] h (by simp))

/-! ### the next one, and when -/
def rdy (now : Int) (F : List (Pr × Int)) (o : Opn) : Bool := match alook o.e.p F with | none => true | some t => decide (t ≤ now)
def nextO (now : Int) (F : List (Pr × Int)) (l : List Opn) : Option Opn := l.find? (rdy now F)
theorem rdy_none {now : Int} {F : List (Pr × Int)} {o : Opn} (h : (alook o.e.p F).isSome = false) : rdy now F o = true := by
  unfold rdy; rw [show alook o.e.p F = none by simpa using h]
theorem rdy_some {now : Int} {F : List (Pr × Int)} {o : Opn} (h : (alook o.e.p F).isSome = true) : rdy now F o = decide ((alook o.e.p F).getD 0 ≤ now) := by
  obtain ⟨t, ht⟩ := Option.isSome_iff_exists.1 h
  unfold rdy; rw [ht]; rfl
theorem nextO_at {now : Int} {F : List (Pr × Int)} {l : List Opn} {k : Nat} (h : k < l.length) (hz : ∀ j, j < k → rdy now F (lat l j) = false) (hx : rdy now F (lat l k) = true) : nextO now F l = some (lat l k) := by
  unfold nextO
  rw [List.find?_eq_some_iff_getElem]
  have e : ∀ j (hj : j < l.length), l[j] = lat l j := fun j hj => by simp [lat, List.getD, List.getElem?_eq_getElem hj]
  refine ⟨hx, k, h, e k h, fun j hj => ?_⟩
  rw [e j (by omega), hz j hj]; rfl
theorem nextO_no {now : Int} {F : List (Pr × Int)} {l : List Opn} (hz : ∀ j, j < l.length → rdy now F (lat l j) = false) : nextO now F l = none := by
  unfold nextO
  rw [List.find?_eq_none]
  intro x hx
  obtain ⟨j, hj, rfl⟩ := List.mem_iff_getElem.1 hx
  have := hz j hj
  rw [show l[j] = lat l j by simp [lat, List.getD, List.getElem?_eq_getElem hj], this]; simp

def as1 (F : List (Pr × Int)) (b : Option Int) (o : Opn) : Option Int := match alook o.e.p F with | none => b | some t => match b with | none => some t | some c => if t < c then some t else some c
def atL (F : List (Pr × Int)) (l : List Opn) : Option Int := l.foldl (as1 F) none
theorem as1_no {F : List (Pr × Int)} {b : Option Int} {o : Opn} (h : (alook o.e.p F).isSome = false) : as1 F b o = b := by
  unfold as1; rw [show alook o.e.p F = none by simpa using h]
theorem as1_first {F : List (Pr × Int)} {b : Option Int} {o : Opn} (h : (alook o.e.p F).isSome = true) (hb : b.isSome = false) : as1 F b o = some ((alook o.e.p F).getD 0) := by
  obtain ⟨t, ht⟩ := Option.isSome_iff_exists.1 h
  unfold as1; rw [ht, show b = none by simpa using hb]; rfl
theorem as1_less {F : List (Pr × Int)} {b : Option Int} {o : Opn} (h : (alook o.e.p F).isSome = true) (hb : b.isSome = true) (hl : (alook o.e.p F).getD 0 < b.getD 0) : as1 F b o = some ((alook o.e.p F).getD 0) := by
  obtain ⟨t, ht⟩ := Option.isSome_iff_exists.1 h
  obtain ⟨c, hc⟩ := Option.isSome_iff_exists.1 hb
  rw [ht, hc] at hl
  unfold as1; rw [ht, hc]
  exact if_pos hl
theorem as1_more {F : List (Pr × Int)} {b : Option Int} {o : Opn} (h : (alook o.e.p F).isSome = true) (hb : b.isSome = true) (hl : ¬ (alook o.e.p F).getD 0 < b.getD 0) : as1 F b o = b := by
  obtain ⟨t, ht⟩ := Option.isSome_iff_exists.1 h
  obtain ⟨c, hc⟩ := Option.isSome_iff_exists.1 hb
  rw [ht, hc] at hl
  unfold as1; rw [ht, hc]
  exact if_neg hl

def FS.todo (s : FS) : List Opn := todoL s.H s.W
def FS.want (s : FS) (l : List En) : FS := { s with W := expandL l }
def FS.next (now : Int) (s : FS) : (Opn × Bool) × FS := if s.busy then ((default, false), s) else match nextO now s.F s.todo with
  | none => ((default, false), s)
  | some o => ((o, true), { s with wo := o, busy := true })
def FS.reply (now : Int) (ok : Bool) (s : FS) : Int × FS := if s.busy = false then (7, s) else
  (0, if ok = false then { s with busy := false, F := adel s.wo.e.p s.F ++ [(s.wo.e.p, now + 1000)] }
    else if s.wo.k = 3 then { s with busy := false, F := adel s.wo.e.p s.F, H := tdel s.wo.e.p s.H }
    else { s with busy := false, F := adel s.wo.e.p s.F, H := tput s.wo.e s.H })
def FS.drained (s : FS) : Bool := !s.busy && decide (s.todo.length = 0)
def FS.at (s : FS) : Option Int := atL s.F s.todo
def FS.zero : FS := ⟨[], [], [], default, false⟩

structure FOk (s : FS) : Prop where
  h : TOk s.H
  w : TOk s.W
  f : KOk Pr.ok s.F
  o : s.wo.e.ok
  r : s.busy = true → s.wo.k = 3 → has s.wo.e.p s.H = true
  lh : s.H.length ≤ 3000
  lw : s.W.length ≤ 1000
  lf : s.F.length ≤ 3000

theorem FOk.todo_ok {s : FS} (h : FOk s) : ∀ o ∈ s.todo, o.e.ok := Go.Vm.todo_ok h.h.ok h.w.ok
theorem FOk.todo_len {s : FS} (h : FOk s) : s.todo.length ≤ 4000 := by have := Go.Vm.todo_len s.H s.W; have := h.lh; have := h.lw; show (todoL s.H s.W).length ≤ _; omega

end Go.Vm
