/- What the laws of the Fib lean on. -/
import Derived.Test.YtimkkhefemnkpaaP4a
import Derived.KernelRfl
namespace Go.Vm
open Go Go.Proofs

theorem fspec_lit {f : FuncId} {x : V} {a : Option Addr} {cap n : Nat} {l : List En} {us : List V} {H : List (Nat × Cell)} {post : V → List (Nat × Cell) → Prop} (h : Spec Try.prog f [x, lros a cap enE l] H post) (hu : us = l.map enE) (hn : l.length = n) :
    Spec Try.prog f [x, .ros a cap n (fun j => us.getD j .unit)] H post := by
  subst hn
  refine Spec.args h rfl fun A hv v hm => ?_
  rcases List.mem_cons.1 hm with rfl | hm
  · exact hv _ (by simp)
  · rw [List.mem_singleton] at hm
    subst hm
    refine VOk.ros_congr (fun j hj => ?_) (hv (.ros a cap l.length (fun j => us.getD j .unit)) (List.mem_cons_of_mem _ (List.mem_singleton.2 rfl)))
    subst hu
    simp [lat, List.getD, List.getElem?_eq_getElem hj]

theorem plainFO {fb mh mf wp : Nat} {s : FS} : ∀ (r : V) (H' : List (Nat × Cell)), (∃ mw', r = .tup0 ∧ H' = FO fb mh mw' mf wp s) → Plain r H' := by
  rintro r H' ⟨mw', rfl, rfl⟩
  refine ⟨fun _ => trivial, fun t c hg A B h hc => ?_⟩
  simp only [FO, get_cons] at hg
  split at hg
  · simp only [Option.some.injEq] at hg; subst hg; refine ⟨hc.1, hc.2.1, ?_⟩; unfold wayV; cases s.busy <;> simp [VOk]
  split at hg
  · simp only [Option.some.injEq] at hg; subst hg; exact ⟨fun x hx => by obtain ⟨y, _, rfl⟩ := List.mem_map.1 hx; simp [VOk], hc.2⟩
  split at hg
  · simp only [Option.some.injEq] at hg; subst hg; exact ⟨fun x hx => by obtain ⟨y, _, rfl⟩ := List.mem_map.1 hx; simp [VOk], hc.2⟩
  split at hg
  · simp only [Option.some.injEq] at hg; subst hg; exact ⟨fun x hx => by obtain ⟨y, _, rfl⟩ := List.mem_map.1 hx; simp [VOk], hc.2⟩
  split at hg
  · simp only [Option.some.injEq] at hg; subst hg
    unfold wayC at hc ⊢
    cases hb : s.busy with
    | false => rw [hb] at hc; exact hc
    | true => rw [hb] at hc; exact ⟨hc.1, hc.2.1, by simp [VOk]⟩
  · simp [get] at hg

abbrev lE : En := ⟨⟨⟨[32, 0, 0, 0, 0, 0, 0, 0, 0, 0, 0, 0, 0, 0, 0, 0], 8⟩, ⟨[0, 0, 0, 0, 0, 0, 0, 0, 0, 0, 0, 0, 0, 0, 0, 0], 0⟩⟩, 1, [0, 0, 0, 0, 0, 0, 0, 0, 0, 0, 0, 0, 0, 0, 0, 0]⟩
abbrev M0 : FS := FS.zero
abbrev M1 : FS := ⟨[], [lE], [], default, false⟩
abbrev M2 : FS := ⟨[], [lE], [], ⟨1, lE⟩, true⟩
abbrev M3 : FS := ⟨[], [lE], [(lE.p, 1005)], ⟨1, lE⟩, false⟩
abbrev M4 : FS := ⟨[], [lE], [(lE.p, 1005)], ⟨1, lE⟩, true⟩
abbrev M5 : FS := ⟨[lE], [lE], [], ⟨1, lE⟩, false⟩
abbrev M6 : FS := ⟨[lE], [], [], ⟨1, lE⟩, false⟩
abbrev M7 : FS := ⟨[lE], [], [], ⟨3, lE⟩, true⟩
abbrev M8 : FS := ⟨[], [], [], ⟨3, lE⟩, false⟩
theorem lx1 : expandL [lE] = [lE] := by kernel_rfl
theorem lx0 : expandL [] = [] := by kernel_rfl
theorem m0 : M0.drained = true := by kernel_rfl
theorem m1 : M0.want [lE] = M1 := by kernel_rfl
theorem m2 : M1.next 0 = ((⟨1, lE⟩, true), M2) := by kernel_rfl
theorem m3 : M2.reply 5 false = (0, M3) := by kernel_rfl
theorem m4 : M3.next 6 = ((default, false), M3) := by kernel_rfl
theorem m5 : M3.at = some 1005 := by kernel_rfl
theorem m6 : M3.next 1005 = ((⟨1, lE⟩, true), M4) := by kernel_rfl
theorem m7 : M4.reply 1005 true = (0, M5) := by kernel_rfl
theorem m8 : M5.drained = true := by kernel_rfl
theorem m9 : M5.want [] = M6 := by kernel_rfl
theorem m10 : M6.next 2000 = ((⟨3, lE⟩, true), M7) := by kernel_rfl
theorem m11 : M7.reply 2000 true = (0, M8) := by kernel_rfl

theorem lE_ok : lE.ok := ⟨⟨⟨rfl, by decide⟩, ⟨rfl, by decide⟩⟩, ⟨rfl, by decide⟩⟩
theorem def_ok : (default : En).ok := ⟨⟨⟨rfl, by decide⟩, ⟨rfl, by decide⟩⟩, ⟨rfl, by decide⟩⟩
theorem TOk.one {e : En} (h : e.ok) : TOk [e] := ⟨fun x hx => by rw [List.mem_singleton.1 hx]; exact h, List.pairwise_singleton _ _⟩
theorem KOk.one {p : Pr} {v : Int} (h : p.ok) : KOk Pr.ok [(p, v)] := ⟨fun x hx => by rw [List.mem_singleton.1 hx]; exact h, by simp⟩
theorem M0_ok : FOk M0 := ⟨TOk.nil, TOk.nil, KOk.nil, def_ok, by decide, by decide, by decide, by decide⟩
theorem M1_ok : FOk M1 := ⟨TOk.nil, TOk.one lE_ok, KOk.nil, def_ok, by decide, by decide, by decide, by decide⟩
theorem M2_ok : FOk M2 := ⟨TOk.nil, TOk.one lE_ok, KOk.nil, lE_ok, fun _ h => absurd h (by decide), by decide, by decide, by decide⟩
theorem M3_ok : FOk M3 := ⟨TOk.nil, TOk.one lE_ok, KOk.one lE_ok.1, lE_ok, fun h => (by cases h), by decide, by decide, by decide⟩
theorem M4_ok : FOk M4 := ⟨TOk.nil, TOk.one lE_ok, KOk.one lE_ok.1, lE_ok, fun _ h => absurd h (by decide), by decide, by decide, by decide⟩
theorem M5_ok : FOk M5 := ⟨TOk.one lE_ok, TOk.one lE_ok, KOk.nil, lE_ok, fun h => (by cases h), by decide, by decide, by decide⟩
theorem M6_ok : FOk M6 := ⟨TOk.one lE_ok, TOk.nil, KOk.nil, lE_ok, fun h => (by cases h), by decide, by decide, by decide⟩
theorem M7_ok : FOk M7 := ⟨TOk.one lE_ok, TOk.nil, KOk.nil, lE_ok, fun _ _ => by kernel_rfl, by decide, by decide, by decide⟩
theorem M8_ok : FOk M8 := ⟨TOk.nil, TOk.nil, KOk.nil, lE_ok, fun h => (by cases h), by decide, by decide, by decide⟩
end Go.Vm
