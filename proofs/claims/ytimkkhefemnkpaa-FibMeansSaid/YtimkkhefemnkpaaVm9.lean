/- Small laws of numbers, and entailments between objects. -/
import Derived.Test.YtimkkhefemnkpaaVm8
namespace Go.Vm

theorem w64 {x : Int} (h1 : -9223372036854775808 ≤ x) (h2 : x < 9223372036854775808) : IntKind.i64.wrap x = x := by
  unfold IntKind.wrap
  simp only [IntKind.bits, IntKind.signed, Bool.true_and]
  split <;> rename_i h <;> simp at h <;> omega

theorem w64_nat {k : Nat} (h : k < 9223372036854775807) : IntKind.i64.wrap ((k : Int) + 1) = ((k + 1 : Nat) : Int) := by
  rw [w64 (by omega) (by omega)]; omega

theorem wu8 {x : Int} (h1 : 0 ≤ x) (h2 : x < 256) : IntKind.u8.wrap x = x := by
  unfold IntKind.wrap
  simp [IntKind.bits, IntKind.signed]
  omega

theorem wu16 {x : Int} (h1 : 0 ≤ x) (h2 : x < 65536) : IntKind.u16.wrap x = x := by
  unfold IntKind.wrap
  simp [IntKind.bits, IntKind.signed]
  omega

theorem wu32 {x : Int} (h1 : 0 ≤ x) (h2 : x < 4294967296) : IntKind.u32.wrap x = x := by
  unfold IntKind.wrap
  simp [IntKind.bits, IntKind.signed]
  omega

theorem CLe.cells {A : Fr} {b : Nat} {T : TypeId} {v v' : V} (h : v'.cells = v.cells) (hm : v.mem = true → v'.mem = true) (ho : VOk A v → VOk A v') : CLe A (.box b T v) (.box b T v') :=
  ⟨fun _ h => h, fun k hk => ⟨by rw [h]; exact hk.1, hm hk.2.1, ho hk.2.2⟩⟩

theorem CLe.box {A : Fr} {b : Nat} {T : TypeId} {v v' : V} (h : v = v') : CLe A (.box b T v) (.box b T v') := h ▸ CLe.refl _ _

theorem CLe.bytes {A : Fr} {b : Nat} {T : TypeId} {n : Nat} {xs ys : List Int} (h : bcells n ys = bcells n xs) : CLe A (.box b T (.bytes n xs)) (.box b T (.bytes n ys)) := CLe.cells h (fun _ => rfl) (fun _ => trivial)

theorem bcells_congr {n : Nat} {xs ys : List Int} (h : ∀ i, i < n → ys.getD i 0 = xs.getD i 0) : bcells n ys = bcells n xs := by
  unfold bcells
  exact List.map_congr_left fun i hi => by rw [h i (List.mem_range.1 hi)]

theorem CLe.vec {A : Fr} {a : Option Nat} {T : TypeId} {z cap n : Nat} {f g : Nat → V} (h : ∀ i, i < n → g i = f i) : CLe A (.vec a T z cap n f) (.vec a T z cap n g) := by
  refine ⟨fun _ h => h, fun k hk => ?_⟩
  cases a with
  | none => exact hk
  | some b =>
    obtain ⟨h0, h1, sp, h2, h3⟩ := hk
    have e : flat n g = flat n f := by
      unfold flat
      have : (List.range n).map (fun i => (g i).cells) = (List.range n).map (fun i => (f i).cells) := List.map_congr_left fun i hi => by rw [h i (List.mem_range.1 hi)]
      rw [List.flatMap_def, List.flatMap_def, this]
    exact ⟨h0, fun i hi => by rw [h i hi]; exact h1 i hi, sp, by rw [e]; exact h2, h3⟩

end Go.Vm
