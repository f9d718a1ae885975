/-
  The rules of the symbolic machine: more about slices that are read.
-/
import Derived.Test.YtcmooifiiakbdaaSxM
set_option linter.unusedVariables false
set_option linter.unusedSimpArgs false
namespace Go.Sx
open Go Go.RowKit
variable {P : Program} {T : Tab}
theorem cell_lt {w : World} {a : Addr} {v : Value} (h : w.cell? a = some v) : a.block < w.heap.size := by
  unfold World.cell? at h
  cases hb : w.heap[a.block]? with
  | none => simp [hb] at h
  | some o => exact (Array.getElem?_eq_some_iff.1 hb).1
theorem Rd.map {pr pr' : Nat → Prop} {w w' : World} {A : Option Addr} {cs : List Value} (h : Rd pr w A cs) (hw : ∀ q, pr q → q < w.heap.size → w'.heap[q]? = w.heap[q]? ∧ pr' q) : Rd pr' w' A cs := by
  intro j v hj
  obtain ⟨a, ha, hpa, hc⟩ := h j v hj
  have hlt := cell_lt hc
  rw [add_block] at hlt
  obtain ⟨h1, h2⟩ := hw _ hpa hlt
  exact ⟨a, ha, h2, (cell_same (by rw [add_block]; exact h1)).trans hc⟩
theorem Rd.weak {pr pr' : Nat → Prop} {w : World} {A : Option Addr} {cs : List Value} (h : Rd pr w A cs) (hp : ∀ q, pr q → pr' q) : Rd pr' w A cs := h.map fun q hq _ => ⟨rfl, hp q hq⟩
end Go.Sx
