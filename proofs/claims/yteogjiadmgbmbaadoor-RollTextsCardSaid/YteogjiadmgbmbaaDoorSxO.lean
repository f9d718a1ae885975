/-
  The rules of the symbolic machine: more about slices that are read.
-/
import Derived.Test.YteogjiadmgbmbaaDoorSxM
set_option linter.unusedVariables false
set_option linter.unusedSimpArgs false
namespace Go.Sx
open Go Go.RowKit
variable {P : Program} {T : Tab}
theorem cell_lt {w : World} {a : Addr} {v : Value} (h : w.cell? a = some v) : a.block < w.heap.size := by
  unfold World.cell? at h
  cases hb : w.heap[a.block]? with
  | none => simp [hb] at h
  | some o => exact (Array.getElem?_eq_some_iff.1 hb).1
theorem Rd.map {pr pr' : Nat → Prop} {w w' : World} {A : Option Addr} {cs : List Value} (h : Rd pr w A cs) (hw : ∀ q, pr q → q < w.heap.size → w'.heap[q]? = w.heap[q]? ∧ pr' q) : Rd pr' w' A cs := by
  intro j v hj
  obtain ⟨a, ha, hpa, hc⟩ := h j v hj
  have hlt := cell_lt hc
  rw [add_block] at hlt
  obtain ⟨h1, h2⟩ := hw _ hpa hlt
  exact ⟨a, ha, h2, (cell_same (by rw [add_block]; exact h1)).trans hc⟩
theorem Rd.weak {pr pr' : Nat → Prop} {w : World} {A : Option Addr} {cs : List Value} (h : Rd pr w A cs) (hp : ∀ q, pr q → pr' q) : Rd pr' w A cs := h.map fun q hq _ => ⟨rfl, hp q hq⟩
/-- A loop's condition holds of a state that says more: so it can be shown once, and used behind every branch that comes there. -/
theorem LoopVC.sub {n : Nat} {w0 : Base} {c : Code} {s s' : St} {Q : Exit → St → Prop} (h : LoopVC P n w0 T c s' Q) (hs : Sub s s') : LoopVC P n w0 T c s Q := ⟨fun ad a w hI => h.prf ad a w (hI.sub hs)⟩
/-- What stands behind several branches, shown once: 'apply loop_join (n := ..) (w0 := ..) st I', 'case hm', 'case hl' ('?c' would not be assigned). -/
theorem loop_join {n : Nat} {w0 : Base} {ι : Type} (st : ι → St) (I : ι → Prop) {c : Code} {Q : Exit → St → Prop} {G : Prop} (hm : (∀ x, I x → LoopVC P n w0 T c (st x) Q) → G) (hl : ∀ x, I x → LoopVC P n w0 T c (st x) Q) : G := hm hl
theorem draw_join {n : Nat} {w0 : Base} {ι : Type} (st : ι → St) (I : ι → Prop) {id : Nat} {ops : Array Oper} {Q : Exit → St → Prop} {G : Prop} (hm : (∀ x, I x → DrawVC P n w0 T id ops (st x) Q) → G) (hl : ∀ x, I x → DrawVC P n w0 T id ops (st x) Q) : G := hm hl
theorem DrawVC.sub {n : Nat} {w0 : Base} {id : Nat} {ops : Array Oper} {s s' : St} {Q : Exit → St → Prop} (h : DrawVC P n w0 T id ops s' Q) (hs : Sub s s') : DrawVC P n w0 T id ops s Q := ⟨fun ad a w hI => h.prf ad a w (hI.sub hs)⟩
end Go.Sx
