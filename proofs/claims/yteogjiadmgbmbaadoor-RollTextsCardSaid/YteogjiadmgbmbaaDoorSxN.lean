/-
  Arguments that come in: numbers, arrays of numbers, structs, slices of structs, as the symbolic machine has them.
-/
import Derived.Test.YteogjiadmgbmbaaDoorSxM
import Derived.WalkKit
import Derived.ProofKit
import Derived.OpenShut
import Derived.ChangeOld
import Derived.ChangeSame
import Derived.Deep.Slices
import Derived.Carry
import Derived.WideShapes
set_option linter.unusedVariables false
set_option linter.unusedSimpArgs false
namespace Go.Sx
open Go Go.RowKit Go.ChangeShapes Go.WideShapes
variable {P : Program} {H : Type} {enc : TypeId × Value → H} {w : World} {base : Nat} {spare : Nat → Bool} {held : Bool}
theorem wf_range {k : IntKind} {n : Int} (h : (Lit.int k n).wf = true) : k.min ≤ n ∧ n ≤ k.max := by
  simpa [Lit.wf] using h
/-- An array of numbers. -/
theorem open_arr {t e : TypeId} {n fuel : Nat} {k : IntKind} {cs : List Value} {x : DataW H × List MemPlace} (ht : P.underlying t = some (.array n e)) (he : P.underlying e = some (.int k)) (hc : P.cellsOf e = 1) (hct : P.cellsOf t = n) (h : DataW.trod enc P w base spare held fuel t cs = some x) :
    ∃ xs : List Int, cs = xs.map (Value.int k) ∧ xs.length = n ∧ ∀ z ∈ xs, k.min ≤ z ∧ z ≤ k.max := by
  obtain ⟨ys, m, rfl, rfl, hl, hlen, hi⟩ := DataW.trod_array ht h
  have key : ∀ c ∈ cs, ∃ z, c = .int k z ∧ k.min ≤ z ∧ z ≤ k.max := fun c hcm => by
    obtain ⟨i, hic⟩ := List.mem_iff_getElem?.1 hcm
    have hin : i < n := by have := (List.getElem?_eq_some_iff.1 hic).1; omega
    have h1 := hi i hin
    rw [hc, Nat.mul_one, List.getElem?_eq_getElem (show i < ys.length by omega)] at h1
    obtain ⟨z, h2, _, h3⟩ := DataW.trod_int he h1
    have h4 : ((cs.drop i).take 1)[0]? = some (.int k z) := by rw [h2]; rfl
    rw [List.getElem?_take, if_pos (by decide), List.getElem?_drop, Nat.add_zero, hic] at h4
    cases h4
    exact ⟨z, rfl, wf_range h3⟩
  refine ⟨cs.map intOf, ?_, by rw [List.length_map]; omega, fun z hz => ?_⟩
  · rw [List.map_map]
    refine (List.map_id cs).symm.trans (List.map_congr_left fun c hcm => ?_)
    obtain ⟨z, rfl, _⟩ := key c hcm
    rfl
  · obtain ⟨c, hcm, rfl⟩ := List.mem_map.1 hz
    obtain ⟨z, rfl, hz2⟩ := key c hcm
    exact hz2
/-- A struct of two fields, the first a number, the second an array of numbers. -/
theorem open_nv {t f0 f1 e : TypeId} {F0 F1 : Field} {n fuel : Nat} {k0 k : IntKind} {cs : List Value} {x : DataW H × List MemPlace} (ht : P.underlying t = some (.struct #[F0, F1])) (e0 : F0.type = f0) (e1 : F1.type = f1) (o0 : F0.offset = 0) (o1 : F1.offset = 1)
    (h0 : P.underlying f0 = some (.int k0)) (c0 : P.cellsOf f0 = 1) (h1 : P.underlying f1 = some (.array n e)) (he : P.underlying e = some (.int k)) (hc : P.cellsOf e = 1) (hct : P.cellsOf f1 = n) (hcs : P.cellsOf t = n + 1) (h : DataW.trod enc P w base spare held fuel t cs = some x) :
    ∃ (z : Int) (xs : List Int), cs = .int k0 z :: xs.map (Value.int k) ∧ xs.length = n ∧ (k0.min ≤ z ∧ z ≤ k0.max) ∧ ∀ z ∈ xs, k.min ≤ z ∧ z ≤ k.max := by
  obtain ⟨y0, y1, m, rfl, hl, g0, g1⟩ := trod_struct2 ht h
  rw [e0, o0, c0] at g0
  rw [e1, o1, hct] at g1
  obtain ⟨z, h2, _, h3⟩ := DataW.trod_int h0 g0
  obtain ⟨xs, h4, h5, h6⟩ := open_arr h1 he hc hct g1
  refine ⟨z, xs, ?_, h5, wf_range h3, h6⟩
  cases cs with
  | nil => simp at h2
  | cons c r =>
    simp only [List.drop_zero, List.take_succ_cons, List.take_zero, List.cons.injEq, and_true] at h2
    rw [h2]
    simp only [List.drop_succ_cons, List.drop_zero] at h4
    rw [← h4, List.take_of_length_le (by simp only [List.length_cons] at hl; omega)]
/-- A slice, element for element. -/
theorem open_rows {t e : TypeId} {fuel : Nat} {cs : List Value} {x : DataW H × List MemPlace} {α : Type} {segs : α → List Seg} {Ok : α → Prop} {sz : Nat} (ht : P.underlying t = some (.slice e)) (hsz : P.cellsOf e = sz) (hel : ∀ (n : Nat) (cs' : List Value) y, DataW.trod enc P w base spare held n e cs' = some y → ∃ a : α, cs' = flat (segs a) ∧ Ok a)
    (h : DataW.trod enc P w base spare held fuel t cs = some x) : ∃ (A : Option Addr) (c : Nat) (xs : List α), cs = [.slice A xs.length c] ∧ (∀ x ∈ xs, Ok x) ∧ ∀ pr : Nat → Prop, (∀ a, A = some a → a.block < w.heap.size → pr a.block) → Rd pr w A (xs.flatMap fun x => flat (segs x)) := by
  rcases Deep.open_slice ht h with ⟨rfl, rfl⟩ | ⟨a, len, cap, m, n, D, Pl, rfl, hb, hl, hm, hmm, rfl, hx⟩
  · exact ⟨none, 0, [], rfl, fun x hx => (by cases hx), fun pr _ j v hj => (by cases hj)⟩
  · have hle : len ≤ m := by rw [hmm]; split <;> omega
    have hex : ∀ l, l ≤ len → ∃ xs : List α, xs.length = l ∧ (∀ x ∈ xs, Ok x) ∧ ∀ i x, xs[i]? = some x → w.cells? base (a.add (i * sz)) sz = some (flat (segs x)) := by
      intro l
      induction l with
      | zero => intro _; exact ⟨[], rfl, fun x hx => (by cases hx), fun i x hi => by simp at hi⟩
      | succ l ih =>
        intro hl'
        obtain ⟨xs, h1, h2, h3⟩ := ih (by omega)
        obtain ⟨cs', h4, h5⟩ := hx l (by omega)
        obtain ⟨y, h6, h7⟩ := hel n cs' _ h5
        refine ⟨xs ++ [y], by simp [h1], fun x hxm => ?_, fun i x hi => ?_⟩
        · rcases List.mem_append.1 hxm with h | h
          · exact h2 x h
          · simp at h; rw [h]; exact h7
        · by_cases hil : i < xs.length
          · rw [List.getElem?_append_left hil] at hi
            exact h3 i x hi
          · rw [List.getElem?_append_right (by omega)] at hi
            have : i - xs.length = 0 := by
              rcases Nat.eq_zero_or_pos (i - xs.length) with h | h
              · exact h
              · rw [List.getElem?_eq_none (by simp only [List.length_singleton]; omega)] at hi; cases hi
            rw [this] at hi
            cases hi
            have : i = l := by omega
            subst this
            rw [← h6, ← hsz]; exact h4
    obtain ⟨xs, h1, h2, h3⟩ := hex len (Nat.le_refl _)
    have hlen : ∀ x ∈ xs, (flat (segs x)).length = sz := fun x hxm => by
      obtain ⟨i, hi⟩ := List.mem_iff_getElem?.1 hxm
      exact (World.cells?_some (h3 i x hi)).2.1
    have hfl : ∀ {xs : List α}, (∀ x ∈ xs, (flat (segs x)).length = sz) → (xs.flatMap fun x => flat (segs x)).length = xs.length * sz := fun {xs} => by
      induction xs with
      | nil => intro _; simp
      | cons y r ih =>
        intro hh
        rw [List.flatMap_cons, List.length_append, hh y (by simp), ih (fun z hz => hh z (List.mem_cons_of_mem _ hz)), List.length_cons, Nat.succ_mul]; omega
    refine ⟨some a, cap, xs, by rw [h1], h2, fun pr hpr j v hj => ⟨a, rfl, ?_⟩⟩
    have hjl := (List.getElem?_eq_some_iff.1 hj).1
    rw [hfl hlen] at hjl
    have hpos : 0 < sz := by
      rcases Nat.eq_zero_or_pos sz with h0 | h0
      · subst h0; omega
      · exact h0
    have hi : j / sz < xs.length := Nat.div_lt_of_lt_mul (by rw [Nat.mul_comm]; exact hjl)
    have hx0 := List.getElem?_eq_getElem hi
    have hjj : j = j / sz * sz + j % sz := by rw [Nat.mul_comm]; exact (Nat.div_add_mod j sz).symm
    have hmod := Nat.mod_lt j hpos
    have h4 := flatMap_at xs hlen (j / sz) _ hx0 (j % sz) hmod
    rw [← hjj, hj] at h4
    have h5 := (World.cells?_some (h3 _ _ hx0)).2.2 (j % sz) hmod
    rw [← h4, addr_add_add, ← hjj] at h5
    refine ⟨hpr a rfl ?_, h5⟩
    have := World.block_lt_of_cell? w _ h5
    rwa [add_block] at this
end Go.Sx
