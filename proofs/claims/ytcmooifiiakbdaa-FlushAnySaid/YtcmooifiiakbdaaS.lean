/-
  Plain laws of flushes: the order of puts does not matter; what all are to know has all that any mark has.
-/
import Derived.Test.YtcmooifiiakbdaaQ
set_option linter.unusedVariables false
set_option linter.unusedSimpArgs false
namespace Go.Proofs.Ytcmooifiiakbdaa
open Go Go.Sx Go.RowKit
theorem sorted_unique : ∀ {a b : List Mk}, Sorted a → Sorted b → (∀ x, x ∈ a ↔ x ∈ b) → a = b
  | [], [], _, _, _ => rfl
  | [], y :: b, _, _, h => by have := (h y).2 (by simp); simp at this
  | x :: a, [], _, _, h => by have := (h x).1 (by simp); simp at this
  | x :: a, y :: b, ha, hb, h => by
    obtain ⟨a1, a2⟩ := sorted_cons.1 ha
    obtain ⟨b1, b2⟩ := sorted_cons.1 hb
    have e : x = y := by
      rcases List.mem_cons.1 ((h x).1 (by simp)) with e | hx
      · exact e
      · rcases List.mem_cons.1 ((h y).2 (by simp)) with e | hy
        · exact e.symm
        · have := b1 x hx; have := a1 y hy; omega
    subst e
    have : a = b := sorted_unique a2 b2 fun z => by
      constructor
      · intro hz
        rcases List.mem_cons.1 ((h z).1 (List.mem_cons_of_mem _ hz)) with e | hz'
        · subst e; have := a1 z hz; omega
        · exact hz'
      · intro hz
        rcases List.mem_cons.1 ((h z).2 (List.mem_cons_of_mem _ hz)) with e | hz'
        · subst e; have := b1 z hz; omega
        · exact hz'
    rw [this]
/-- Marks that may be put, in whatever order. -/
structure Good (M : Int) (l : List Mk) : Prop where
  ok : ∀ m ∈ l, hasB M m.who = true ∧ fitsB M m.past = true
  ne : l.Pairwise fun a b => a.who ≠ b.who
def putsS (M : Int) (l : List Mk) (s : List Mk) : List Mk := l.foldl (fun acc t => (putS M acc t).1) s
theorem put_good {M : Int} {ms : List Mk} {t : Mk} (hr : rightB M ms = true) (h2 : hasB M t.who = true) (h4 : fitsB M t.past = true) (hne : ∀ m ∈ ms, m.who ≠ t.who) : putS M ms t = (insS ms t, 0) := by
  have h3 : (ms.any fun m => decide (m.who = t.who)) = false := by
    rw [List.any_eq_false]
    intro m hm
    simpa using hne m hm
  simp only [putS, hr, h2, h3, h4, if_true, Bool.false_eq_true, if_false]
/-- Good marks are all taken; what comes of them is right, and has them all. -/
theorem puts_good {M : Int} : ∀ {l s : List Mk}, rightB M s = true → Good M l → (∀ a ∈ l, ∀ b ∈ s, b.who ≠ a.who) → rightB M (putsS M l s) = true ∧ ∀ x, x ∈ putsS M l s ↔ x ∈ l ∨ x ∈ s
  | [], s, hr, _, _ => ⟨hr, fun x => by simp [putsS]⟩
  | t :: l, s, hr, hg, hne => by
    obtain ⟨g1, g2⟩ := List.pairwise_cons.1 hg.ne
    obtain ⟨h2, h4⟩ := hg.ok t (by simp)
    have hp := put_good hr h2 h4 (hne t (by simp))
    have hr' : rightB M (putS M s t).1 = true := put_right (by rw [hp])
    have := puts_good (l := l) (s := (putS M s t).1) hr' ⟨fun m hm => hg.ok m (List.mem_cons_of_mem _ hm), g2⟩ (fun a ha b hb => by
      rw [hp] at hb
      rcases insS_mem.1 hb with rfl | hb
      · exact g1 a ha
      · exact hne a (List.mem_cons_of_mem _ ha) b hb)
    refine ⟨this.1, fun x => ?_⟩
    show x ∈ putsS M l (putS M s t).1 ↔ _
    rw [this.2 x, hp]
    simp only [insS_mem, List.mem_cons]
    constructor
    · rintro (h | h | h)
      · exact .inl (.inr h)
      · exact .inl (.inl h)
      · exact .inr h
    · rintro ((h | h) | h)
      · exact .inr (.inl h)
      · exact .inl h
      · exact .inr (.inr h)
theorem fold_ge : ∀ {ms : List Mk} {v : List Int} (hv : v.length = 16) (hms : ∀ m ∈ ms, m.Ok) {k : Nat} (hk : k < 16), v.getD k 0 ≤ (ms.foldl (fun v m => vmax v (bump m)) v).getD k 0 ∧ ∀ m ∈ ms, (bump m).getD k 0 ≤ (ms.foldl (fun v m => vmax v (bump m)) v).getD k 0
  | [], v, _, _, k, _ => ⟨Int.le_refl _, fun m hm => (by cases hm)⟩
  | m :: r, v, hv, hms, k, hk => by
    have hb := bump_len (hms m (by simp))
    have h1 := fold_ge (ms := r) (vmax_len hv hb) (fun x hx => hms x (List.mem_cons_of_mem _ hx)) hk
    have h2 := vmax_get hv hb hk
    simp only [List.foldl_cons]
    refine ⟨?_, fun x hx => ?_⟩
    · have := h1.1; split at h2 <;> omega
    · rcases List.mem_cons.1 hx with rfl | hx
      · have := h1.1; split at h2 <;> omega
      · exact h1.2 x hx
end Go.Proofs.Ytcmooifiiakbdaa
