/-
  Plain laws for FlushAny: what is taken, and what comes of it put again in another order.
-/
import Derived.Test.YtcmooifiiakbdaaT
set_option linter.unusedVariables false
set_option linter.unusedSimpArgs false
namespace Go.Proofs.Ytcmooifiiakbdaa
open Go Go.Sx Go.RowKit
/-- ms are the marks behind the puts, tk those of them that were taken, in their order. -/
structure Took (M : Int) (ms tk : List Mk) : Prop where
  good : Good M tk
  mem : ∀ x, x ∈ ms ↔ x ∈ tk
  right : rightB M ms = true ∨ (M = 0 ∧ ms = [])
  ok : ∀ m ∈ tk, m.Ok
theorem took_start (M : Int) : Took M [] [] := by
  refine ⟨⟨fun m hm => (by cases hm), List.Pairwise.nil⟩, fun x => Iff.rfl, ?_, fun m hm => (by cases hm)⟩
  by_cases h : M = 0
  · exact .inr ⟨h, rfl⟩
  · exact .inl (right_iff.2 ⟨fun m hm => (by cases hm), fun i j p q _ hp => (by cases hp), h⟩)
theorem took_put {M : Int} {ms tk : List Mk} {t : Mk} (ht : t.Ok) (h : Took M ms tk) (hz : (putS M ms t).2 = 0) : Took M (putS M ms t).1 (tk ++ [t]) := by
  obtain ⟨h1, h2, h3, h4, h5⟩ := put_ok hz
  refine ⟨⟨fun m hm => ?_, List.pairwise_append.2 ⟨h.good.ne, List.pairwise_singleton _ _, fun a ha b hb => ?_⟩⟩, fun x => ?_, .inl (put_right hz), fun m hm => ?_⟩
  · rcases List.mem_append.1 hm with hm | hm
    · exact h.good.ok m hm
    · simp at hm; rw [hm]; exact ⟨h2, h4⟩
  · simp at hb; subst hb
    rw [List.any_eq_false] at h3
    have := h3 a ((h.mem a).2 ha)
    simpa using this
  · rw [h5, insS_mem, h.mem x, List.mem_append, List.mem_singleton, or_comm]
  · rcases List.mem_append.1 hm with hm | hm
    · exact h.ok m hm
    · simp at hm; rw [hm]; exact ht
theorem took_not {M : Int} {ms tk : List Mk} {t : Mk} (h : Took M ms tk) (hz : (putS M ms t).2 ≠ 0) : Took M (putS M ms t).1 tk := by rw [put_not hz]; exact h
/-- A list from its place 'at' on, and round. -/
def rot (l : List Mk) (a : Nat) : List Mk := l.drop (a % l.length) ++ l.take (a % l.length)
theorem rot_len (l : List Mk) (a : Nat) : (rot l a).length = l.length := by
  unfold rot
  rw [List.length_append, List.length_drop, List.length_take]
  rcases Nat.eq_zero_or_pos l.length with h | h
  · rw [h]; simp
  · have := Nat.mod_lt a h; omega
theorem rot_mem (l : List Mk) (a : Nat) (x : Mk) : x ∈ rot l a ↔ x ∈ l := by
  unfold rot
  rw [List.mem_append, or_comm, ← List.mem_append, List.take_append_drop]
theorem rot_at {l : List Mk} {a i : Nat} (hi : i < l.length) : (rot l a)[i]? = l[(i + a) % l.length]? := by
  have hb := Nat.mod_lt a (show 0 < l.length by omega)
  have h1 : (i + a) % l.length = (i + a % l.length) % l.length := by rw [Nat.add_mod i a, Nat.mod_eq_of_lt hi]
  rw [h1]
  unfold rot
  generalize a % l.length = b at *
  by_cases h : i + b < l.length
  · rw [Nat.mod_eq_of_lt h, List.getElem?_append_left (by rw [List.length_drop]; omega), List.getElem?_drop, Nat.add_comm]
  · rw [Nat.mod_eq_sub_mod (by omega), Nat.mod_eq_of_lt (by omega), List.getElem?_append_right (by rw [List.length_drop]; omega), List.length_drop, List.getElem?_take, if_pos (by omega)]
    congr 1; omega
theorem rot_good {M : Int} {l : List Mk} (h : Good M l) (a : Nat) : Good M (rot l a) := by
  refine ⟨fun m hm => h.ok m ((rot_mem l a m).1 hm), ?_⟩
  have := h.ne
  rw [← List.take_append_drop (a % l.length) l] at this
  obtain ⟨h1, h2, h3⟩ := List.pairwise_append.1 this
  exact List.pairwise_append.2 ⟨h2, h1, fun x hx y hy => Ne.symm (h3 y hy x hx)⟩
theorem good_take {M : Int} {l : List Mk} (h : Good M l) (k : Nat) : Good M (l.take k) := ⟨fun m hm => h.ok m (List.mem_of_mem_take hm), h.ne.sublist (List.take_sublist k l)⟩
/-- The k-th of good marks is taken behind the ones ahead of it. -/
theorem good_next {M : Int} {l : List Mk} (h0 : M ≠ 0) (h : Good M l) {k : Nat} {m : Mk} (hm : l[k]? = some m) : (putS M (putsS M (l.take k) []) m).2 = 0 ∧ (putS M (putsS M (l.take k) []) m).1 = putsS M (l.take (k + 1)) [] := by
  have hr : rightB M [] = true := right_iff.2 ⟨fun m hm => (by cases hm), fun i j p q _ hp => (by cases hp), h0⟩
  obtain ⟨g1, g2⟩ := puts_good hr (good_take h k) (fun a _ b hb => by cases hb)
  obtain ⟨h2, h4⟩ := h.ok m (List.mem_of_getElem? hm)
  have hk : l.take (k + 1) = l.take k ++ [m] := take_step hm
  have hne : ∀ x ∈ putsS M (l.take k) [], x.who ≠ m.who := fun x hx => by
    rcases (g2 x).1 hx with hx | hx
    · have := (good_take h (k + 1)).ne
      rw [hk] at this
      exact (List.pairwise_append.1 this).2.2 x hx m (by simp)
    · cases hx
  have hp := put_good g1 h2 h4 hne
  refine ⟨by rw [hp], ?_⟩
  rw [hk]
  unfold putsS
  rw [List.foldl_append]; rfl
/-- Put again in another order, they come to the same. -/
theorem rot_same {M : Int} {ms tk : List Mk} (h0 : M ≠ 0) (h : Took M ms tk) (a : Nat) : putsS M (rot tk a) [] = ms := by
  have hr : rightB M [] = true := right_iff.2 ⟨fun m hm => (by cases hm), fun i j p q _ hp => (by cases hp), h0⟩
  obtain ⟨g1, g2⟩ := puts_good hr (rot_good h.good a) (fun a _ b hb => by cases hb)
  have hms : rightB M ms = true := h.right.resolve_right fun e => h0 e.1
  refine sorted_unique (sorted_of g1) (sorted_of hms) fun x => ?_
  rw [g2 x, rot_mem, h.mem x]
  simp
theorem good_at {M : Int} {l : List Mk} (h : Good M l) {i j : Nat} {p q : Mk} (hp : l[i]? = some p) (hq : l[j]? = some q) (hij : i ≠ j) : p.who ≠ q.who := by
  have h1 := (List.getElem?_eq_some_iff.1 hp).1
  have h2 := (List.getElem?_eq_some_iff.1 hq).1
  have e1 := (List.getElem?_eq_some_iff.1 hp).2
  have e2 := (List.getElem?_eq_some_iff.1 hq).2
  rcases Nat.lt_or_ge i j with hl | hl
  · have := List.pairwise_iff_getElem.1 h.ne i j h1 h2 hl
    rw [e1, e2] at this; exact this
  · have := List.pairwise_iff_getElem.1 h.ne j i h2 h1 (by omega)
    rw [e1, e2] at this; exact Ne.symm this
end Go.Proofs.Ytcmooifiiakbdaa
