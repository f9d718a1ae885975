/-
  Arguments that come in: plain things (numbers, bools, strings, structs and arrays of such), of whatever shape.
-/
import Derived.Test.YteogjiadmgbmbaaDoorSxN
import Derived.Test.YteogjiadmgbmbaaDoorSxP
set_option linter.unusedVariables false
set_option linter.unusedSimpArgs false
namespace Go.Sx
open Go Go.RowKit Go.ChangeShapes Go.WideShapes
variable {P : Program} {H : Type} {enc : TypeId × Value → H} {w : World} {base : Nat} {spare : Nat → Bool} {held : Bool}
def CK.fitsW : CK → Value → Prop
  | .int k, v => ∃ n, v = .int k n ∧ k.min ≤ n ∧ n ≤ k.max
  | .bool, v => ∃ b, v = .bool b
  | .str, v => ∃ s, v = .string s ∧ s.size ≤ maxLen
def FitW : List CK → List Value → Prop
  | [], [] => True
  | k :: r, v :: s => k.fitsW v ∧ FitW r s
  | _, _ => False
theorem FitW.join : ∀ {ks ls : List CK} {a b : List Value}, FitW ks a → FitW ls b → FitW (ks ++ ls) (a ++ b)
  | [], ls, [], b, _, h => h
  | k :: r, ls, v :: s, b, h, h2 => ⟨h.1, FitW.join h.2 h2⟩
  | [], _, _ :: _, _, h, _ => h.elim
  | _ :: _, _, [], _, h, _ => h.elim
theorem FitW.len : ∀ {ks : List CK} {cs : List Value}, FitW ks cs → ks.length = cs.length
  | [], [], _ => rfl
  | _ :: _, _ :: _, h => by simp [FitW.len h.2]
  | [], _ :: _, h => h.elim
  | _ :: _, [], h => h.elim
theorem FitW.cons {k : CK} {r : List CK} : ∀ {cs : List Value}, FitW (k :: r) cs → ∃ v s, cs = v :: s ∧ k.fitsW v ∧ FitW r s
  | v :: s, h => ⟨v, s, rfl, h.1, h.2⟩
  | [], h => h.elim
theorem FitW.nil : ∀ {cs : List Value}, FitW [] cs → cs = []
  | [], _ => rfl
  | _ :: _, h => h.elim
def OpenOk (P : Program) (enc : TypeId × Value → H) (w : World) (base : Nat) (spare : Nat → Bool) (held : Bool) (g : TypeId → Option (List CK)) : Prop :=
  ∀ t ks fuel cs x, g t = some ks → ks.length = P.cellsOf t → DataW.trod enc P w base spare held fuel t cs = some x → FitW ks cs
theorem open_fields {g : TypeId → Option (List CK)} (IH : OpenOk P enc w base spare held g) {cs : List Value} {n : Nat} : ∀ (fs : List Field) (off : Nat) (ks : List CK), kindsF P g fs off = some ks → (∀ f ∈ fs, ∃ y, DataW.trod enc P w base spare held n f.type ((cs.drop f.offset).take (P.cellsOf f.type)) = some y) → FitW ks ((cs.drop off).take ks.length)
  | [], off, ks, hk, _ => by cases hk; simp [FitW]
  | f :: r, off, ks, hk, hall => by
    simp only [kindsF] at hk
    split at hk
    case h_2 => cases hk
    case h_1 k0 i hn ho hg hi =>
    split at hk
    case h_2 => cases hk
    case h_1 hl =>
    have hl := Nat.eq_of_beq_eq_true hl
    have ho := Nat.eq_of_beq_eq_true ho
    obtain ⟨kr, hr, rfl⟩ := Option.map_eq_some_iff.1 hk
    obtain ⟨y, hy⟩ := hall f (by simp)
    have h1 := IH _ _ _ _ _ hg hl hy
    have h2 := open_fields IH r (off + k0.length) kr hr fun f hf => hall f (List.mem_cons_of_mem _ hf)
    rw [ho, ← hl] at h1
    have e : (cs.drop off).take (k0 ++ kr).length = (cs.drop off).take k0.length ++ (cs.drop (off + k0.length)).take kr.length := by
      rw [List.length_append, List.take_add, List.drop_drop]
    rw [e]
    exact h1.join h2
theorem open_items {g : TypeId → Option (List CK)} (IH : OpenOk P enc w base spare held g) {e : TypeId} {ks : List CK} (hg : g e = some ks) (hl : ks.length = P.cellsOf e) {cs : List Value} {m : Nat} : ∀ (n j : Nat), (∀ i, j ≤ i → i < j + n → ∃ y, DataW.trod enc P w base spare held m e ((cs.drop (i * P.cellsOf e)).take (P.cellsOf e)) = some y) → FitW (List.replicate n ks).flatten ((cs.drop (j * P.cellsOf e)).take (n * ks.length))
  | 0, j, _ => by simp [FitW]
  | n + 1, j, hall => by
    obtain ⟨y, hy⟩ := hall j (Nat.le_refl _) (by omega)
    have h1 := IH _ _ _ _ _ hg hl hy
    have h2 := open_items IH hg hl (cs := cs) (m := m) n (j + 1) fun i h1 h2 => hall i (by omega) (by omega)
    rw [List.replicate_succ, List.flatten_cons]
    have e2 : (cs.drop (j * P.cellsOf e)).take ((n + 1) * ks.length) = (cs.drop (j * P.cellsOf e)).take (P.cellsOf e) ++ (cs.drop ((j + 1) * P.cellsOf e)).take (n * ks.length) := by
      rw [hl, Nat.succ_mul n, Nat.add_comm, List.take_add, List.drop_drop, Nat.succ_mul j]
    rw [e2]
    exact h1.join h2
theorem open_kinds : ∀ d, OpenOk P enc w base spare held (kindsOf P d)
  | 0 => fun t ks fuel cs x h => by cases h
  | d + 1 => fun t ks fuel cs x hk hc h => by
    have IH := open_kinds d
    unfold kindsOf at hk
    cases hu : P.underlying t with
    | none => rw [hu] at hk; cases hk
    | some kd =>
      rw [hu] at hk
      cases kd with
      | bool =>
        cases hk
        obtain ⟨b, rfl, _⟩ := DataW.trod_bool hu h
        exact ⟨⟨b, rfl⟩, trivial⟩
      | int k =>
        cases hk
        obtain ⟨n, rfl, _, hw⟩ := DataW.trod_int hu h
        exact ⟨⟨n, rfl, wf_range hw⟩, trivial⟩
      | string =>
        cases hk
        obtain ⟨s, rfl, _, hs⟩ := DataW.trod_string hu h
        exact ⟨⟨s, rfl, hs⟩, trivial⟩
      | array n e =>
        simp only at hk
        split at hk
        case h_2 => cases hk
        case h_1 k0 i hg hi =>
        split at hk
        case h_2 => cases hk
        case h_1 hl =>
        cases hk
        have hl := Nat.eq_of_beq_eq_true hl
        obtain ⟨xs, m, rfl, rfl, hcl, hn, hx⟩ := DataW.trod_array hu h
        have := open_items IH hg hl (cs := cs) (m := m) n 0 fun i _ hi => by
          have h1 := hx i (by omega)
          exact ⟨xs[i]'(by omega), by rw [h1, List.getElem?_eq_getElem]⟩
        have hlen : ((List.replicate n k0).flatten).length = n * k0.length := by simp
        rw [Nat.zero_mul, List.drop_zero, List.take_of_length_le (by omega)] at this
        exact this
      | struct fs =>
        simp only at hk
        split at hk
        case h_2 => cases hk
        case h_1 hs =>
        obtain ⟨xs, m, rfl, rfl, hcl, hn, hx⟩ := DataW.trod_struct hu h
        have := open_fields IH (cs := cs) (n := m) fs.toList 0 ks hk fun f hf => by
          obtain ⟨i, hi⟩ := List.mem_iff_getElem?.1 hf
          rw [Array.getElem?_toList] at hi
          have h1 := hx i f hi
          have h2 := (Array.getElem?_eq_some_iff.1 hi).1
          exact ⟨xs[i]'(by omega), by rw [h1, List.getElem?_eq_getElem]⟩
        rw [List.drop_zero, List.take_of_length_le (by omega)] at this
        exact this
      | _ => cases hk
/-- A plain thing that comes in: its cells are of its kinds, and in their ranges. -/
theorem open_plain {t : TypeId} {ks : List CK} {fuel : Nat} {cs : List Value} {x : DataW H × List MemPlace} (hk : (kindsOf P 12 t, P.cellsOf t) = (some ks, ks.length)) (h : DataW.trod enc P w base spare held fuel t cs = some x) : FitW ks cs := by
  simp only [Prod.mk.injEq] at hk
  exact open_kinds 12 t ks fuel cs x hk.1 hk.2.symm h
/-- Numbers in a row. -/
theorem fitW_ints {k : IntKind} : ∀ {n : Nat} {cs : List Value} {r : List CK}, FitW (List.replicate n (.int k) ++ r) cs → ∃ (xs : List Int) (s : List Value), cs = xs.map (Value.int k) ++ s ∧ xs.length = n ∧ (∀ z ∈ xs, k.min ≤ z ∧ z ≤ k.max) ∧ FitW r s
  | 0, cs, r, h => ⟨[], cs, rfl, rfl, fun z hz => (by cases hz), h⟩
  | n + 1, [], r, h => h.elim
  | n + 1, v :: s, r, h => by
    obtain ⟨⟨z, rfl, hz⟩, h2⟩ := h
    obtain ⟨xs, s', rfl, h3, h4, h5⟩ := fitW_ints h2
    exact ⟨z :: xs, s', rfl, by simp [h3], fun y hy => by
      rcases List.mem_cons.1 hy with rfl | hy
      · exact hz
      · exact h4 y hy, h5⟩
end Go.Sx
