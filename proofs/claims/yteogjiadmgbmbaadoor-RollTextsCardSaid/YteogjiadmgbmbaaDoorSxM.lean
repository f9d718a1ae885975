/-
  The rules of the symbolic machine: arrays of numbers, and structs, that are compared.
-/
import Derived.Test.YteogjiadmgbmbaaDoorSxL
import Derived.ChangeKeysEq
import Derived.Laws.StructEq
set_option linter.unusedVariables false
set_option linter.unusedSimpArgs false
namespace Go.Sx
open Go Go.RowKit
variable {P : Program} {T : Tab}

/-- An array of numbers. -/
def arrB (P : Program) (t e : TypeId) (n : Nat) (k : IntKind) : Bool :=
  (match P.underlying t with | some (.array m e') => Nat.beq m n && Nat.beq e' e | _ => false) && (match P.underlying e with | some (.int k') => keq k k' | _ => false) && Nat.beq (P.cellsOf e) 1 && (P.info? e).isSome && !P.eqGuardType P.depth t
theorem arrB_spec {t e : TypeId} {n : Nat} {k : IntKind} (h : arrB P t e n k = true) : P.underlying t = some (.array n e) ∧ P.underlying e = some (.int k) ∧ P.cellsOf e = 1 ∧ (∃ i, P.info? e = some i) ∧ P.eqGuardType P.depth t = false := by
  simp only [arrB, Bool.and_eq_true, Bool.not_eq_true'] at h
  obtain ⟨⟨⟨⟨h1, h2⟩, h3⟩, h4⟩, h5⟩ := h
  refine ⟨?_, ?_, Nat.eq_of_beq_eq_true h3, Option.isSome_iff_exists.1 h4, h5⟩
  · split at h1
    · rename_i m e' he
      simp only [Bool.and_eq_true] at h1
      rw [he, Nat.eq_of_beq_eq_true h1.1, Nat.eq_of_beq_eq_true h1.2]
    · cases h1
  · split at h2
    · rename_i k' he
      rw [he, keq_spec h2]
    · cases h2
theorem run_part_int {e : TypeId} {k : IntKind} (he : P.underlying e = some (.int k)) {cs : Array Value} {j : Nat} {v : Value} (hv : cs[j]? = some v) (w : World) : (part e cs j).run P w = .ok v w := by
  simp [part, isAgg, run_underlying he, hv]
theorem run_items {d : Nat} {e : TypeId} {k : IntKind} (he : P.underlying e = some (.int k)) (l l' : List Int) (hl : l.length = l'.length) (w : World) : ∀ (m j : Nat), j + m = l.length → (Op.eqItems (d + 1) e 1 (l.map (Value.int k)).toArray (l'.map (Value.int k)).toArray (List.range' j m)).run P w = .ok (decide (l.drop j = l'.drop j)) w := by
  intro m
  induction m with
  | zero =>
    intro j hj
    have h1 : l.drop j = [] := List.drop_eq_nil_of_le (by omega)
    have h2 : l'.drop j = [] := List.drop_eq_nil_of_le (by omega)
    simp [Op.eqItems, h1, h2]
  | succ m ih =>
    intro j hj
    have hlt : j < l.length := by omega
    have hlt' : j < l'.length := by omega
    have e1 := run_part_int (P := P) he (cs := (l.map (Value.int k)).toArray) (j := j * 1) (v := .int k l[j]) (by simp [hlt]) w
    have e2 := run_part_int (P := P) he (cs := (l'.map (Value.int k)).toArray) (j := j * 1) (v := .int k l'[j]) (by simp [hlt']) w
    have e3 := run_equalIn_int (P := P) w d e k k l[j] l'[j] he
    rw [List.range'_succ]
    simp only [Op.eqItems, Sem.run_bind, e1, e2, e3, Result.andThen_ok]
    rw [List.drop_eq_getElem_cons hlt, List.drop_eq_getElem_cons hlt']
    by_cases h : l[j] = l'[j]
    · have := ih (j + 1) (by omega)
      simp only [h, beq_self_eq_true, Bool.not_true, Bool.false_eq_true, if_false, this]
      congr 1
      rw [decide_eq_decide, List.cons.injEq]
      exact ⟨fun h => ⟨rfl, h⟩, fun h => h.2⟩
    · have h1 : (l[j] == l'[j]) = false := by simpa using h
      have h2 : ¬ (l[j] :: l.drop (j + 1) = l'[j] :: l'.drop (j + 1)) := fun e => h (List.cons.inj e).1
      simp only [h1, Bool.not_false, if_true, Sem.run_pure, decide_eq_false h2]
theorem run_eq_arr {t e : TypeId} {n : Nat} {k : IntKind} (h : arrB P t e n k = true) {l l' : List Int} (hl : l.length = n) (hl' : l'.length = n) (d : Nat) (w : World) : (Op.equalIn (d + 2) t (.agg (l.map (Value.int k)).toArray) (.agg (l'.map (Value.int k)).toArray)).run P w = .ok (decide (l = l')) w := by
  obtain ⟨h1, h2, h3, ⟨i, h4⟩, _⟩ := arrB_spec h
  rw [run_equalIn_array (P := P) w (d + 1) _ _ h1 h4, h3, List.range_eq_range']
  have := run_items (P := P) (d := d) h2 l l' (by omega) w n 0 (by omega)
  simpa using this
theorem run_guard {t : TypeId} (h : P.eqGuardType P.depth t = false) (x y : Operand) (a b : Array Value) (w : World) : (eqGuard .eql t x y (.agg a) (.agg b)).run P w = .ok () w := by
  simp [eqGuard, h]
theorem eq_arr {t e : TypeId} {n : Nat} {k : IntKind} (h : arrB P t e n k = true) {l l' : List Int} (hl : l.length = n) (hl' : l'.length = n) {K : Bool → Prop} (hk : K (decide (l = l'))) : EqVC P t [.ints k n l] [.ints k n l'] K := by
  obtain ⟨_, _, _, _, h5⟩ := arrB_spec h
  refine ⟨_, fun w x y => ?_, hk⟩
  have := run_eq_arr (P := P) h hl hl' 9998 w
  simp only [flat, Seg.cells, List.append_nil, Sem.run_bind, run_guard h5, Result.andThen_ok]
  exact this
/-- A struct of a number and an array of numbers. -/
def nvB (P : Program) (t f0 f1 e : TypeId) (n : Nat) (k0 k : IntKind) : Bool :=
  (match (P.fieldsOf t).toList with | [a, b] => !(a.name == "_") && !(b.name == "_") && Nat.beq a.type f0 && Nat.beq b.type f1 && Nat.beq a.offset 0 && Nat.beq b.offset 1 | _ => false) && (match P.underlying t with | some (.struct _) => true | _ => false) &&
  (match P.underlying f0 with | some (.int k') => keq k0 k' | _ => false) && arrB P f1 e n k && !P.stoodInHeld t && !P.eqGuardType P.depth t && decide ((P.info? f1).map (·.size) = some n)
theorem eq_nv {t f0 f1 e : TypeId} {n : Nat} {k0 k : IntKind} (h : nvB P t f0 f1 e n k0 k = true) {x x' : Int} {l l' : List Int} (hl : l.length = n) (hl' : l'.length = n) {K : Bool → Prop} (hk : K (decide (x = x') && decide (l = l'))) : EqVC P t [.one (.int k0 x), .ints k n l] [.one (.int k0 x'), .ints k n l'] K := by
  simp only [nvB, Bool.and_eq_true, Bool.not_eq_true', decide_eq_true_eq] at h
  obtain ⟨⟨⟨⟨⟨⟨h1, h2⟩, h3⟩, h4⟩, h5⟩, h6⟩, h7⟩ := h
  refine ⟨_, fun w y z => ?_, hk⟩
  split at h1
  case h_2 => cases h1
  case h_1 a b hf =>
  simp only [Bool.and_eq_true, Bool.not_eq_true'] at h1
  obtain ⟨⟨⟨⟨⟨g1, g2⟩, g3⟩, g4⟩, g5⟩, g6⟩ := h1
  have g1 : a.name ≠ "_" := by simpa using g1
  have g2 : b.name ≠ "_" := by simpa using g2
  have g3 := Nat.eq_of_beq_eq_true g3
  have g4 := Nat.eq_of_beq_eq_true g4
  have g5 := Nat.eq_of_beq_eq_true g5
  have g6 := Nat.eq_of_beq_eq_true g6
  have hu : P.underlying t = some (.struct (P.fieldsOf t)) := by
    unfold Program.fieldsOf
    split at h2
    · rename_i fs he; rw [he]
    · cases h2
  have hu0 : P.underlying f0 = some (.int k0) := by
    split at h3
    · rename_i k' he; rw [he, keq_spec h3]
    · cases h3
  have hu1 := (arrB_spec h4).1
  have hsz : ∀ w, (sizeOf f1).run P w = .ok n w := fun w => by
    cases hq : P.info? f1 with
    | none => rw [hq] at h7; cases h7
    | some i => rw [hq] at h7; simp only [Option.map_some, Option.some.injEq] at h7; rw [run_sizeOf w hq, Program.cellsOf, hq]; simp [h7]
  have pa : ∀ (z : Int) (m : List Int), (part f0 (flat [.one (.int k0 z), .ints k n m]).toArray 0).run P w = .ok (.int k0 z) w := fun z m => run_part_int hu0 (by simp [flat, Seg.cells]) w
  have pb : ∀ (z : Int) (m : List Int), m.length = n → (part f1 (flat [.one (.int k0 z), .ints k n m]).toArray 1).run P w = .ok (.agg (m.map (Value.int k)).toArray) w := fun z m hm => by
    simp only [part, isAgg, Sem.run_bind, run_underlying hu1, Result.andThen_ok, Sem.run_pure, if_true, hsz]
    congr 2
    apply Array.ext'
    simp only [flat, Seg.cells, List.append_nil]
    simp
    exact List.take_of_length_le (by simp [hm])
  have e1 := run_equalIn_int (P := P) w 9998 f0 k0 k0 x x' hu0
  have e2 := run_eq_arr (P := P) h4 hl hl' 9997 w
  simp only [Sem.run_bind, run_guard h6, Result.andThen_ok]
  show (Op.equalIn (9999 + 1) t _ _).run P w = _
  rw [run_equalIn_struct (P := P) w 9999 t _ _ hu h5, hf]
  have p1 := pa x l
  have p2 := pa x' l'
  have p3 := pb x l hl
  have p4 := pb x' l' hl'
  simp only [Op.eqFields, if_pos g1, if_pos g2, g3, g4, g5, g6, Sem.run_bind, p1, p2, p3, p4, Result.andThen_ok, e1, e2]
  by_cases hx : x = x'
  · subst hx
    simp only [beq_self_eq_true, Bool.not_true, Bool.false_eq_true, if_false, Sem.run_bind, p3, p4, Result.andThen_ok, e2, decide_true, Bool.true_and]
    cases decide (l = l') <;> rfl
  · have h1 : (x == x') = false := by simpa using hx
    simp only [h1, Bool.not_false, if_true, Sem.run_pure, decide_eq_false hx, Bool.false_and]
end Go.Sx
