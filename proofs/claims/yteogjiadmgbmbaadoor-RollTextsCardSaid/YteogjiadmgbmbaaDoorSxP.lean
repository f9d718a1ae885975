/-
  The rules of the symbolic machine: structs and arrays of plain things (numbers, bools, strings, such structs) that are compared.
-/
import Derived.Test.YteogjiadmgbmbaaDoorSxO
set_option linter.unusedVariables false
set_option linter.unusedSimpArgs false
namespace Go.Sx
open Go Go.RowKit
variable {P : Program} {T : Tab}
inductive CK where
  | int (k : IntKind)
  | bool
  | str
def CK.fits : CK → Value → Prop
  | .int k, v => ∃ n, v = .int k n
  | .bool, v => ∃ b, v = .bool b
  | .str, v => ∃ s, v = .string s
def FitL : List CK → List Value → Prop
  | [], [] => True
  | k :: r, v :: s => k.fits v ∧ FitL r s
  | _, _ => False
theorem FitL.len : ∀ {ks : List CK} {cs : List Value}, FitL ks cs → ks.length = cs.length
  | [], [], _ => rfl
  | _ :: _, _ :: _, h => by simp [FitL.len h.2]
  | [], _ :: _, h => h.elim
  | _ :: _, [], h => h.elim
theorem FitL.split : ∀ {ks ls : List CK} {cs : List Value}, FitL (ks ++ ls) cs → ∃ a b, cs = a ++ b ∧ FitL ks a ∧ FitL ls b
  | [], ls, cs, h => ⟨[], cs, rfl, trivial, h⟩
  | k :: r, ls, [], h => h.elim
  | k :: r, ls, v :: s, h => by
    obtain ⟨a, b, rfl, h1, h2⟩ := FitL.split (ks := r) h.2
    exact ⟨v :: a, b, rfl, ⟨h.1, h1⟩, h2⟩
theorem FitL.join : ∀ {ks ls : List CK} {a b : List Value}, FitL ks a → FitL ls b → FitL (ks ++ ls) (a ++ b)
  | [], ls, [], b, _, h => h
  | k :: r, ls, v :: s, b, h, h2 => ⟨h.1, FitL.join h.2 h2⟩
  | [], _, _ :: _, _, h, _ => h.elim
  | _ :: _, _, [], _, h, _ => h.elim
def eq1 : Value → Value → Bool
  | .int _ a, .int _ b => decide (a = b)
  | .bool a, .bool b => decide (a = b)
  | .string a, .string b => decide (a = b)
  | _, _ => false
def eqC : List Value → List Value → Bool
  | [], [] => true
  | a :: r, b :: s => eq1 a b && eqC r s
  | _, _ => false
theorem eqC_append : ∀ {a a' b b' : List Value}, a.length = a'.length → eqC (a ++ b) (a' ++ b') = (eqC a a' && eqC b b')
  | [], [], b, b', _ => by simp [eqC]
  | x :: r, y :: s, b, b', h => by simp only [List.cons_append, eqC, eqC_append (a := r) (a' := s) (by simpa using h), Bool.and_assoc]
  | [], _ :: _, _, _, h => by simp at h
  | _ :: _, [], _, _, h => by simp at h
def kindsF (P : Program) (g : TypeId → Option (List CK)) : List Field → Nat → Option (List CK)
  | [], _ => some []
  | f :: r, off => match f.name == "_", Nat.beq f.offset off, g f.type, P.info? f.type with
    | false, true, some ks, some i => match Nat.beq ks.length (P.cellsOf f.type) with
      | true => (kindsF P g r (off + ks.length)).map (ks ++ ·)
      | false => none
    | _, _, _, _ => none
def kindsOf (P : Program) : Nat → TypeId → Option (List CK)
  | 0, _ => none
  | d + 1, t => match P.underlying t with
    | some .bool => some [.bool]
    | some (.int k) => some [.int k]
    | some .string => some [.str]
    | some (.array n e) => match kindsOf P d e, P.info? e with
      | some ks, some i => match Nat.beq ks.length (P.cellsOf e) with
        | true => some (List.replicate n ks).flatten
        | false => none
      | _, _ => none
    | some (.struct fs) => match P.stoodInHeld t with
      | false => kindsF P (kindsOf P d) fs.toList 0
      | true => none
    | _ => none
def mkV (P : Program) (t : TypeId) (cs : List Value) : Value :=
  match P.underlying t with
  | some (.array _ _) => .agg cs.toArray
  | some (.struct _) => .agg cs.toArray
  | _ => cs.headD undef
theorem run_part_mk {d : Nat} {e : TypeId} {ks : List CK} (hk : kindsOf P d e = some ks) {i : TypeInfo} (hi : P.info? e = some i) (hn : ks.length = P.cellsOf e) {xs : Array Value} {pre a rest : List Value} (hx : xs.toList = pre ++ (a ++ rest)) (ha : FitL ks a) (w : World) :
    (part e xs pre.length).run P w = .ok (mkV P e a) w := by
  have hla := ha.len
  have hget : ∀ v, a = [v] → xs[pre.length]? = some v := fun v hv => by
    rw [← Array.getElem?_toList, hx, List.getElem?_append_right (Nat.le_refl _), Nat.sub_self, hv]; rfl
  have hagg : (xs.extract pre.length (pre.length + P.cellsOf e)) = a.toArray := by
    apply Array.ext'
    rw [Array.toList_extract, hx]
    simp only [List.extract, Nat.add_sub_cancel_left]
    rw [List.drop_left' rfl, List.take_left' (by omega)]
  cases d with
  | zero => cases hk
  | succ d =>
    unfold kindsOf at hk
    cases hu : P.underlying e with
    | none => rw [hu] at hk; cases hk
    | some kd =>
      rw [hu] at hk
      cases kd with
      | bool =>
        cases hk
        match a, ha with
        | [v], h => simp [part, isAgg, run_underlying hu, mkV, hu, hget v rfl]
        | _ :: _ :: _, h => exact h.2.elim
      | int k =>
        cases hk
        match a, ha with
        | [v], h => simp [part, isAgg, run_underlying hu, mkV, hu, hget v rfl]
        | _ :: _ :: _, h => exact h.2.elim
      | string =>
        cases hk
        match a, ha with
        | [v], h => simp [part, isAgg, run_underlying hu, mkV, hu, hget v rfl]
        | _ :: _ :: _, h => exact h.2.elim
      | array n e' => simp [part, isAgg, run_underlying hu, mkV, hu, run_sizeOf w hi, hagg]
      | struct fs => simp [part, isAgg, run_underlying hu, mkV, hu, run_sizeOf w hi, hagg]
      | _ => cases hk
def EqOk (P : Program) (dd : Nat) (g : TypeId → Option (List CK)) : Prop := ∀ e ks, g e = some ks → ∀ cs cs' w, FitL ks cs → FitL ks cs' → (Op.equalIn dd e (mkV P e cs) (mkV P e cs')).run P w = .ok (eqC cs cs') w
theorem run_fields {dd d : Nat} (IH : EqOk P dd (kindsOf P d)) (w : World) {xs ys : Array Value} : ∀ (fs : List Field) (off : Nat) (ks : List CK), kindsF P (kindsOf P d) fs off = some ks → ∀ pre pre' cs cs', xs.toList = pre ++ cs → ys.toList = pre' ++ cs' → pre.length = off → pre'.length = off → FitL ks cs → FitL ks cs' →
    (Op.eqFields dd xs ys fs).run P w = .ok (eqC cs cs') w
  | [], off, ks, hk, pre, pre', cs, cs', hx, hy, h1, h2, hc, hc' => by
    cases hk
    match cs, cs', hc, hc' with
    | [], [], _, _ => simp [Op.eqFields, eqC]
  | f :: r, off, ks, hk, pre, pre', cs, cs', hx, hy, h1, h2, hc, hc' => by
    simp only [kindsF] at hk
    split at hk
    case h_2 => cases hk
    case h_1 k0 i hn ho hg hi =>
    split at hk
    case h_2 => cases hk
    case h_1 hl =>
    have hl := Nat.eq_of_beq_eq_true hl
    have ho := Nat.eq_of_beq_eq_true ho
    obtain ⟨kr, hr, rfl⟩ := Option.map_eq_some_iff.1 hk
    obtain ⟨a, b, rfl, ha, hb⟩ := hc.split
    obtain ⟨a', b', rfl, ha', hb'⟩ := hc'.split
    have hn : f.name ≠ "_" := by simpa using hn
    have p1 := run_part_mk hg hi hl hx ha w
    have p2 := run_part_mk hg hi hl hy ha' w
    have p3 := IH _ _ hg a a' w ha ha'
    have e1 := ha.len
    have e2 := ha'.len
    have ih := run_fields IH w r (off + k0.length) kr hr (pre ++ a) (pre' ++ a') b b' (by rw [hx, List.append_assoc]) (by rw [hy, List.append_assoc]) (by rw [List.length_append]; omega) (by rw [List.length_append]; omega) hb hb'
    rw [h1] at p1
    rw [h2] at p2
    simp only [Op.eqFields, if_pos hn, ho, Sem.run_bind, p1, p2, p3, Result.andThen_ok, eqC_append (show a.length = a'.length by omega)]
    cases eqC a a'
    · simp
    · simpa using ih
theorem run_itemsP {dd d : Nat} {e : TypeId} {ks : List CK} (IH : EqOk P dd (kindsOf P d)) (hg : kindsOf P d e = some ks) {i : TypeInfo} (hi : P.info? e = some i) (hl : ks.length = P.cellsOf e) (w : World) {xs ys : Array Value} : ∀ (n j : Nat) (pre pre' cs cs' : List Value), xs.toList = pre ++ cs → ys.toList = pre' ++ cs' → pre.length = j * P.cellsOf e → pre'.length = j * P.cellsOf e → FitL (List.replicate n ks).flatten cs → FitL (List.replicate n ks).flatten cs' →
    (Op.eqItems dd e (P.cellsOf e) xs ys (List.range' j n)).run P w = .ok (eqC cs cs') w
  | 0, j, pre, pre', cs, cs', hx, hy, h1, h2, hc, hc' => by
    match cs, cs', hc, hc' with
    | [], [], _, _ => simp [Op.eqItems, eqC]
  | n + 1, j, pre, pre', cs, cs', hx, hy, h1, h2, hc, hc' => by
    rw [List.replicate_succ, List.flatten_cons] at hc hc'
    obtain ⟨a, b, rfl, ha, hb⟩ := hc.split
    obtain ⟨a', b', rfl, ha', hb'⟩ := hc'.split
    have p1 := run_part_mk hg hi hl hx ha w
    have p2 := run_part_mk hg hi hl hy ha' w
    have p3 := IH _ _ hg a a' w ha ha'
    have e1 := ha.len
    have e2 := ha'.len
    have ih := run_itemsP IH hg hi hl w n (j + 1) (pre ++ a) (pre' ++ a') b b' (by rw [hx, List.append_assoc]) (by rw [hy, List.append_assoc]) (by rw [List.length_append, Nat.succ_mul]; omega) (by rw [List.length_append, Nat.succ_mul]; omega) hb hb'
    rw [h1] at p1
    rw [h2] at p2
    rw [List.range'_succ]
    simp only [Op.eqItems, Sem.run_bind, p1, p2, p3, Result.andThen_ok, eqC_append (show a.length = a'.length by omega)]
    cases eqC a a'
    · simp
    · simpa using ih
theorem run_eq_plain (D : Nat) : ∀ m, EqOk P (D + m) (kindsOf P m)
  | 0 => fun e ks h => by cases h
  | m + 1 => fun t ks hk cs cs' w hc hc' => by
    have IH := run_eq_plain D m
    unfold kindsOf at hk
    cases hu : P.underlying t with
    | none => rw [hu] at hk; cases hk
    | some kd =>
      rw [hu] at hk
      cases kd with
      | bool =>
        cases hk
        match cs, cs', hc, hc' with
        | [_], [_], ⟨⟨a, rfl⟩, _⟩, ⟨⟨b, rfl⟩, _⟩ =>
          simp only [mkV, hu, List.headD_cons]
          rw [show D + (m + 1) = (D + m) + 1 from rfl, run_equalIn_bool w _ t a b hu]
          simp only [eqC, eq1, Bool.and_true]
          cases a <;> cases b <;> rfl
        | _ :: _ :: _, _, h, _ => exact h.2.elim
        | _, _ :: _ :: _, _, h => exact h.2.elim
      | int k =>
        cases hk
        match cs, cs', hc, hc' with
        | [_], [_], ⟨⟨a, rfl⟩, _⟩, ⟨⟨b, rfl⟩, _⟩ =>
          simp only [mkV, hu, List.headD_cons]
          rw [show D + (m + 1) = (D + m) + 1 from rfl, run_equalIn_int w _ t k k a b hu]
          simp only [eqC, eq1, Bool.and_true]
          congr 1
        | _ :: _ :: _, _, h, _ => exact h.2.elim
        | _, _ :: _ :: _, _, h => exact h.2.elim
      | string =>
        cases hk
        match cs, cs', hc, hc' with
        | [_], [_], ⟨⟨a, rfl⟩, _⟩, ⟨⟨b, rfl⟩, _⟩ =>
          simp only [mkV, hu, List.headD_cons]
          rw [show D + (m + 1) = (D + m) + 1 from rfl, run_equalIn_string w _ t a b hu]
          simp only [eqC, eq1, Bool.and_true, ba_toList_eq]
        | _ :: _ :: _, _, h, _ => exact h.2.elim
        | _, _ :: _ :: _, _, h => exact h.2.elim
      | array n e =>
        simp only at hk
        split at hk
        case h_2 => cases hk
        case h_1 k0 i hg hi =>
        split at hk
        case h_2 => cases hk
        case h_1 hl =>
        cases hk
        have hl := Nat.eq_of_beq_eq_true hl
        simp only [mkV, hu]
        rw [show D + (m + 1) = (D + m) + 1 from rfl, run_equalIn_array w (D + m) _ _ hu hi, List.range_eq_range']
        exact run_itemsP IH hg hi hl w n 0 [] [] cs cs' rfl rfl (by simp) (by simp) hc hc'
      | struct fs =>
        simp only at hk
        split at hk
        case h_2 => cases hk
        case h_1 hs =>
        simp only [mkV, hu]
        have hfs : P.fieldsOf t = fs := by simp [Program.fieldsOf, hu]
        rw [show D + (m + 1) = (D + m) + 1 from rfl, run_equalIn_struct w (D + m) t _ _ (by rw [hfs]; exact hu) hs, hfs]
        exact run_fields IH w fs.toList 0 ks hk [] [] cs cs' rfl rfl rfl rfl hc hc'
      | _ => cases hk
/-! ### The same, of segments -/
def eqS : List Seg → List Seg → Bool
  | [], [] => true
  | .one a :: r, .one b :: s => eq1 a b && eqS r s
  | .ints _ _ xs :: r, .ints _ _ ys :: s => decide (xs = ys) && eqS r s
  | _, _ => false
def oneFit : CK → Value → Bool
  | .int k, .int k' _ => keq k k'
  | .bool, .bool _ => true
  | .str, .string _ => true
  | _, _ => false
theorem oneFit_spec {k : CK} {v : Value} (h : oneFit k v = true) : k.fits v := by
  cases k <;> cases v <;> simp only [oneFit] at h <;> first | cases h; done | skip
  · have := keq_spec h; subst this; exact ⟨_, rfl⟩
  · exact ⟨_, rfl⟩
  · exact ⟨_, rfl⟩
def intsFit (k : IntKind) : Nat → List CK → (List CK → Bool) → Bool
  | 0, ks, f => f ks
  | n + 1, .int k' :: r, f => match keq k k' with
    | true => intsFit k n r f
    | false => false
  | _ + 1, _, _ => false
theorem intsFit_spec {k : IntKind} : ∀ {n : Nat} {ks : List CK} {f : List CK → Bool}, intsFit k n ks f = true → ∃ r, ks = List.replicate n (.int k) ++ r ∧ f r = true
  | 0, ks, f, h => ⟨ks, rfl, h⟩
  | n + 1, [], f, h => by cases h
  | n + 1, .int k' :: r, f, h => by
    simp only [intsFit] at h
    split at h
    · rename_i hk
      have := keq_spec hk; subst this
      obtain ⟨s, rfl, hs⟩ := intsFit_spec h
      exact ⟨s, rfl, hs⟩
    · cases h
  | n + 1, .bool :: r, f, h => by cases h
  | n + 1, .str :: r, f, h => by cases h
def segsFit : List CK → List Seg → Bool
  | [], [] => true
  | k :: r, .one v :: s => oneFit k v && segsFit r s
  | ks, .ints k n _ :: s => intsFit k n ks fun r => segsFit r s
  | _, _ => false
theorem fit_ints {k : IntKind} : ∀ {n : Nat} {xs : List Int}, xs.length = n → FitL (List.replicate n (.int k)) (xs.map (Value.int k))
  | 0, [], _ => trivial
  | n + 1, x :: r, h => ⟨⟨x, rfl⟩, fit_ints (by simpa using h)⟩
  | 0, _ :: _, h => by simp at h
  | _ + 1, [], h => by simp at h
theorem segsFit_spec : ∀ {l : List Seg} {ks : List CK}, segsFit ks l = true → SegsOk l → FitL ks (flat l)
  | [], [], _, _ => trivial
  | [], _ :: _, h, _ => by cases h
  | .one v :: s, [], h, _ => by cases h
  | .one v :: s, k :: r, h, ho => by
    simp only [segsFit, Bool.and_eq_true] at h
    exact ⟨oneFit_spec h.1, segsFit_spec h.2 ho.2⟩
  | .ints k n xs :: s, ks, h, ho => by
    have h : intsFit k n ks (fun r => segsFit r s) = true := by cases ks <;> exact h
    obtain ⟨r, rfl, hr⟩ := intsFit_spec h
    exact FitL.join (fit_ints ho.1) (segsFit_spec hr ho.2)
  | .raw _ _ :: s, [], h, _ => by cases h
  | .raw _ _ :: s, _ :: _, h, _ => by cases h
theorem eqC_ints (k : IntKind) : ∀ {xs ys : List Int}, eqC (xs.map (Value.int k)) (ys.map (Value.int k)) = decide (xs = ys)
  | [], [] => rfl
  | x :: r, y :: s => by
    simp only [List.map_cons, eqC, eq1, eqC_ints k (xs := r) (ys := s)]
    rw [Bool.eq_iff_iff]; simp
  | [], _ :: _ => by simp [eqC]
  | _ :: _, [] => by simp [eqC]
theorem eqS_spec : ∀ {l l' : List Seg} {ks : List CK}, segsFit ks l = true → segsFit ks l' = true → SegsOk l → SegsOk l' → (∃ b, eqS l l' = b) → l.map Seg.len = l'.map Seg.len → (∀ n cs, Seg.raw n cs ∉ l) → (l.map fun s => match s with | .one _ => true | _ => false) = (l'.map fun s => match s with | .one _ => true | _ => false) → eqC (flat l) (flat l') = eqS l l'
  | [], [], _, _, _, _, _, _, _, _, _ => rfl
  | .one a :: r, .one b :: s, [], h, _, _, _, _, _, _, _ => by cases h
  | .one a :: r, .one b :: s, k :: ks, h, h', ho, ho', _, hl, hr, hs => by
    simp only [segsFit, Bool.and_eq_true] at h h'
    simp only [List.map_cons, List.cons.injEq] at hl hs
    have := eqS_spec h.2 h'.2 ho.2 ho'.2 ⟨_, rfl⟩ hl.2 (fun n cs hm => hr n cs (List.mem_cons_of_mem _ hm)) hs.2
    show (eq1 a b && eqC (flat r) (flat s)) = (eq1 a b && eqS r s)
    rw [this]
  | .ints k n xs :: r, .ints k' n' ys :: s, ks, h, h', ho, ho', _, hl, hr, hs => by
    have h : intsFit k n ks (fun r' => segsFit r' r) = true := by cases ks <;> exact h
    have h' : intsFit k' n' ks (fun r' => segsFit r' s) = true := by cases ks <;> exact h'
    simp only [List.map_cons, List.cons.injEq] at hl hs
    have hn : n = n' := hl.1
    subst hn
    obtain ⟨q, rfl, hq⟩ := intsFit_spec h
    obtain ⟨q', e, hq'⟩ := intsFit_spec h'
    have e2 := (List.append_inj e (by simp)).2
    subst e2
    have := eqS_spec hq hq' ho.2 ho'.2 ⟨_, rfl⟩ hl.2 (fun n cs hm => hr n cs (List.mem_cons_of_mem _ hm)) hs.2
    have l1 : xs.length = n := ho.1
    have l2 : ys.length = n := ho'.1
    show eqC (xs.map (Value.int k) ++ flat r) (ys.map (Value.int k') ++ flat s) = (decide (xs = ys) && eqS r s)
    rw [eqC_append (by simp [l1, l2]), this]
    congr 1
    cases n with
    | zero =>
      have := List.eq_nil_of_length_eq_zero l1
      have := List.eq_nil_of_length_eq_zero l2
      subst_vars; rfl
    | succ n =>
      have e1 := (List.append_inj e (by simp)).1
      simp only [List.replicate_succ, List.cons.injEq, CK.int.injEq] at e1
      rw [e1.1]
      exact eqC_ints k'
  | .raw n cs :: r, _, _, _, _, _, _, _, _, hr, _ => absurd (List.mem_cons_self) (hr n cs)
  | .one _ :: _, .ints _ _ _ :: _, _, _, _, _, _, _, _, _, hs => by simp at hs
  | .ints _ _ _ :: _, .one _ :: _, _, _, _, _, _, _, _, _, hs => by simp at hs
  | .ints _ _ _ :: _, .raw _ _ :: _, ks, _, h', _, _, _, _, _, _ => by cases ks <;> cases h'
  | .one _ :: _, .raw _ _ :: _, _, _, _, _, _, _, _, _, hs => by simp at hs
  | [], _ :: _, _, _, _, _, _, _, hl, _, _ => by simp at hl
  | .one _ :: _, [], _, _, _, _, _, _, hl, _, _ => by simp at hl
  | .ints _ _ _ :: _, [], _, _, _, _, _, _, hl, _, _ => by simp at hl
/-- The segments are alike: the same lengths, single cells at the same places. -/
def shapeB : List Seg → List Seg → Bool
  | [], [] => true
  | .one _ :: r, .one _ :: s => shapeB r s
  | .ints _ n _ :: r, .ints _ n' _ :: s => match Nat.beq n n' with
    | true => shapeB r s
    | false => false
  | _, _ => false
theorem shapeB_spec : ∀ {l l' : List Seg}, shapeB l l' = true → l.map Seg.len = l'.map Seg.len ∧ (∀ n cs, Seg.raw n cs ∉ l) ∧ (l.map fun s => match s with | .one _ => true | _ => false) = (l'.map fun s => match s with | .one _ => true | _ => false)
  | [], [], _ => ⟨rfl, fun _ _ h => (by cases h), rfl⟩
  | .one _ :: r, .one _ :: s, h => by
    obtain ⟨h1, h2, h3⟩ := shapeB_spec (l := r) (l' := s) h
    exact ⟨by simp [Seg.len, h1], fun n cs hm => by rcases List.mem_cons.1 hm with e | hm; cases e; exact h2 n cs hm, by simp [h3]⟩
  | .ints _ n _ :: r, .ints _ n' _ :: s, h => by
    simp only [shapeB] at h
    split at h
    · rename_i hn
      have := Nat.eq_of_beq_eq_true hn; subst this
      obtain ⟨h1, h2, h3⟩ := shapeB_spec (l := r) (l' := s) h
      exact ⟨by simp [Seg.len, h1], fun n cs hm => by rcases List.mem_cons.1 hm with e | hm; cases e; exact h2 n cs hm, by simp [h3]⟩
    · cases h
  | .raw _ _ :: _, [], h => by cases h
  | .raw _ _ :: _, _ :: _, h => by cases h
  | [], _ :: _, h => by cases h
  | .one _ :: _, [], h => by cases h
  | .ints _ _ _ :: _, [], h => by cases h
  | .one _ :: _, .ints _ _ _ :: _, h => by cases h
  | .one _ :: _, .raw _ _ :: _, h => by cases h
  | .ints _ _ _ :: _, .one _ :: _, h => by cases h
  | .ints _ _ _ :: _, .raw _ _ :: _, h => by cases h
def isRowB (P : Program) (t : TypeId) : Bool := match P.underlying t with
  | some (.array _ _) => true
  | some (.struct _) => true
  | _ => false
/-- Compared structs, or arrays, of plain things: 'refine eq_plain (ks := _) (by kernel_rfl) rfl rfl rfl oks oks' ?_'. -/
theorem eq_plain {t : TypeId} {ks : List CK} {l l' : List Seg} (hk : (kindsOf P 12 t, isRowB P t, P.eqGuardType P.depth t) = (some ks, true, false)) (hf : segsFit ks l = true) (hf' : segsFit ks l' = true) (hs : shapeB l l' = true) (ho : SegsOk l) (ho' : SegsOk l') {K : Bool → Prop} (hK : K (eqS l l')) : EqVC P t l l' K := by
  simp only [Prod.mk.injEq] at hk
  obtain ⟨h1, h2, h3⟩ := hk
  obtain ⟨s1, s2, s3⟩ := shapeB_spec hs
  refine ⟨_, fun w x y => ?_, hK⟩
  simp only [Sem.run_bind, run_guard h3, Result.andThen_ok]
  have := run_eq_plain (P := P) 9988 12 t ks h1 (flat l) (flat l') w (segsFit_spec hf ho) (segsFit_spec hf' ho')
  rw [eqS_spec hf hf' ho ho' ⟨_, rfl⟩ s1 s2 s3] at this
  have e : ∀ cs, mkV P t cs = .agg cs.toArray := fun cs => by
    unfold isRowB at h2
    unfold mkV
    split at h2 <;> first | rfl | cases h2
  rw [e, e] at this
  exact this
/-- What is loaded from a box of another function's, whose cells are known. -/
theorem xload_box (hT : TabOK P T) {m : St} {t : TypeId} {ti : TI} (ht : lk t T = some ti) {segs : List Seg} {A : Option Addr} {o n : Nat} {k : SV → Prop} (hr : Rd m.pr m.snap A (flat segs)) (hok : SegsOk segs) (hn : n = o) (h0 : 0 < ti.size) (h : cutAt segs o fun _ q => cutAt q ti.size fun l _ => mkSV ti.agg l k) : XLoadVC P m t A n k :=
  xload_row hT ht (fun _ : Unit => segs) (xs := [()]) (x := ()) (sz := (flat segs).length) (i := 0) (o := o) (by simpa using hr) (fun _ _ => rfl) hok rfl (by omega) h0 h
theorem xptr_den (ad : Nat → Nat) (g : Nat) : (SV.xptr (some ⟨g, 0, none⟩) 0).den ad = .pointer (some ⟨g, 0, none⟩) := by simp [SV.den, Addr.add]
end Go.Sx
