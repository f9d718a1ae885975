/-
  The rules of the symbolic machine: a region whose order is open. What reads alone is taken in the plan's order, what makes a new variable may come up at any time.
-/
import Derived.Test.YteogjiadmgbmbaaDoorSxH
import Derived.OrdersHeld
set_option linter.unusedVariables false
set_option linter.unusedSimpArgs false
namespace Go.Sx
open Go Go.RowKit
variable {P : Program} {T : Tab}

/-! ### Whatever order is picked: S stays, but behind the operations of ds -/
def wpAnyD (P : Program) (md : Region.Mode) (ops : Array Oper) (Q : Exit → Act → World → Prop) (S : World → Prop) (ds : List Nat) : Nat → Array Bool → Act → World → Prop
  | 0, listed, a, w => Region.ready md ops listed = [] ∧ Q .normal a w
  | fuel + 1, listed, a, w =>
    (Region.ready md ops listed = [] → Q .normal a w) ∧
    ∀ i ∈ Region.ready md ops listed, wpOp P ops Q i (fun a' w' => (i ∉ ds → S w → S w') ∧ wpAnyD P md ops Q S ds fuel (listed.setIfInBounds i true) a' w') a w
/-- What is listed is closed under the edges. -/
def LClosed (md : Region.Mode) (ops : Array Oper) (listed : Array Bool) : Prop :=
  ∀ j oj, ops[j]? = some oj → listed.getD j false = true → ∀ e ∈ oj.after, Region.binds md e = true → listed.getD e.on false = true
theorem LClosed.set {md : Region.Mode} {ops : Array Oper} {listed : Array Bool} {i : Nat} (h : LClosed md ops listed) (hi : i ∈ Region.ready md ops listed) : LClosed md ops (listed.setIfInBounds i true) := by
  obtain ⟨_, oi, hoi, hall⟩ := mem_ready.1 hi
  intro j oj hj hl e he hb
  by_cases hij : i = j
  · subst hij
    rw [hj] at hoi; cases hoi
    exact getD_set_true (hall e he hb)
  · rw [getD_set_ne false hij] at hl
    exact getD_set_true (h j oj hj hl e he hb)
/-- Operation d waits for operation i, by a chain of edges. -/
inductive Waits (md : Region.Mode) (ops : Array Oper) (i : Nat) : Nat → Prop
  | one {d : Nat} {o : Oper} {e} (h : ops[d]? = some o) (he : e ∈ o.after) (hb : Region.binds md e = true) (hi : e.on = i) : Waits md ops i d
  | more {d : Nat} {o : Oper} {e} (h : ops[d]? = some o) (he : e ∈ o.after) (hb : Region.binds md e = true) (hw : Waits md ops i e.on) : Waits md ops i d
theorem Waits.listed {md : Region.Mode} {ops : Array Oper} {listed : Array Bool} {i d : Nat} (hc : LClosed md ops listed) (h : Waits md ops i d) (hd : listed.getD d false = true) : listed.getD i false = true := by
  induction h with
  | one h he hb hi => rw [← hi]; exact hc _ _ h hd _ he hb
  | more h he hb hw ih => exact ih (hc _ _ h hd _ he hb)
theorem Waits.not_ready {md : Region.Mode} {ops : Array Oper} {listed : Array Bool} {i d : Nat} (hc : LClosed md ops listed) (h : Waits md ops i d) (hi : listed.getD i true = false) : d ∉ Region.ready md ops listed := by
  intro hd
  obtain ⟨_, o, ho, hall⟩ := mem_ready.1 hd
  have h1 : listed.getD i false = true := by
    cases h with
    | one h he hb hi =>
      rw [h] at ho; cases ho
      rw [← hi]; exact hall _ he hb
    | more h he hb hw =>
      rw [h] at ho; cases ho
      exact hw.listed hc (hall _ he hb)
  rcases Nat.lt_or_ge i listed.size with h' | h'
  · simp [h'] at hi h1; rw [hi] at h1; cases h1
  · simp [Array.getElem?_eq_none h'] at h1
section
variable {ops : Array Oper} {Q : Exit → Act → World → Prop} {md : Region.Mode} {S : World → Prop} {ds : List Nat}
theorem wpAny_of_D : ∀ (fuel : Nat) (listed : Array Bool) (a : Act) (w : World), wpAnyD P md ops Q S ds fuel listed a w → wpAny P md ops Q fuel listed a w
  | 0, _, _, _, h => h
  | fuel + 1, _, _, _, h => ⟨h.1, fun i hi => wpOp_mono (fun a' w' h' => wpAny_of_D fuel _ a' w' h'.2) (h.2 i hi)⟩
theorem wpAnyD_first {i : Nat} {oi : Oper} {v : Value} (hi : ops[i]? = some oi) (hsel : ∀ (j : Nat) (o : Oper) cs b, ops[j]? = some o → o.op ≠ .select cs b)
    (hQ : ∀ c a w, Q (.panic c) (a.put oi.dst v) w → Q (.panic c) a w) (hD : ∀ d ∈ ds, Waits md ops i d ∨ ops[d]? = none) :
    ∀ (fuel : Nat) (listed : Array Bool) (a : Act) (w : World),
      (∀ j oj, ops[j]? = some oj → j ≠ i → listed.getD j true = false → (∀ e ∈ oj.after, Region.binds md e = true → e.on ≠ i) → oi.apart ops oj = true) →
      LClosed md ops listed → i ∈ Region.ready md ops listed → YieldsIf P ops S oi v a → S w →
      wpAnyD P md ops Q S ds fuel (listed.setIfInBounds i true) (a.put oi.dst v) w → wpAnyD P md ops Q S ds (fuel + 1) listed a w := by
  intro fuel
  induction fuel with
  | zero =>
    intro listed a w _ _ hr hy hS H
    refine ⟨fun h => (by rw [h] at hr; cases hr), fun j hj => ?_⟩
    by_cases hji : j = i
    · subst hji; exact hy.wpOp hi hS ⟨fun _ h => h, H⟩
    · have := ready_mono hj hji
      rw [H.1] at this
      cases this
  | succ fuel ih =>
    intro listed a w hfree hc hr hy hS H
    refine ⟨fun h => (by rw [h] at hr; cases hr), fun j hj => ?_⟩
    by_cases hji : j = i
    · subst hji; exact hy.wpOp hi hS ⟨fun _ h => h, H⟩
    · have h1 := H.2 j (ready_mono hj hji)
      obtain ⟨hjun, oj, hoj, hall⟩ := mem_ready.1 hj
      have hiun := (mem_ready.1 hr).1
      have hnot : ∀ e ∈ oj.after, Region.binds md e = true → e.on ≠ i := fun e he hb heq => by
        have h1 := hall e he hb
        rw [heq] at h1
        rcases Nat.lt_or_ge i listed.size with h' | h'
        · simp [h'] at hiun h1; rw [hiun] at h1; cases h1
        · simp [Array.getElem?_eq_none h'] at h1
      have hjd : j ∉ ds := fun hm => by
        rcases hD j hm with h | h
        · exact h.not_ready hc hiun hj
        · rw [hoj] at h; cases h
      have h2 := wpOp_putIf hoj (hfree j oj hoj hji hjun hnot) (fun cs b => hsel i oi cs b hi) (fun cs b => hsel j oj cs b hoj) hQ hy h1
      have hfree' : ∀ k ok, ops[k]? = some ok → k ≠ i → (listed.setIfInBounds j true).getD k true = false →
          (∀ e ∈ ok.after, Region.binds md e = true → e.on ≠ i) → oi.apart ops ok = true := fun k ok hk hki hun hno => by
        refine hfree k ok hk hki ?_ hno
        by_cases hjk : j = k
        · subst hjk; exact hjun
        · rw [getD_set_ne true hjk] at hun; exact hun
      refine wpOp_mono (fun a' w' h3 => ⟨h3.2.1, ih (listed.setIfInBounds j true) a' w' hfree' (hc.set hj) (ready_mono hr (Ne.symm hji)) h3.1 (h3.2.1 hjd hS) ?_⟩) h2
      rw [Array.setIfInBounds_comm _ _ hji]
      exact h3.2.2
/-- What yields whatever the world. -/
theorem wpAnyD_any {i : Nat} {oi : Oper} {v : Value} (hi : ops[i]? = some oi) (hsel : ∀ (j : Nat) (o : Oper) cs b, ops[j]? = some o → o.op ≠ .select cs b)
    (hQ : ∀ c a w, Q (.panic c) (a.put oi.dst v) w → Q (.panic c) a w) :
    ∀ (fuel : Nat) (listed : Array Bool) (a : Act) (w : World),
      (∀ j oj, ops[j]? = some oj → j ≠ i → listed.getD j true = false → (∀ e ∈ oj.after, Region.binds md e = true → e.on ≠ i) → oi.apart ops oj = true) →
      i ∈ Region.ready md ops listed → YieldsIf P ops (fun _ => True) oi v a →
      wpAnyD P md ops Q S ds fuel (listed.setIfInBounds i true) (a.put oi.dst v) w → wpAnyD P md ops Q S ds (fuel + 1) listed a w := by
  intro fuel
  induction fuel with
  | zero =>
    intro listed a w _ hr hy H
    refine ⟨fun h => (by rw [h] at hr; cases hr), fun j hj => ?_⟩
    by_cases hji : j = i
    · subst hji; exact hy.wpOp hi trivial ⟨fun _ h => h, H⟩
    · have := ready_mono hj hji
      rw [H.1] at this
      cases this
  | succ fuel ih =>
    intro listed a w hfree hr hy H
    refine ⟨fun h => (by rw [h] at hr; cases hr), fun j hj => ?_⟩
    by_cases hji : j = i
    · subst hji; exact hy.wpOp hi trivial ⟨fun _ h => h, H⟩
    · have h1 := H.2 j (ready_mono hj hji)
      obtain ⟨hjun, oj, hoj, hall⟩ := mem_ready.1 hj
      have hiun := (mem_ready.1 hr).1
      have hnot : ∀ e ∈ oj.after, Region.binds md e = true → e.on ≠ i := fun e he hb heq => by
        have h1 := hall e he hb
        rw [heq] at h1
        rcases Nat.lt_or_ge i listed.size with h' | h'
        · simp [h'] at hiun h1; rw [hiun] at h1; cases h1
        · simp [Array.getElem?_eq_none h'] at h1
      have h2 := wpOp_putIf hoj (hfree j oj hoj hji hjun hnot) (fun cs b => hsel i oi cs b hi) (fun cs b => hsel j oj cs b hoj) hQ hy h1
      have hfree' : ∀ k ok, ops[k]? = some ok → k ≠ i → (listed.setIfInBounds j true).getD k true = false →
          (∀ e ∈ ok.after, Region.binds md e = true → e.on ≠ i) → oi.apart ops ok = true := fun k ok hk hki hun hno => by
        refine hfree k ok hk hki ?_ hno
        by_cases hjk : j = k
        · subst hjk; exact hjun
        · rw [getD_set_ne true hjk] at hun; exact hun
      refine wpOp_mono (fun a' w' h3 => ⟨h3.2.1, ih (listed.setIfInBounds j true) a' w' hfree' (ready_mono hr (Ne.symm hji)) h3.1 ?_⟩) h2
      rw [Array.setIfInBounds_comm _ _ hji]
      exact h3.2.2
end

/-! ### The plan -/
/-- Whom an operation waits for. -/
def nb (o : Oper) : List Nat := (o.after.toList.filter (Region.binds .any)).map (·.on)
theorem mem_nb {o : Oper} {i : Nat} : i ∈ nb o ↔ ∃ e ∈ o.after, Region.binds .any e = true ∧ e.on = i := by
  simp only [nb, List.mem_map, List.mem_filter, Array.mem_toList_iff]
  constructor
  · rintro ⟨e, ⟨h1, h2⟩, h3⟩; exact ⟨e, h1, h2, h3⟩
  · rintro ⟨e, h1, h2, h3⟩; exact ⟨e, ⟨h1, h2⟩, h3⟩
def waitB (ops : Array Oper) (i : Nat) : Nat → Nat → Bool
  | 0, _ => false
  | k + 1, d => match ops[d]? with
    | some o => (nb o).contains i || (nb o).any fun e => waitB ops i k e
    | none => false
theorem waitB_spec {ops : Array Oper} {i : Nat} : ∀ {k d : Nat}, waitB ops i k d = true → Waits .any ops i d
  | 0, _, h => by simp [waitB] at h
  | k + 1, d, h => by
    simp only [waitB] at h
    cases ho : ops[d]? with
    | none => rw [ho] at h; cases h
    | some o =>
      rw [ho] at h
      simp only [Bool.or_eq_true, List.any_eq_true] at h
      rcases h with h | ⟨e, he, h⟩
      · obtain ⟨e, he, hb, hon⟩ := mem_nb.1 (by simpa using h : i ∈ nb o)
        exact .one ho he hb hon
      · obtain ⟨e', he', hb, hon⟩ := mem_nb.1 he
        exact .more ho he' hb (by rw [hon]; exact waitB_spec h)
/-! ### A store into a variable that the region itself has made -/
theorem look_mono {α : Type} {i : Nat} {l : List (Nat × α)} {k k' : α → Prop} (h : look i l k) (hk : ∀ x, k x → k' x) : look i l k' := by
  induction l with
  | nil => exact h.elim
  | cons p r ih =>
    obtain ⟨j, x⟩ := p
    simp only [look] at h ⊢
    cases hb : Nat.beq j i
    · rw [hb] at h; exact ih h
    · rw [hb] at h; exact hk _ h
theorem segsOf_mono {x : SV} {k k' : List Seg → Prop} (h : segsOf x k) (hk : ∀ l, k l → k' l) : segsOf x k' := by
  cases x <;> first | exact hk _ h | exact (h : False).elim
theorem cutAt_mono {l : List Seg} {n : Nat} {k k' : List Seg → List Seg → Prop} (h : cutAt l n k) (hk : ∀ p q, k p q → k' p q) : cutAt l n k' := by
  induction l generalizing n k k' with
  | nil => cases n with
    | zero => exact hk _ _ h
    | succ n => exact h.elim
  | cons s r ih => cases n with
    | zero => exact hk _ _ h
    | succ n =>
      simp only [cutAt] at h ⊢
      cases hb : Nat.ble s.len (n + 1)
      · rw [hb] at h; exact h.elim
      · rw [hb] at h; exact ih h fun p q => hk _ _
theorem appK_mono {p q : List Seg} {k k' : List Seg → Prop} (h : appK p q k) (hk : ∀ l, k l → k' l) : appK p q k' := by
  induction p generalizing k k' with
  | nil => exact hk _ h
  | cons s r ih => exact ih h fun l => hk _
/-- What such a store leaves alone. -/
structure FrR (b : Nat) (s s' : St) : Prop where
  bx : ∀ b', b' ≠ b → lk b' s'.boxes = lk b' s.boxes
  pr : s'.pr = s.pr
  sn : s'.snap = s.snap
theorem storeVC_with {T : Tab} {t : TypeId} {b off : Nat} {z : SV} {s : St} {K : St → Prop} (h : storeVC T t (.ptr b off) z s K) : storeVC T t (.ptr b off) z s fun s' => K s' ∧ FrR b s s' := by
  unfold storeVC at h ⊢
  refine look_mono h fun ti h => segsOf_mono h fun ns h => ?_
  cases hb : Nat.beq (segsLen ns) ti.size
  · rw [hb] at h; exact h.elim
  · rw [hb] at h
    exact look_mono h fun c h => cutAt_mono h fun p q h => cutAt_mono h fun _ q h => appK_mono h fun l h => appK_mono h fun l h => by
      obtain ⟨ts, bs, ds, pr, sw⟩ := s
      exact ⟨h, fun b' hb' => by simp only [lk_cons, if_neg (Ne.symm hb')], rfl, rfl⟩
def freshVC (T : Tab) (m s : St) (o : Oper) (K : St → Prop) : Prop :=
  match o.op, o.dst with
  | .store t p x, none => ev s p fun y => ev s x fun z => match y with
    | .ptr b off => hasKey b m.boxes = false ∧ storeVC T t (.ptr b off) z s K
    | _ => False
  | _, _ => False
theorem freshVC_sound (hT : TabOK P T) {n : Nat} {w0 : Base} {ad : Nat → Nat} {m s : St} {a : Act} {w : World} (hI : Inv n w0 ad s a w) {o : Oper} {K : St → Prop} (h : freshVC T m s o K) {next : Act → World → Prop} {Q' : Exit → Act → World → Prop}
    (hn : ∀ b s' w', hasKey b m.boxes = false → FrR b s s' → Inv n w0 ad s' a w' → Fr s ad o.dst a w s' ad a w' → K s' → next a w') : o.wp P a w next Q' := by
  unfold freshVC at h
  split at h
  case h_2 => exact h.elim
  case h_1 t p x ho hdst =>
    obtain ⟨y, h, hy, hyo⟩ := ev_spec hI h
    obtain ⟨z, h, hz, hzo⟩ := ev_spec hI h
    cases y with
    | ptr b off =>
      obtain ⟨h1, h2⟩ := h
      obtain ⟨s', w', ⟨hk, hfr⟩, hr, i1, i2⟩ := storeVC_sound hT hI hyo hzo (storeVC_with h2)
      unfold Oper.wp execOp
      simp only [ho, hy, hz, Sem.run_bind, hr, Result.andThen_ok, Sem.run_pure]
      rw [Oper.upon_skip, hdst]
      exact hn b s' w' h1 hfr i1 (by rw [hdst]; exact i2) hk
    | _ => exact (h : False).elim
inductive PS | pure | quiet | keep | last | fresh
/-- Is a reading one to come? -/
def hasQ : List (Nat × PS) → Bool
  | [] => false
  | (_, .quiet) :: _ => true
  | (_, .pure) :: r => hasQ r
  | (_, .keep) :: r => hasQ r
  | (_, .last) :: r => hasQ r
  | (_, .fresh) :: r => hasQ r
def allocB (o : Oper) : Bool := match o.op, o.guard, o.dst with
  | .alloc _, none, some _ => true
  | _, _, _ => false
def okStep (ops : Array Oper) (A ds done : List Nat) (i : Nat) (q : PS) (r : List (Nat × PS)) : Bool :=
  match ops[i]? with
  | none => false
  | some oi => !done.contains i && (nb oi).all done.contains && (match q with
      | .last => true
      | .pure => true
      | _ => ds.all fun d => !done.contains d) && match q with
    | .pure => !A.contains i && (List.range ops.size).all fun j => j == i || done.contains j || match ops[j]? with
        | some oj => (nb oj).contains i || oi.apart ops oj
        | none => true
    | .quiet => !A.contains i && ds.all (fun d => waitB ops i 4 d) && (List.range ops.size).all fun j => j == i || done.contains j || match ops[j]? with
        | some oj => (nb oj).contains i || oi.apart ops oj
        | none => true
    | q => (match q with
        | .last => ds.contains i && !hasQ r && !A.contains i
        | .fresh => !A.contains i
        | _ => true) && (List.range ops.size).all fun j => j == i || done.contains j || A.contains j || match ops[j]? with
        | some oj => (nb oj).any fun e => !(done.contains e || (A.contains e && e != i))
        | none => true
def okPlan (ops : Array Oper) (A ds : List Nat) : List (Nat × PS) → List Nat → Bool
  | [], done => (List.range ops.size).all done.contains
  | (i, q) :: r, done => okStep ops A ds done i q r && okPlan ops A ds r (i :: done)
def okAll (ops : Array Oper) (A ds : List Nat) (plan : List (Nat × PS)) : Bool :=
  Region.noSelect ops && okPlan ops A ds plan [] && decide (plan.length ≤ ops.size) && A.all fun i => match ops[i]? with
    | some o => allocB o && (List.range ops.size).all fun j => j == i || match ops[j]? with
      | some oj => oj.dst != o.dst
      | none => true
    | none => false
def drawVC (P : Program) (n : Nat) (w0 : Base) (T : Tab) (L : List Oper) (m : St) : List (Nat × PS) → St → (Exit → St → Prop) → Prop
  | [], s, Q => Q .normal s
  | (i, q) :: r, s, Q => nthK L i fun o => guardVC L o s (fun s => drawVC P n w0 T L m r s Q) fun s => match q with
    | .pure => qop P T ⟨[], [], [], fun _ => False, m.snap⟩ s o.op fun x => putK s o.dst x fun s => drawVC P n w0 T L m r s Q
    | .quiet => qop P T m s o.op fun x => putK s o.dst x fun s => drawVC P n w0 T L m r s Q
    | .keep => stepVC P n w0 T true s o s (fun s => drawVC P n w0 T L m r s Q) Q
    | .last => stepVC P n w0 T false s o s (fun s => drawVC P n w0 T L m r s Q) Q
    | .fresh => freshVC T m s o fun s => drawVC P n w0 T L m r s Q
/-- Slots that are to be forgotten. -/
def dropK (d : Nat) : List (Nat × SV) → (List (Nat × SV) → Prop) → Prop
  | [], k => k []
  | (i, x) :: r, k => dropK d r fun l => match Nat.beq i d with
    | true => k l
    | false => k ((i, x) :: l)
def dropsK : List Nat → List (Nat × SV) → (List (Nat × SV) → Prop) → Prop
  | [], l, k => k l
  | d :: r, l, k => dropK d l fun l => dropsK r l k
theorem dropK_spec {d : Nat} {l : List (Nat × SV)} {k : List (Nat × SV) → Prop} (h : dropK d l k) : ∃ l', k l' ∧ lk d l' = none ∧ ∀ i x, lk i l' = some x → lk i l = some x := by
  induction l generalizing k with
  | nil => exact ⟨[], h, rfl, fun _ _ h => h⟩
  | cons p r ih =>
    obtain ⟨j, y⟩ := p
    obtain ⟨l', h0, h1, h2⟩ := ih h
    clear h
    split at h0
    · rename_i hb
      have := Nat.eq_of_beq_eq_true hb
      subst this
      refine ⟨l', h0, h1, fun i x hx => ?_⟩
      have : j ≠ i := fun e => by subst e; rw [h1] at hx; cases hx
      rw [lk_cons, if_neg this]; exact h2 i x hx
    · rename_i hb
      have : j ≠ d := fun e => by subst e; simp at hb
      refine ⟨_, h0, by rw [lk_cons, if_neg this]; exact h1, fun i x hx => ?_⟩
      rw [lk_cons] at hx ⊢
      by_cases e : j = i
      · rw [if_pos e] at hx ⊢; exact hx
      · rw [if_neg e] at hx ⊢; exact h2 i x hx
theorem dropsK_spec {ds : List Nat} : ∀ {l : List (Nat × SV)} {k : List (Nat × SV) → Prop}, dropsK ds l k → ∃ l', k l' ∧ (∀ d ∈ ds, lk d l' = none) ∧ ∀ i x, lk i l' = some x → lk i l = some x := by
  induction ds with
  | nil => intro l k h; exact ⟨l, h, fun _ h => (by cases h), fun _ _ h => h⟩
  | cons d r ih =>
    intro l k h
    obtain ⟨l1, h, h1, h2⟩ := dropK_spec h
    obtain ⟨l2, h, h3, h4⟩ := ih h
    refine ⟨l2, h, fun d' hd' => ?_, fun i x hx => h2 i x (h4 i x hx)⟩
    rcases List.mem_cons.1 hd' with e | hd'
    · subst e
      cases hq : lk d' l2 with
      | none => rfl
      | some x => rw [h4 d' x hq] at h1; cases h1
    · exact h3 d' hd'

/-! ### Variables that are made early -/
theorem Inv.hide {n : Nat} {w0 : Base} {ad : Nat → Nat} {s : St} {a : Act} {w : World} (hI : Inv n w0 ad s a w) {d : Nat} (hd : lk d s.tmps = none) (v : Value) (o : Obj) : Inv n w0 ad s (a.put (some d) v) (w.alloc o) := by
  refine ⟨by rw [actput_size]; exact hI.tn, fun i x hx => ?_, by rw [actput_defers]; exact hI.df, hI.wi.below ((Below.refl _ _).alloc (Nat.le_refl _) o)⟩
  have : d ≠ i := fun e => by subst e; rw [hd] at hx; cases hx
  have h1 := hI.tm i x hx
  exact ⟨by rw [actput_ne a _ _ i (by simpa using this)]; exact h1.1, h1.2⟩
/-- A variable that was made early becomes a box. -/
theorem hidBox_sound {n : Nat} {w0 : Base} {ad : Nat → Nat} {s : St} {a : Act} {w : World} (hI : Inv n w0 ad s a w) {d g : Nat} {l : List Seg} {t : TypeId} {K : St → Prop} (hok : SegsOk l)
    (ht : a.tmps.getD d undef = .pointer (some ⟨g, 0, none⟩)) (hg : w.heap[g]? = some (.cells (flat l).toArray t (0, 0))) (hlo : w0.own g) (hpr : ¬ s.pr g) (hbx : ∀ b c, lk b s.boxes = some c → ad b ≠ g)
    (h : newBox s (some d) l t K) : ∃ s' ad', K s' ∧ Inv n w0 ad' s' a w ∧ (∀ b c, lk b s.boxes = some c → lk b s'.boxes = some c ∧ ad' b = ad b) ∧ s'.pr = s.pr ∧ s'.snap = s.snap ∧ (∀ i, i ≠ d → lk i s'.tmps = lk i s.tmps) ∧ 
      (∀ b c, lk b s'.boxes = some c → ad' b = g ∨ ∃ c', lk b s.boxes = some c' ∧ ad' b = ad b) := by
  obtain ⟨ts, bs, ds, pr, sw⟩ := s
  simp only [newBox] at h
  split at h
  case h_2 => exact h.elim
  case h_1 h1 h2 h3 =>
    have hc : ∀ b', b' ≠ d → (fun b => if b = d then g else ad b) b' = ad b' := fun b' hb => if_neg hb
    have hkey := hasKey_lk h1
    have hbne : ∀ b c, lk b bs = some c → b ≠ d := fun b c hb e => by subst e; rw [hkey] at hb; cases hb
    refine ⟨_, fun b => if b = d then g else ad b, h, ⟨hI.tn, ?_, ?_, ?_⟩, ?_, rfl, rfl, ?_, ?_⟩
    · intro i x hx
      simp only [lk_cons] at hx
      by_cases e : d = i
      · subst e
        rw [if_pos rfl] at hx
        cases hx
        exact ⟨by rw [ht]; simp [SV.den], trivial⟩
      · rw [if_neg e] at hx
        have := hI.tm i x hx
        exact ⟨by rw [this.1, SV.den_congr hc (tmpRefs_lk h2 hx)], this.2⟩
    · rw [hI.df]; exact (dfsRefs_den hc h3).symm
    · refine ⟨hI.wi.bel, ?_, ?_, ?_, ?_, ?_, hI.wi.sn, hI.wi.pl⟩
      · intro b c hb
        simp only [lk_cons] at hb
        by_cases e : d = b
        · subst e; rw [if_pos rfl] at hb; cases hb; simpa using hg
        · rw [if_neg e] at hb
          simp only [if_neg (Ne.symm e)]
          exact hI.wi.bx b c hb
      · intro b c hb
        simp only [lk_cons] at hb
        by_cases e : d = b
        · subst e; rw [if_pos rfl] at hb; cases hb; exact hok
        · rw [if_neg e] at hb; exact hI.wi.ok b c hb
      · intro b c hb
        simp only [lk_cons] at hb
        by_cases e : d = b
        · subst e; simpa using hlo
        · rw [if_neg e] at hb; simp only [if_neg (Ne.symm e)]; exact hI.wi.lo b c hb
      · intro b c b' c' hb hb' he
        simp only [lk_cons] at hb hb'
        by_cases e : d = b <;> by_cases e' : d = b'
        · rw [← e, ← e']
        · rw [if_neg e'] at hb'
          simp only [if_pos e.symm, if_neg (Ne.symm e')] at he
          exact absurd he.symm (hbx b' c' hb')
        · rw [if_neg e] at hb
          simp only [if_neg (Ne.symm e), if_pos e'.symm] at he
          exact absurd he (hbx b c hb)
        · rw [if_neg e] at hb
          rw [if_neg e'] at hb'
          simp only [if_neg (Ne.symm e), if_neg (Ne.symm e')] at he
          exact hI.wi.inj b c b' c' hb hb' he
      · intro b c hb
        simp only [lk_cons] at hb
        by_cases e : d = b
        · simp only [if_pos e.symm]; exact hpr
        · rw [if_neg e] at hb; simp only [if_neg (Ne.symm e)]; exact hI.wi.np b c hb
    · intro b c hb
      exact ⟨by rw [lk_cons, if_neg (Ne.symm (hbne b c hb))]; exact hb, if_neg (hbne b c hb)⟩
    · intro i hi
      show lk i ((d, _) :: ts) = lk i ts
      rw [lk_cons, if_neg (Ne.symm hi)]
    · intro b c hb
      simp only [lk_cons] at hb
      by_cases e : d = b
      · subst e; exact .inl (by simp)
      · rw [if_neg e] at hb; exact .inr ⟨c, hb, if_neg (Ne.symm e)⟩

/-! ### The region -/
def cnt (H : Nat → Option Nat) : List (Nat × PS) → Nat
  | [] => 0
  | (i, _) :: r => (if (H i).isNone then 1 else 0) + cnt H r
theorem cnt_le {H H' : Nat → Option Nat} (h : ∀ i, (H' i).isNone = true → (H i).isNone = true) : ∀ r, cnt H' r ≤ cnt H r
  | [] => Nat.le_refl _
  | (i, _) :: r => by
    have h1 := cnt_le h r
    have h2 := h i
    simp only [cnt]
    cases e : (H' i).isNone
    · simp; omega
    · simp [h2 e]; omega
theorem cnt_lt {H H' : Nat → Option Nat} (h : ∀ i, (H' i).isNone = true → (H i).isNone = true) {j : Nat} (hj : (H j).isNone = true) (hj' : (H' j).isNone = false) : ∀ r : List (Nat × PS), j ∈ r.map (·.1) → cnt H' r + 1 ≤ cnt H r
  | [], hm => by simp at hm
  | (i, _) :: r, hm => by
    simp only [cnt]
    by_cases e : i = j
    · subst e
      have h1 := cnt_le h r
      simp [hj, hj']; omega
    · have h1 := cnt_lt h hj hj' r (by simp only [List.map_cons, List.mem_cons] at hm; rcases hm with hm | hm; exact absurd hm.symm e; exact hm)
      have h2 := h i
      cases e : (H' i).isNone
      · simp; omega
      · simp [h2 e]; omega
theorem okPlan_rest {ops : Array Oper} {A ds : List Nat} : ∀ {r : List (Nat × PS)} {done : List Nat}, okPlan ops A ds r done = true → ∀ j, j < ops.size → j ∈ done ∨ j ∈ r.map (·.1)
  | [], done, h, j, hj => by
    simp only [okPlan, List.all_eq_true, List.mem_range] at h
    exact .inl (by simpa using h j hj)
  | (i, q) :: r, done, h, j, hj => by
    simp only [okPlan, Bool.and_eq_true] at h
    rcases okPlan_rest h.2 j hj with h1 | h1
    · rcases List.mem_cons.1 h1 with h1 | h1
      · exact .inr (by simp [h1])
      · exact .inl h1
    · exact .inr (by simp only [List.map_cons, List.mem_cons]; exact .inr h1)
/-- The variables that were made early. -/
structure Hid (T : Tab) (ops : Array Oper) (A done : List Nat) (H : Nat → Option Nat) (w0 : Base) (s : St) (ad : Nat → Nat) (a : Act) (w : World) : Prop where
  at_ : ∀ j g, H j = some g → j ∉ done → ∀ o d, ops[j]? = some o → o.dst = some d → ∃ t, o.op = .alloc t ∧ a.tmps.getD d undef = .pointer (some ⟨g, 0, none⟩) ∧ (∀ ti, lk t T = some ti → w.heap[g]? = some (.cells (flat ti.zero).toArray t (0, 0))) ∧
    g < w.heap.size ∧ w0.own g ∧ ¬ s.pr g ∧ ∀ b c, lk b s.boxes = some c → ad b ≠ g
  ne : ∀ j g j', H j = some g → H j' = some g → j = j'
  al : ∀ j g, H j = some g → j ∈ A
  lt : ∀ j g, H j = some g → g < w.heap.size
theorem wpAnyD_done {ops : Array Oper} {Q : Exit → Act → World → Prop} {S : World → Prop} {ds : List Nat} {listed : Array Bool} {a : Act} {w : World} (hr : Region.ready .any ops listed = []) (h : Q .normal a w) :
    ∀ fuel, wpAnyD P .any ops Q S ds fuel listed a w
  | 0 => ⟨hr, h⟩
  | _ + 1 => ⟨fun _ => h, by rw [hr]; simp⟩
theorem noSel_of {ops : Array Oper} (h : Region.noSelect ops = true) : ∀ (j : Nat) (o : Oper) cs b, ops[j]? = some o → o.op ≠ .select cs b := fun j o cs b ho => Region.noSelect_spec h j o cs b ho
theorem drawVC_sound (hT : TabOK P T) {n : Nat} {w0 : Base} {ops : Array Oper} (hd : ∀ o ∈ ops.toList, ∀ d, o.dst = some d → d < n) (hns : Region.noSelect ops = true) {A ds : List Nat}
    (hA : ∀ i ∈ A, ∃ o d t ti, ops[i]? = some o ∧ o.op = .alloc t ∧ lk t T = some ti ∧ o.guard = none ∧ o.dst = some d ∧ ∀ j oj, ops[j]? = some oj → j ≠ i → oj.dst ≠ some d)
    {m : St} {ad0 : Nat → Nat} (hm : ∀ b c, lk b m.boxes = some c → SegsOk c.1) {Q : Exit → St → Prop} :
    ∀ (r : List (Nat × PS)) (done : List Nat) (fuel : Nat) (H : Nat → Option Nat) (listed : Array Bool) (s : St) (ad : Nat → Nat) (a : Act) (w : World),
      okPlan ops A ds r done = true → (∀ i ∈ done, i < ops.size) → LClosed .any ops listed → cnt H r ≤ fuel → (listed.size = ops.size ∧ ∀ j, j < ops.size → (listed.getD j true = false ↔ j ∉ done ∧ (H j).isNone = true)) →
      Hid T ops A done H w0 s ad a w → Inv n w0 ad s a w → (∀ i ∈ A, i ∉ done → ∀ o d, ops[i]? = some o → o.dst = some d → lk d s.tmps = none) → (∀ g, m.pr g → g < w.heap.size) →
      ((∀ d ∈ ds, d ∉ done) → SM ad0 m w ∧ (∀ b c, lk b m.boxes = some c → lk b s.boxes = some c ∧ ad b = ad0 b) ∧ ∀ g, m.pr g → s.pr g) →
      drawVC P n w0 T ops.toList m r s Q → wpAnyD P .any ops (Post n w0 Q) (SM ad0 m) ds fuel listed a w := by
  intro r
  induction r with
  | nil =>
    intro done fuel H listed s ad a w hpl hdn hlc hfuel hl hH hI hfr hms hmk h
    refine wpAnyD_done ?_ ⟨s, ad, hI, h⟩ fuel
    refine List.eq_nil_iff_forall_not_mem.2 fun j hj => ?_
    obtain ⟨h0, o, ho, _⟩ := mem_ready.1 hj
    have hlt := (Array.getElem?_eq_some_iff.1 ho).1
    simp only [okPlan, List.all_eq_true, List.mem_range] at hpl
    exact ((hl.2 j hlt).1 h0).1 (by simpa using hpl j hlt)
  | cons p r ih =>
    obtain ⟨i, q⟩ := p
    intro done fuel H listed s ad a w hpl hdn hlc hfuel hl hH hI hfr hms hmk h
    have hpl0 := hpl
    simp only [okPlan, Bool.and_eq_true] at hpl
    obtain ⟨hst, hplr⟩ := hpl
    unfold okStep at hst
    simp only [drawVC] at h
    obtain ⟨o, ho, h⟩ := nthK_spec h
    have ho' : ops[i]? = some o := by rw [← ho]; simp
    have hilt := (Array.getElem?_eq_some_iff.1 ho').1
    simp only [ho', Bool.and_eq_true] at hst
    obtain ⟨⟨⟨hnd, hnb⟩, hdd⟩, hst⟩ := hst
    have hnd : i ∉ done := by simpa using hnd
    have hdi : ∀ d, o.dst = some d → d < n := hd o (by simpa using (List.mem_of_getElem? ho))
    have hdn' : ∀ j ∈ i :: done, j < ops.size := fun j hj => by
      rcases List.mem_cons.1 hj with e | hj
      · subst e; exact hilt
      · exact hdn j hj
    have hlset : ∀ {listed : Array Bool} {H : Nat → Option Nat}, (listed.size = ops.size ∧ ∀ j, j < ops.size → (listed.getD j true = false ↔ j ∉ done ∧ (H j).isNone = true)) → 
        (listed.setIfInBounds i true).size = ops.size ∧ ∀ j, j < ops.size → ((listed.setIfInBounds i true).getD j true = false ↔ j ∉ i :: done ∧ (H j).isNone = true) := fun {listed H} hl => by
      refine ⟨by simpa using hl.1, fun j hj => ?_⟩
      by_cases e : i = j
      · subst e
        have : i < listed.size := by rw [hl.1]; exact hj
        simp [Array.getD_eq_getD_getElem?, this]
      · rw [getD_set_ne true e, hl.2 j hj]
        simp [Ne.symm e]
    have hdone : ∀ {listed : Array Bool} {H : Nat → Option Nat}, (listed.size = ops.size ∧ ∀ j, j < ops.size → (listed.getD j true = false ↔ j ∉ done ∧ (H j).isNone = true)) → ∀ j, j < ops.size → (listed.getD j false = true ↔ j ∈ done ∨ (H j).isSome = true) := fun {listed H} hl j hj => by
      have h1 := hl.2 j hj
      have hlt : j < listed.size := by rw [hl.1]; exact hj
      simp only [Array.getD_eq_getD_getElem?, Array.getElem?_eq_getElem hlt, Option.getD_some] at h1 ⊢
      cases e : listed[j] <;> simp [e] at h1 ⊢
      · exact ⟨h1.1, h1.2⟩
      · by_cases e2 : j ∈ done
        · exact .inl e2
        · have h2 := h1 e2
          exact .inr (by cases hq : H j <;> simp [hq] at h2 ⊢)
    have hready : ∀ {listed : Array Bool} {H : Nat → Option Nat}, (listed.size = ops.size ∧ ∀ j, j < ops.size → (listed.getD j true = false ↔ j ∉ done ∧ (H j).isNone = true)) → (H i).isNone = true → i ∈ Region.ready .any ops listed := fun {listed H} hl hHi => by
      refine mem_ready.2 ⟨(hl.2 i hilt).2 ⟨hnd, hHi⟩, o, ho', fun e he hb => ?_⟩
      have h1 := List.all_eq_true.1 hnb e.on (mem_nb.2 ⟨e, he, hb, rfl⟩)
      have h1 : e.on ∈ done := by simpa using h1
      exact (hdone hl e.on (hdn _ h1)).2 (.inl h1)
    have hpos : ∀ {H : Nat → Option Nat} {fuel : Nat}, (H i).isNone = true → cnt H ((i, q) :: r) ≤ fuel → ∃ f, fuel = f + 1 ∧ cnt H r ≤ f := fun {H fuel} hHi hc => by
      simp only [cnt, hHi, if_true] at hc
      exact ⟨fuel - 1, by omega, by omega⟩
    have hpan : ∀ {s : St} {ad : Nat → Nat} {a : Act} {w : World} (d : Option Nat) (v : Value) (c), Post n w0 Q (.panic c) (a.put d v) w → Post n w0 Q (.panic c) a w := fun d v c ⟨s', ad', h1, h2⟩ => ⟨s', ad', by rwa [actput_defers] at h1, h2⟩
    have hAd : ∀ k ∈ A, k ≠ i → ∀ ok d, ops[k]? = some ok → ok.dst = some d → o.dst ≠ some d := fun k hk hki ok d hok hokd => by
      obtain ⟨o1, d1, t1, ti1, e1, e2, e3, e4, e5, e6⟩ := hA k hk
      rw [hok] at e1; cases e1
      rw [hokd] at e5; cases e5
      exact e6 i o ho' (Ne.symm hki)
    have main : ∀ kp : Bool, (∀ j oj, ops[j]? = some oj → j ≠ i → j ∉ done → j ∉ A → ∃ e ∈ nb oj, e ∉ done ∧ (e ∉ A ∨ e = i)) → (i ∉ ds → kp = true ∧ ∀ d ∈ ds, d ∉ done) → (i ∈ A → kp = true) →
        (guardVC ops.toList o s (fun s => drawVC P n w0 T ops.toList m r s Q) fun s => stepVC P n w0 T kp s o s (fun s => drawVC P n w0 T ops.toList m r s Q) Q) → wpAnyD P .any ops (Post n w0 Q) (SM ad0 m) ds fuel listed a w := by
      intro kp hother hkp hkA hgv
      cases hHi : H i with
      | some g =>
        have hiA := hH.al i g hHi
        obtain ⟨o1, d, t, ti, e1, e2, e3, e4, e5, e6⟩ := hA i hiA
        rw [ho'] at e1; cases e1
        have hkp1 := hkA hiA
        obtain ⟨t', f1, f2, f3, f4, f5, f6, f7⟩ := hH.at_ i g hHi hnd o d ho' e5
        rw [e2] at f1; cases f1
        simp only [guardVC, e4, stepVC, e2, qk] at hgv
        obtain ⟨ti', g1, h⟩ := look_spec hgv
        rw [e5] at h
        obtain ⟨s', ad', hk, i1, i2, i3, i4, i5, i6⟩ := hidBox_sound hI (hT t ti' g1).zok f2 (f3 ti' g1) f5 f6 f7 h
        refine ih (i :: done) fuel H listed s' ad' a w hplr hdn' hlc (by simp only [cnt] at hfuel; omega) ⟨hl.1, fun j hj => ?_⟩ ?_ i1 ?_ hms ?_ hk
        · rw [hl.2 j hj]
          by_cases e : j = i
          · subst e; simp [hHi]
          · simp [e]
        · refine ⟨fun j g' hj hjd oj d' hoj hojd => ?_, hH.ne, hH.al, hH.lt⟩
          obtain ⟨t, h2, h3, h4, h5, h6, h7, h8⟩ := hH.at_ j g' hj (fun hm => hjd (List.mem_cons_of_mem _ hm)) oj d' hoj hojd
          have hji : j ≠ i := fun e => hjd (by simp [e])
          refine ⟨t, h2, h3, h4, h5, h6, by rw [i3]; exact h7, fun b c hb => ?_⟩
          rcases i6 b c hb with h9 | ⟨c', h9, h10⟩
          · rw [h9]; intro e; subst e; exact hji (hH.ne j g i hj hHi)
          · rw [h10]; exact h8 b c' h9
        · intro k hk hkd ok d' hok hokd
          rw [i5 d' (fun e => hAd k hk (fun e => hkd (by simp [e])) ok d' hok hokd (by rw [e5, e]))]
          exact hfr k hk (fun hm => hkd (List.mem_cons_of_mem _ hm)) ok d' hok hokd
        · intro hds
          obtain ⟨hsm, hmb, hmp⟩ := hmk fun d hd1 hd2 => hds d hd1 (List.mem_cons_of_mem _ hd2)
          exact ⟨hsm, fun b c hb => ⟨(i2 b c (hmb b c hb).1).1, (i2 b c (hmb b c hb).1).2.trans (hmb b c hb).2⟩, by rw [i3]; exact hmp⟩
      | none =>
        have go : ∀ (fuel : Nat) (H : Nat → Option Nat) (listed : Array Bool) (a : Act) (w : World), LClosed .any ops listed → cnt H ((i, q) :: r) ≤ fuel → (listed.size = ops.size ∧ ∀ j, j < ops.size → (listed.getD j true = false ↔ j ∉ done ∧ (H j).isNone = true)) →
            Hid T ops A done H w0 s ad a w → Inv n w0 ad s a w → (∀ g, m.pr g → g < w.heap.size) → (H i).isNone = true →
            ((∀ d ∈ ds, d ∉ done) → SM ad0 m w ∧ (∀ b c, lk b m.boxes = some c → lk b s.boxes = some c ∧ ad b = ad0 b) ∧ ∀ g, m.pr g → s.pr g) → wpAnyD P .any ops (Post n w0 Q) (SM ad0 m) ds fuel listed a w := by
          intro fuel
          induction fuel with
          | zero =>
            intro H listed a w hlc hc hl hH hI hms hHi hmk
            simp only [cnt, hHi, if_true] at hc
            omega
          | succ fuel ihf =>
            intro H listed a w hlc hc hl hH hI hms hHi hmk
            have hr := hready hl hHi
            refine ⟨fun h => (by rw [h] at hr; cases hr), fun j hj => ?_⟩
            obtain ⟨hjun, oj, hoj, hall⟩ := mem_ready.1 hj
            have hjlt := (Array.getElem?_eq_some_iff.1 hoj).1
            have hjd := (hl.2 j hjlt).1 hjun
            by_cases hji : j = i
            · subst hji
              rw [ho'] at hoj; cases hoj
              have hcr : cnt H r ≤ fuel := by
                simp only [cnt, hHi, if_true] at hc; omega
              obtain ⟨s1, i1, e1, e2, e3, e4, e5, h1⟩ := guardVC_sound hI hgv
              unfold wpOp
              simp only [ho']
              rcases h1 with ⟨hw, h1⟩ | ⟨hw, h1⟩
              · rw [if_pos hw]
                left
                refine stepVC_sound hT i1 i1.wi.ok i1.wi.sm hdi h1 (fun s' ad' a' w' i2 fr kpr hk => ⟨fun hids hsm => ?_, ?_⟩) (Post.panic i1)
                · obtain ⟨hk1, hk2⟩ := hkp hids
                  obtain ⟨_, hmb, hmp⟩ := hmk hk2
                  have kpr := kpr hk1
                  refine ⟨fun b c hb => ?_, fun g hg => ?_⟩
                  · obtain ⟨h2, h3⟩ := hmb b c hb
                    rw [← e1] at h2
                    obtain ⟨h4, h5⟩ := kpr.bx b c h2
                    rw [← h3, ← h5]; exact i2.wi.bx b c h4
                  · have h2 := hmp g hg
                    rw [← e2] at h2
                    rw [(kpr.pr g h2).2]; exact hsm.pl g hg
                · refine ih (j :: done) fuel H _ s' ad' a' w' hplr hdn' (hlc.set hr) hcr (hlset hl) ?_ i2 ?_ (fun g hg => Nat.lt_of_lt_of_le (hms g hg) fr.sz) ?_ hk
                  · refine ⟨fun k g hk hkd ok d hok hokd => ?_, hH.ne, hH.al, fun k g hk => Nat.lt_of_lt_of_le (hH.lt k g hk) fr.sz⟩
                    obtain ⟨t, h2, h3, h4, h5, h6, h7, h8⟩ := hH.at_ k g hk (fun hm => hkd (List.mem_cons_of_mem _ hm)) ok d hok hokd
                    have hkj : k ≠ j := fun e => hkd (by simp [e])
                    have hbx : ∀ b c, lk b s1.boxes = some c → ad b ≠ g := by rw [e1]; exact h8
                    have hpr : ¬ s1.pr g := by rw [e2]; exact h7
                    have hsame := fr.hid g h5 hbx hpr
                    refine ⟨t, h2, by rw [fr.tmp d (hAd k (hH.al k g hk) hkj ok d hok hokd)]; exact h3, fun ti hti => by rw [hsame]; exact h4 ti hti, Nat.lt_of_lt_of_le h5 fr.sz, h6, fun hp => ?_, fun b c hb => ?_⟩
                    · rcases fr.prs g hp with h9 | h9
                      · exact hpr h9
                      · omega
                    · rcases fr.bxs b c hb with ⟨c', h9, h10⟩ | h9
                      · rw [h10]; exact hbx b c' h9
                      · omega
                  · intro k hk hkd ok d hok hokd
                    exact fr.frs d (hAd k hk (fun e => hkd (by simp [e])) ok d hok hokd) (e5 d (hfr k hk (fun hm => hkd (List.mem_cons_of_mem _ hm)) ok d hok hokd))
                  · intro hds
                    have hids : j ∉ ds := fun hm => hds j hm (by simp)
                    obtain ⟨hk1, hk2⟩ := hkp hids
                    obtain ⟨hsm, hmb, hmp⟩ := hmk hk2
                    have kpr := kpr hk1
                    refine ⟨⟨fun b c hb => ?_, fun g hg => ?_⟩, fun b c hb => ?_, fun g hg => ?_⟩
                    · obtain ⟨h2, h3⟩ := hmb b c hb
                      rw [← e1] at h2
                      obtain ⟨h4, h5⟩ := kpr.bx b c h2
                      rw [← h3, ← h5]; exact i2.wi.bx b c h4
                    · have h2 := hmp g hg
                      rw [← e2] at h2
                      rw [(kpr.pr g h2).2]; exact hsm.pl g hg
                    · obtain ⟨h2, h3⟩ := hmb b c hb
                      rw [← e1] at h2
                      obtain ⟨h4, h5⟩ := kpr.bx b c h2
                      exact ⟨h4, h5.trans h3⟩
                    · have h2 := hmp g hg
                      rw [← e2] at h2
                      exact (kpr.pr g h2).1
              · rw [if_neg (by rw [hw]; simp)]
                refine ⟨fun _ h => h, ?_⟩
                refine ih (j :: done) fuel H _ (s1.put o.dst (.tup [])) ad _ w hplr hdn' (hlc.set hr) hcr (hlset hl) ?_ (i1.put o.dst (.tup []) hdi trivial) ?_ hms ?_ h1
                · refine ⟨fun k g hk hkd ok d hok hokd => ?_, hH.ne, hH.al, hH.lt⟩
                  obtain ⟨t, h2, h3, h4, h5, h6, h7, h8⟩ := hH.at_ k g hk (fun hm => hkd (List.mem_cons_of_mem _ hm)) ok d hok hokd
                  have hkj : k ≠ j := fun e => hkd (by simp [e])
                  exact ⟨t, h2, by rw [actput_ne a _ _ d (hAd k (hH.al k g hk) hkj ok d hok hokd)]; exact h3, h4, h5, h6, by rw [put_pr, e2]; exact h7, by rw [put_boxes, e1]; exact h8⟩
                · intro k hk hkd ok d hok hokd
                  exact put_fresh s1 _ (hAd k hk (fun e => hkd (by simp [e])) ok d hok hokd) (e5 d (hfr k hk (fun hm => hkd (List.mem_cons_of_mem _ hm)) ok d hok hokd))
                · intro hds
                  obtain ⟨hsm, hmb, hmp⟩ := hmk fun d hd1 hd2 => hds d hd1 (List.mem_cons_of_mem _ hd2)
                  exact ⟨hsm, by rw [put_boxes, e1]; exact hmb, by rw [put_pr, e2]; exact hmp⟩
            · have hjA : j ∈ A := by
                refine Classical.byContradiction fun hjA => ?_
                obtain ⟨e, he, h2, h3⟩ := hother j oj hoj hji hjd.1 hjA
                obtain ⟨e', he', hb, hon⟩ := mem_nb.1 he
                have h4 := hall e' he' hb
                rw [hon] at h4
                have h5 : e < ops.size := by
                  have : e < listed.size := by
                    rcases Nat.lt_or_ge e listed.size with h | h
                    · exact h
                    · simp [Array.getD_eq_getD_getElem?, Array.getElem?_eq_none h] at h4
                  rw [hl.1] at this; exact this
                rcases (hdone hl e h5).1 h4 with h6 | h6
                · exact h2 h6
                · cases hq : H e with
                  | none => rw [hq] at h6; simp at h6
                  | some g =>
                    rcases h3 with h3 | h3
                    · exact h3 (hH.al e g hq)
                    · rw [h3] at hq; rw [hq] at hHi; cases hHi
              obtain ⟨o1, d, t, ti, e1, e2, e3, e4, e5, e6⟩ := hA j hjA
              rw [hoj] at e1; cases e1
              obtain ⟨z, hz, hzl, _⟩ := (hT t ti e3).run_zero w
              have hzc : z.cells = (flat ti.zero).toArray := by rw [← hzl]
              have hlk := hfr j hjA hjd.1 oj d hoj e5
              have hold : ∀ q, q < w.heap.size → (w.alloc (.cells (flat ti.zero).toArray t)).heap[q]? = w.heap[q]? := fun q hq => by
                simp only [World.alloc, Array.getElem?_push]; rw [if_neg (by omega)]
              have hsm' : SM ad0 m w → SM ad0 m (w.alloc (.cells (flat ti.zero).toArray t)) := fun hsm => ⟨fun b c hb => by
                have h1 := hsm.bx b c hb
                rw [hold _ (Array.getElem?_eq_some_iff.1 h1).1]; exact h1, fun g hg => by rw [hold g (hms g hg)]; exact hsm.pl g hg⟩
              unfold wpOp
              simp only [hoj]
              rw [if_pos (by simp [Region.wanted, e4])]
              left
              unfold Oper.wp execOp
              simp only [e2, Instr.alloc, Sem.run_bind, hz, Result.andThen_ok, newVar, newRow, run_newObj, Sem.run_pure, hzc]
              rw [Oper.upon_value, e5]
              refine ⟨fun _ => hsm', ?_⟩
              have hjn : (H j).isNone = true := hjd.2
              refine ihf (fun k => if k = j then some w.heap.size else H k) _ _ _ (hlc.set hj) ?_ ⟨by simpa using hl.1, fun k hk => ?_⟩ ?_ (hI.hide hlk _ _) (fun g hg => by show g < (w.heap.push _).size; rw [Array.size_push]; exact Nat.lt_succ_of_lt (hms g hg)) (by simp only [if_neg (Ne.symm hji)]; exact hHi) ?_
              · have h1 := cnt_lt (H := H) (H' := fun k => if k = j then some w.heap.size else H k) (fun k hk => by
                  by_cases e : k = j
                  · subst e; exact hjn
                  · simpa [e] using hk) hjn (by simp) ((i, q) :: r) (by
                    rcases okPlan_rest hpl0 j hjlt with h | h
                    · exact absurd h hjd.1
                    · exact h)
                omega
              · by_cases e : j = k
                · subst e
                  have : j < listed.size := by rw [hl.1]; exact hk
                  simp [Array.getD_eq_getD_getElem?, this]
                · rw [getD_set_ne true e, hl.2 k hk]
                  simp [Ne.symm e]
              · refine ⟨fun k g hk hkd ok d' hok hokd => ?_, fun k g k' hk hk' => ?_, fun k g hk => ?_, fun k g hk => ?_⟩
                · by_cases e : k = j
                  · subst e
                    simp only [if_true, Option.some.injEq] at hk
                    rw [hoj] at hok; cases hok
                    rw [e5] at hokd; cases hokd
                    subst hk
                    refine ⟨t, e2, actput_eq a d _ (by rw [hI.tn]; exact hd oj (by simpa using (List.mem_of_getElem? (by simpa using hoj : ops.toList[k]? = some oj))) d e5), fun ti' hti' => ?_, by show _ < (w.heap.push _).size; rw [Array.size_push]; omega, .inl hI.wi.bel.size, fun hp => ?_, fun b c hb => ?_⟩
                    · rw [e3] at hti'; cases hti'
                      show (w.heap.push _)[w.heap.size]? = _; simp
                    · have h2 := (hI.wi.pl _ hp).1
                      have h3 := hI.wi.sn
                      omega
                    · have := (Array.getElem?_eq_some_iff.1 (hI.wi.bx b c hb)).1
                      omega
                  · simp only [if_neg e] at hk
                    obtain ⟨t', h2, h3, h4, h5, h6, h7, h8⟩ := hH.at_ k g hk hkd ok d' hok hokd
                    exact ⟨t', h2, by rw [actput_ne a _ _ d' (fun h => e6 k ok hok e (by rw [hokd, h]))]; exact h3, fun ti' hti' => (hold g h5).trans (h4 ti' hti'), by show g < (w.heap.push _).size; rw [Array.size_push]; omega, h6, h7, h8⟩
                · by_cases e : k = j <;> by_cases e' : k' = j
                  · rw [e, e']
                  · simp only [if_pos e, if_neg e', Option.some.injEq] at hk hk'
                    have := hH.lt _ _ hk'
                    omega
                  · simp only [if_neg e, if_pos e', Option.some.injEq] at hk hk'
                    have := hH.lt _ _ hk
                    omega
                  · simp only [if_neg e, if_neg e'] at hk hk'
                    exact hH.ne k g k' hk hk'
                · by_cases e : k = j
                  · subst e; exact hjA
                  · simp only [if_neg e] at hk; exact hH.al k g hk
                · show g < (w.heap.push _).size
                  rw [Array.size_push]
                  by_cases e : k = j
                  · simp only [if_pos e, Option.some.injEq] at hk; omega
                  · simp only [if_neg e] at hk
                    have := hH.lt _ _ hk
                    omega
              · intro hds
                obtain ⟨hsm, hmb, hmp⟩ := hmk hds
                exact ⟨hsm' hsm, hmb, hmp⟩
        exact go fuel H listed a w hlc hfuel hl hH hI hms (by simp [hHi]) hmk
    have hoth : ((List.range ops.size).all fun j => j == i || done.contains j || A.contains j || match ops[j]? with
        | some oj => (nb oj).any fun e => !(done.contains e || (A.contains e && e != i))
        | none => true) = true → (∀ j oj, ops[j]? = some oj → j ≠ i → j ∉ done → j ∉ A → ∃ e ∈ nb oj, e ∉ done ∧ (e ∉ A ∨ e = i)) := fun h j oj hoj h1 h2 h3 => by
      have h4 := List.all_eq_true.1 h j (by simpa using (Array.getElem?_eq_some_iff.1 hoj).1)
      simp only [hoj, Bool.or_eq_true, beq_iff_eq, h1, List.contains_iff_mem, h2, h3, false_or, List.any_eq_true] at h4
      obtain ⟨e, he, h5⟩ := h4
      simp only [Bool.not_eq_true', Bool.or_eq_false_iff, Bool.and_eq_false_iff, List.contains_eq_mem, decide_eq_false_iff_not, bne_eq_false_iff_eq] at h5
      exact ⟨e, he, h5⟩
    cases q with
    | pure =>
      simp only [Bool.and_eq_true, List.all_eq_true, List.mem_range] at hst
      obtain ⟨hiA, hfree⟩ := hst
      have hiA : i ∉ A := by simpa using hiA
      have hHi : (H i).isNone = true := by
        cases e : H i with
        | none => rfl
        | some g => exact absurd (hH.al i g e) hiA
      obtain ⟨f, rfl, hcr⟩ := hpos hHi hfuel
      obtain ⟨s1, i1, e1, e2, e3, e4, e5, h1⟩ := guardVC_sound hI h
      have key : ∃ v x, YieldsIf P ops (fun _ => True) o v a ∧ v = x.den ad ∧ x.Ok ∧ drawVC P n w0 T ops.toList m r (s1.put o.dst x) Q := by
        rcases h1 with ⟨hw, h1⟩ | ⟨hw, h1⟩
        · obtain ⟨x, hk, hx, hr⟩ := qop_sound hT i1 (fun b c hb => by cases hb) h1
          rw [putK_eq] at hk
          refine ⟨_, x, .inl ⟨hw, fun w' _ => hr w' ⟨fun b c hb => (by cases hb), fun g hg => hg.elim⟩⟩, rfl, hx, hk⟩
        · exact ⟨undef, .tup [], .inr ⟨hw, rfl⟩, rfl, trivial, h1⟩
      obtain ⟨v, x, hy, hv, hx, hk⟩ := key
      refine wpAnyD_any ho' (noSel_of hns) (fun c a w => hpan (s := s) (ad := ad) (a := a) (w := w) _ _ c) f listed a w ?_ (hready hl hHi) hy ?_
      · intro j oj hj hne hun hno
        have h2 := hfree j (Array.getElem?_eq_some_iff.1 hj).1
        simp only [hj, Bool.or_eq_true, beq_iff_eq, hne, false_or] at h2
        rcases h2 with h2 | h2 | h2
        · exact absurd (by simpa using h2) ((hl.2 j (Array.getElem?_eq_some_iff.1 hj).1).1 hun).1
        · obtain ⟨e, he, hb, hon⟩ := mem_nb.1 (by simpa using h2 : i ∈ nb oj)
          exact absurd hon (hno e he hb)
        · exact h2
      · rw [hv]
        refine ih (i :: done) f H _ (s1.put o.dst x) ad _ w hplr hdn' (hlc.set (hready hl hHi)) hcr (hlset hl) ?_ (i1.put o.dst x hdi hx) ?_ hms ?_ hk
        · refine ⟨fun j g hj hjd oj d hoj hojd => ?_, hH.ne, hH.al, hH.lt⟩
          obtain ⟨t, h2, h3, h4, h5, h6, h7, h8⟩ := hH.at_ j g hj (fun hm => hjd (List.mem_cons_of_mem _ hm)) oj d hoj hojd
          have hji : j ≠ i := fun e => hjd (by simp [e])
          exact ⟨t, h2, by rw [actput_ne a _ _ d (hAd j (hH.al j g hj) hji oj d hoj hojd)]; exact h3, h4, h5, h6, by rw [put_pr, e2]; exact h7, by rw [put_boxes, e1]; exact h8⟩
        · intro k hk hkd ok d hok hokd
          exact put_fresh s1 x (hAd k hk (fun e => hkd (by simp [e])) ok d hok hokd) (e5 d (hfr k hk (fun hm => hkd (List.mem_cons_of_mem _ hm)) ok d hok hokd))
        · intro hds
          obtain ⟨hsm, hmb, hmp⟩ := hmk fun d hd1 hd2 => hds d hd1 (List.mem_cons_of_mem _ hd2)
          exact ⟨hsm, by rw [put_boxes, e1]; exact hmb, by rw [put_pr, e2]; exact hmp⟩
    | quiet =>
      simp only [Bool.and_eq_true, List.all_eq_true, List.mem_range] at hst
      obtain ⟨⟨hiA, hwait⟩, hfree⟩ := hst
      have hiA : i ∉ A := by simpa using hiA
      have hHi : (H i).isNone = true := by
        cases e : H i with
        | none => rfl
        | some g => exact absurd (hH.al i g e) hiA
      obtain ⟨f, rfl, hcr⟩ := hpos hHi hfuel
      have hdsd : ∀ d ∈ ds, d ∉ done := fun d hd1 => by have := List.all_eq_true.1 hdd d hd1; simpa using this
      obtain ⟨hsm, hmb, hmp⟩ := hmk hdsd
      have hdsi : ∀ d ∈ ds, Waits .any ops i d ∨ ops[d]? = none := fun d hd1 => .inl (waitB_spec (hwait d hd1))
      obtain ⟨s1, i1, e1, e2, e3, e4, e5, h1⟩ := guardVC_sound hI h
      have key : ∃ v x, YieldsIf P ops (SM ad0 m) o v a ∧ v = x.den ad ∧ x.Ok ∧ drawVC P n w0 T ops.toList m r (s1.put o.dst x) Q := by
        rcases h1 with ⟨hw, h1⟩ | ⟨hw, h1⟩
        · obtain ⟨x, hk, hx, hr⟩ := qop_sound hT i1 hm h1
          rw [putK_eq] at hk
          refine ⟨_, x, .inl ⟨hw, fun w' hw' => hr w' ⟨fun b c hb => ?_, hw'.pl⟩⟩, rfl, hx, hk⟩
          rw [(hmb b c hb).2]; exact hw'.bx b c hb
        · exact ⟨undef, .tup [], .inr ⟨hw, rfl⟩, rfl, trivial, h1⟩
      obtain ⟨v, x, hy, hv, hx, hk⟩ := key
      refine wpAnyD_first ho' (noSel_of hns) (fun c a w => hpan (s := s) (ad := ad) (a := a) (w := w) _ _ c) hdsi f listed a w ?_ hlc (hready hl hHi) hy hsm ?_
      · intro j oj hj hne hun hno
        have h2 := hfree j (Array.getElem?_eq_some_iff.1 hj).1
        simp only [hj, Bool.or_eq_true, beq_iff_eq, hne, false_or] at h2
        rcases h2 with h2 | h2 | h2
        · exact absurd (by simpa using h2) ((hl.2 j (Array.getElem?_eq_some_iff.1 hj).1).1 hun).1
        · obtain ⟨e, he, hb, hon⟩ := mem_nb.1 (by simpa using h2 : i ∈ nb oj)
          exact absurd hon (hno e he hb)
        · exact h2
      · rw [hv]
        refine ih (i :: done) f H _ (s1.put o.dst x) ad _ w hplr hdn' (hlc.set (hready hl hHi)) hcr (hlset hl) ?_ (i1.put o.dst x hdi hx) ?_ hms ?_ hk
        · refine ⟨fun j g hj hjd oj d hoj hojd => ?_, hH.ne, hH.al, hH.lt⟩
          obtain ⟨t, h2, h3, h4, h5, h6, h7, h8⟩ := hH.at_ j g hj (fun hm => hjd (List.mem_cons_of_mem _ hm)) oj d hoj hojd
          have hji : j ≠ i := fun e => hjd (by simp [e])
          exact ⟨t, h2, by rw [actput_ne a _ _ d (hAd j (hH.al j g hj) hji oj d hoj hojd)]; exact h3, h4, h5, h6, by rw [put_pr, e2]; exact h7, by rw [put_boxes, e1]; exact h8⟩
        · intro k hk hkd ok d hok hokd
          exact put_fresh s1 x (hAd k hk (fun e => hkd (by simp [e])) ok d hok hokd) (e5 d (hfr k hk (fun hm => hkd (List.mem_cons_of_mem _ hm)) ok d hok hokd))
        · intro _
          exact ⟨hsm, by rw [put_boxes, e1]; exact hmb, by rw [put_pr, e2]; exact hmp⟩
    | keep =>
      simp only [Bool.and_eq_true] at hst
      refine main true (hoth hst.2) (fun _ => ⟨rfl, fun d hd1 => ?_⟩) (fun _ => rfl) h
      have := List.all_eq_true.1 hdd d hd1; simpa using this
    | last =>
      simp only [Bool.and_eq_true] at hst
      obtain ⟨⟨⟨h1, _⟩, h2⟩, h3⟩ := hst
      exact main false (hoth h3) (fun hn => absurd (by simpa using h1) hn) (fun hn => absurd hn (by simpa using h2)) h
    | fresh =>
      simp only [Bool.and_eq_true] at hst
      obtain ⟨hiA, hst2⟩ := hst
      have hiA : i ∉ A := by simpa using hiA
      have hother := hoth hst2
      have hgv := h
      have hdsn : ∀ d ∈ ds, d ∉ done := fun d hd1 => by have := List.all_eq_true.1 hdd d hd1; simpa using this
      have hHi : (H i).isNone = true := by
        cases e : H i with
        | none => rfl
        | some g => exact absurd (hH.al i g e) hiA
      have go : ∀ (fuel : Nat) (H : Nat → Option Nat) (listed : Array Bool) (a : Act) (w : World), LClosed .any ops listed → cnt H ((i, PS.fresh) :: r) ≤ fuel → (listed.size = ops.size ∧ ∀ j, j < ops.size → (listed.getD j true = false ↔ j ∉ done ∧ (H j).isNone = true)) →
          Hid T ops A done H w0 s ad a w → Inv n w0 ad s a w → (∀ g, m.pr g → g < w.heap.size) → (H i).isNone = true →
          ((∀ d ∈ ds, d ∉ done) → SM ad0 m w ∧ (∀ b c, lk b m.boxes = some c → lk b s.boxes = some c ∧ ad b = ad0 b) ∧ ∀ g, m.pr g → s.pr g) → wpAnyD P .any ops (Post n w0 Q) (SM ad0 m) ds fuel listed a w := by
        intro fuel
        induction fuel with
        | zero =>
          intro H listed a w hlc hc hl hH hI hms hHi hmk
          simp only [cnt, hHi, if_true] at hc
          omega
        | succ fuel ihf =>
          intro H listed a w hlc hc hl hH hI hms hHi hmk
          have hr := hready hl hHi
          refine ⟨fun h => (by rw [h] at hr; cases hr), fun j hj => ?_⟩
          obtain ⟨hjun, oj, hoj, hall⟩ := mem_ready.1 hj
          have hjlt := (Array.getElem?_eq_some_iff.1 hoj).1
          have hjd := (hl.2 j hjlt).1 hjun
          by_cases hji : j = i
          · subst hji
            rw [ho'] at hoj; cases hoj
            have hcr : cnt H r ≤ fuel := by
              simp only [cnt, hHi, if_true] at hc; omega
            obtain ⟨s1, i1, e1, e2, e3, e4, e5, h1⟩ := guardVC_sound hI hgv
            unfold wpOp
            simp only [ho']
            rcases h1 with ⟨hw, h1⟩ | ⟨hw, h1⟩
            · rw [if_pos hw]
              left
              obtain ⟨hsm, hmb, hmp⟩ := hmk hdsn
              refine freshVC_sound hT i1 h1 fun b s' w' hmk0 rel i2 fr hk => ?_
              have hmk1 := hasKey_lk hmk0
              have hne : ∀ b' c, lk b' m.boxes = some c → b' ≠ b := fun b' c hb e => by rw [e, hmk1] at hb; cases hb
              have hprw : ∀ g, s1.pr g → w'.heap[g]? = w.heap[g]? := fun g hg => by
                have h2 := (i2.wi.pl g (by rw [rel.pr]; exact hg)).2
                rw [rel.sn] at h2
                exact h2.trans (i1.wi.pl g hg).2.symm
              have hsm' : SM ad0 m w → SM ad0 m w' := fun hsm => by
                refine ⟨fun b' c hb => ?_, fun g hg => ?_⟩
                · obtain ⟨h2, h3⟩ := hmb b' c hb
                  rw [← e1] at h2
                  rw [← h3]
                  exact i2.wi.bx b' c (by rw [rel.bx b' (hne b' c hb)]; exact h2)
                · have h2 := hmp g hg
                  rw [← e2] at h2
                  rw [hprw g h2]; exact hsm.pl g hg
              refine ⟨fun _ => hsm', ?_⟩
              refine ih (j :: done) fuel H _ s' ad a w' hplr hdn' (hlc.set hr) hcr (hlset hl) ?_ i2 ?_ (fun g hg => Nat.lt_of_lt_of_le (hms g hg) fr.sz) ?_ hk
              · refine ⟨fun k g hk hkd ok d hok hokd => ?_, hH.ne, hH.al, fun k g hk => Nat.lt_of_lt_of_le (hH.lt k g hk) fr.sz⟩
                obtain ⟨t, h2, h3, h4, h5, h6, h7, h8⟩ := hH.at_ k g hk (fun hm => hkd (List.mem_cons_of_mem _ hm)) ok d hok hokd
                have hkj : k ≠ j := fun e => hkd (by simp [e])
                have hbx : ∀ b c, lk b s1.boxes = some c → ad b ≠ g := by rw [e1]; exact h8
                have hpr : ¬ s1.pr g := by rw [e2]; exact h7
                have hsame := fr.hid g h5 hbx hpr
                refine ⟨t, h2, by rw [fr.tmp d (hAd k (hH.al k g hk) hkj ok d hok hokd)]; exact h3, fun ti hti => by rw [hsame]; exact h4 ti hti, Nat.lt_of_lt_of_le h5 fr.sz, h6, fun hp => ?_, fun b c hb => ?_⟩
                · rcases fr.prs g hp with h9 | h9
                  · exact hpr h9
                  · omega
                · rcases fr.bxs b c hb with ⟨c', h9, h10⟩ | h9
                  · exact hbx b c' h9
                  · omega
              · intro k hk hkd ok d hok hokd
                exact fr.frs d (hAd k hk (fun e => hkd (by simp [e])) ok d hok hokd) (e5 d (hfr k hk (fun hm => hkd (List.mem_cons_of_mem _ hm)) ok d hok hokd))
              · intro _
                refine ⟨hsm' hsm, fun b' c hb => ?_, fun g hg => ?_⟩
                · obtain ⟨h2, h3⟩ := hmb b' c hb
                  rw [← e1] at h2
                  exact ⟨by rw [rel.bx b' (hne b' c hb)]; exact h2, h3⟩
                · have h2 := hmp g hg
                  rw [← e2] at h2
                  rw [rel.pr]; exact h2
            · rw [if_neg (by rw [hw]; simp)]
              refine ⟨fun _ h => h, ?_⟩
              refine ih (j :: done) fuel H _ (s1.put o.dst (.tup [])) ad _ w hplr hdn' (hlc.set hr) hcr (hlset hl) ?_ (i1.put o.dst (.tup []) hdi trivial) ?_ hms ?_ h1
              · refine ⟨fun k g hk hkd ok d hok hokd => ?_, hH.ne, hH.al, hH.lt⟩
                obtain ⟨t, h2, h3, h4, h5, h6, h7, h8⟩ := hH.at_ k g hk (fun hm => hkd (List.mem_cons_of_mem _ hm)) ok d hok hokd
                have hkj : k ≠ j := fun e => hkd (by simp [e])
                exact ⟨t, h2, by rw [actput_ne a _ _ d (hAd k (hH.al k g hk) hkj ok d hok hokd)]; exact h3, h4, h5, h6, by rw [put_pr, e2]; exact h7, by rw [put_boxes, e1]; exact h8⟩
              · intro k hk hkd ok d hok hokd
                exact put_fresh s1 _ (hAd k hk (fun e => hkd (by simp [e])) ok d hok hokd) (e5 d (hfr k hk (fun hm => hkd (List.mem_cons_of_mem _ hm)) ok d hok hokd))
              · intro hds
                obtain ⟨hsm, hmb, hmp⟩ := hmk fun d hd1 hd2 => hds d hd1 (List.mem_cons_of_mem _ hd2)
                exact ⟨hsm, by rw [put_boxes, e1]; exact hmb, by rw [put_pr, e2]; exact hmp⟩
          · have hjA : j ∈ A := by
              refine Classical.byContradiction fun hjA => ?_
              obtain ⟨e, he, h2, h3⟩ := hother j oj hoj hji hjd.1 hjA
              obtain ⟨e', he', hb, hon⟩ := mem_nb.1 he
              have h4 := hall e' he' hb
              rw [hon] at h4
              have h5 : e < ops.size := by
                have : e < listed.size := by
                  rcases Nat.lt_or_ge e listed.size with h | h
                  · exact h
                  · simp [Array.getD_eq_getD_getElem?, Array.getElem?_eq_none h] at h4
                rw [hl.1] at this; exact this
              rcases (hdone hl e h5).1 h4 with h6 | h6
              · exact h2 h6
              · cases hq : H e with
                | none => rw [hq] at h6; simp at h6
                | some g =>
                  rcases h3 with h3 | h3
                  · exact h3 (hH.al e g hq)
                  · rw [h3] at hq; rw [hq] at hHi; cases hHi
            obtain ⟨o1, d, t, ti, e1, e2, e3, e4, e5, e6⟩ := hA j hjA
            rw [hoj] at e1; cases e1
            obtain ⟨z, hz, hzl, _⟩ := (hT t ti e3).run_zero w
            have hzc : z.cells = (flat ti.zero).toArray := by rw [← hzl]
            have hlk := hfr j hjA hjd.1 oj d hoj e5
            have hold : ∀ q, q < w.heap.size → (w.alloc (.cells (flat ti.zero).toArray t)).heap[q]? = w.heap[q]? := fun q hq => by
              simp only [World.alloc, Array.getElem?_push]; rw [if_neg (by omega)]
            have hsm' : SM ad0 m w → SM ad0 m (w.alloc (.cells (flat ti.zero).toArray t)) := fun hsm => ⟨fun b c hb => by
              have h1 := hsm.bx b c hb
              rw [hold _ (Array.getElem?_eq_some_iff.1 h1).1]; exact h1, fun g hg => by rw [hold g (hms g hg)]; exact hsm.pl g hg⟩
            unfold wpOp
            simp only [hoj]
            rw [if_pos (by simp [Region.wanted, e4])]
            left
            unfold Oper.wp execOp
            simp only [e2, Instr.alloc, Sem.run_bind, hz, Result.andThen_ok, newVar, newRow, run_newObj, Sem.run_pure, hzc]
            rw [Oper.upon_value, e5]
            refine ⟨fun _ => hsm', ?_⟩
            have hjn : (H j).isNone = true := hjd.2
            refine ihf (fun k => if k = j then some w.heap.size else H k) _ _ _ (hlc.set hj) ?_ ⟨by simpa using hl.1, fun k hk => ?_⟩ ?_ (hI.hide hlk _ _) (fun g hg => by show g < (w.heap.push _).size; rw [Array.size_push]; exact Nat.lt_succ_of_lt (hms g hg)) (by simp only [if_neg (Ne.symm hji)]; exact hHi) ?_
            · have h1 := cnt_lt (H := H) (H' := fun k => if k = j then some w.heap.size else H k) (fun k hk => by
                by_cases e : k = j
                · subst e; exact hjn
                · simpa [e] using hk) hjn (by simp) ((i, PS.fresh) :: r) (by
                  rcases okPlan_rest hpl0 j hjlt with h | h
                  · exact absurd h hjd.1
                  · exact h)
              omega
            · by_cases e : j = k
              · subst e
                have : j < listed.size := by rw [hl.1]; exact hk
                simp [Array.getD_eq_getD_getElem?, this]
              · rw [getD_set_ne true e, hl.2 k hk]
                simp [Ne.symm e]
            · refine ⟨fun k g hk hkd ok d' hok hokd => ?_, fun k g k' hk hk' => ?_, fun k g hk => ?_, fun k g hk => ?_⟩
              · by_cases e : k = j
                · subst e
                  simp only [if_true, Option.some.injEq] at hk
                  rw [hoj] at hok; cases hok
                  rw [e5] at hokd; cases hokd
                  subst hk
                  refine ⟨t, e2, actput_eq a d _ (by rw [hI.tn]; exact hd oj (by simpa using (List.mem_of_getElem? (by simpa using hoj : ops.toList[k]? = some oj))) d e5), fun ti' hti' => ?_, by show _ < (w.heap.push _).size; rw [Array.size_push]; omega, .inl hI.wi.bel.size, fun hp => ?_, fun b c hb => ?_⟩
                  · rw [e3] at hti'; cases hti'
                    show (w.heap.push _)[w.heap.size]? = _; simp
                  · have h2 := (hI.wi.pl _ hp).1
                    have h3 := hI.wi.sn
                    omega
                  · have := (Array.getElem?_eq_some_iff.1 (hI.wi.bx b c hb)).1
                    omega
                · simp only [if_neg e] at hk
                  obtain ⟨t', h2, h3, h4, h5, h6, h7, h8⟩ := hH.at_ k g hk hkd ok d' hok hokd
                  exact ⟨t', h2, by rw [actput_ne a _ _ d' (fun h => e6 k ok hok e (by rw [hokd, h]))]; exact h3, fun ti' hti' => (hold g h5).trans (h4 ti' hti'), by show g < (w.heap.push _).size; rw [Array.size_push]; omega, h6, h7, h8⟩
              · by_cases e : k = j <;> by_cases e' : k' = j
                · rw [e, e']
                · simp only [if_pos e, if_neg e', Option.some.injEq] at hk hk'
                  have := hH.lt _ _ hk'
                  omega
                · simp only [if_neg e, if_pos e', Option.some.injEq] at hk hk'
                  have := hH.lt _ _ hk
                  omega
                · simp only [if_neg e, if_neg e'] at hk hk'
                  exact hH.ne k g k' hk hk'
              · by_cases e : k = j
                · subst e; exact hjA
                · simp only [if_neg e] at hk; exact hH.al k g hk
              · show g < (w.heap.push _).size
                rw [Array.size_push]
                by_cases e : k = j
                · simp only [if_pos e, Option.some.injEq] at hk; omega
                · simp only [if_neg e] at hk
                  have := hH.lt _ _ hk
                  omega
            · intro hds
              obtain ⟨hsm, hmb, hmp⟩ := hmk hds
              exact ⟨hsm' hsm, hmb, hmp⟩
      exact go fuel H listed a w hlc hfuel hl hH hI hms hHi hmk
theorem wi_drew {w0 : Base} {ad : Nat → Nat} {s : St} {w : World} (h : WI w0 ad s w) (k : Nat) : WI w0 ad s { w with drawn := k } := ⟨⟨h.bel.os, h.bel.tape, h.bel.output, h.bel.size, h.bel.block⟩, h.bx, h.ok, h.lo, h.inj, h.np, h.sn, h.pl⟩
def allocT (T : Tab) (ops : Array Oper) (A : List Nat) : Bool := A.all fun i => match ops[i]? with
  | some o => match o.op with
    | .alloc t => (lk t T).isSome
    | _ => false
  | none => false
def slotsOf (ops : Array Oper) (A : List Nat) : List Nat := A.filterMap fun i => (ops[i]?).bind (·.dst)
/-- The rule. -/
theorem draw_rule (hT : TabOK P T) (hP : P.follows .mixedOrders = true) {n : Nat} {w0 : Base} {id : Nat} {ops : Array Oper} {ts : List (Nat × SV)} {bs : List (Nat × (List Seg × TypeId))} {dfs : List (FuncId × List SV)} {pr : Nat → Prop} {sw : World} {Q : Exit → St → Prop}
    (A ds : List Nat) (plan : List (Nat × PS)) (AS : List Nat) (hd : dstOk n (.region id ops true) = true) (hok : (okAll ops A ds plan && allocT T ops A && (slotsOf ops A).all AS.contains) = true)
    (h : dropsK AS ts fun ts => drawVC P n w0 T ops.toList ⟨ts, bs, dfs, pr, sw⟩ plan ⟨ts, bs, dfs, pr, sw⟩ Q) : DrawVC P n w0 T id ops ⟨ts, bs, dfs, pr, sw⟩ Q := by
  obtain ⟨ts', h, hfr, hsub⟩ := dropsK_spec h
  simp only [Bool.and_eq_true, okAll, decide_eq_true_eq] at hok
  obtain ⟨⟨⟨⟨⟨hns, hpl⟩, hlen⟩, hAl⟩, hAt⟩, hAS⟩ := hok
  have hA : ∀ i ∈ A, ∃ o d t ti, ops[i]? = some o ∧ o.op = .alloc t ∧ lk t T = some ti ∧ o.guard = none ∧ o.dst = some d ∧ ∀ j oj, ops[j]? = some oj → j ≠ i → oj.dst ≠ some d := fun i hi => by
    have h1 := List.all_eq_true.1 hAl i hi
    have h2 := List.all_eq_true.1 hAt i hi
    cases ho : ops[i]? with
    | none => rw [ho] at h1; cases h1
    | some o =>
      simp only [ho, Bool.and_eq_true, List.all_eq_true, List.mem_range] at h1 h2
      obtain ⟨h1, h3⟩ := h1
      unfold allocB at h1
      split at h1
      case h_2 => cases h1
      case h_1 t d e1 e2 e3 =>
        rw [e1] at h2
        simp only at h2
        obtain ⟨ti, hti⟩ := Option.isSome_iff_exists.1 h2
        refine ⟨o, d, t, ti, rfl, e1, hti, e2, e3, fun j oj hj hji hoj => ?_⟩
        have h4 := h3 j (Array.getElem?_eq_some_iff.1 hj).1
        simp [hj, hji, hoj, e3] at h4
  refine ⟨fun ad a w hI => wp_region_any hP (wpAny_of_D (S := SM ad ⟨ts', bs, dfs, pr, sw⟩) (ds := ds) _ _ _ _ ?_)⟩
  have hI' : Inv n w0 ad ⟨ts', bs, dfs, pr, sw⟩ a { w with drawn := w.drawn + 1 } :=
    ⟨hI.tn, fun i x hx => hI.tm i x (hsub i x hx), hI.df, ⟨(wi_drew hI.wi _).bel, (wi_drew hI.wi _).bx, hI.wi.ok, hI.wi.lo, hI.wi.inj, hI.wi.np, hI.wi.sn, hI.wi.pl⟩⟩
  refine drawVC_sound hT (dstOk_ops hd) hns hA hI'.wi.ok plan [] ops.size (fun _ => none) _ _ ad a _ hpl (fun i hi => by cases hi) (fun j oj hj hl => ?_) ?_ ⟨by simp, fun j hj => by simp [hj]⟩ ⟨fun j g hj => (by cases hj), fun j g _ hj => (by cases hj), fun j g hj => (by cases hj), fun j g hj => (by cases hj)⟩ hI' ?_ ?_ ?_ h
  · simp [Array.getD_eq_getD_getElem?, Array.getElem?_replicate] at hl
    split at hl <;> simp at hl
  · have : ∀ r : List (Nat × PS), cnt (fun _ => none) r = r.length := fun r => by
      induction r with
      | nil => rfl
      | cons p r ih => obtain ⟨i, q⟩ := p; simp only [cnt, ih]; simp; omega
    rw [this]; exact hlen
  · intro i hi _ o d ho hod
    refine hfr d ?_
    have := List.all_eq_true.1 hAS d (by
      simp only [slotsOf, List.mem_filterMap]
      exact ⟨i, hi, by simp [ho, hod]⟩)
    simpa using this
  · intro g hg
    have h1 := (hI'.wi.pl g hg).1
    have h2 := hI'.wi.sn
    exact Nat.lt_of_lt_of_le h1 h2
  · intro _
    exact ⟨hI'.wi.sm, fun b c hb => ⟨hb, rfl⟩, fun g hg => hg⟩
end Go.Sx
