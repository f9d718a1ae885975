/-
  A symbolic machine over the model's code: symbolic values, states, what a state says of a frame and a world; the quiet operations (they read alone) and their soundness. It speaks of no program: any P.
-/
import Derived.OrdersHeld
import Derived.Below
import Derived.Laws.CopyRow
import Derived.Laws.Tables
import Derived.Laws.Cells
import Derived.Laws.Entries
import Derived.Deep.MidRow
set_option linter.unusedVariables false
set_option linter.unusedSimpArgs false
namespace Go.Sx
open Go Go.RowKit

/-! ### Cells, in segments -/
inductive Seg where
  | one (v : Value)
  | ints (k : IntKind) (n : Nat) (xs : List Int)
  | raw (n : Nat) (cs : List Value)
def Seg.len : Seg → Nat
  | .one _ => 1
  | .ints _ n _ => n
  | .raw n _ => n
def Seg.cells : Seg → List Value
  | .one v => [v]
  | .ints k _ xs => xs.map (Value.int k)
  | .raw _ cs => cs
def Seg.Ok : Seg → Prop
  | .one v => v.oneCell' = true
  | .ints _ n xs => xs.length = n
  | .raw n cs => cs.length = n ∧ ∀ c ∈ cs, c.oneCell' = true
def flat : List Seg → List Value
  | [] => []
  | s :: r => s.cells ++ flat r
def SegsOk : List Seg → Prop
  | [] => True
  | s :: r => s.Ok ∧ SegsOk r
def segsLen : List Seg → Nat
  | [] => 0
  | s :: r => s.len + segsLen r
theorem Seg.cells_length {s : Seg} (h : s.Ok) : s.cells.length = s.len := by
  cases s with
  | one v => rfl
  | ints k n xs => simpa [Seg.cells, Seg.len, Seg.Ok] using h
  | raw n cs => exact h.1
theorem flat_length {l : List Seg} (h : SegsOk l) : (flat l).length = segsLen l := by
  induction l with
  | nil => rfl
  | cons s r ih => simp [flat, segsLen, Seg.cells_length h.1, ih h.2]
theorem Seg.cells_one {s : Seg} (h : s.Ok) : ∀ c ∈ s.cells, c.oneCell' = true := by
  cases s with
  | one v => intro c hc; simp [Seg.cells] at hc; subst hc; exact h
  | ints k n xs => intro c hc; simp [Seg.cells] at hc; obtain ⟨x, _, rfl⟩ := hc; rfl
  | raw n cs => exact h.2
theorem flat_one {l : List Seg} (h : SegsOk l) : ∀ c ∈ flat l, c.oneCell' = true := by
  induction l with
  | nil => intro c hc; cases hc
  | cons s r ih =>
    intro c hc
    rcases List.mem_append.1 hc with hc | hc
    · exact Seg.cells_one h.1 c hc
    · exact ih h.2 c hc
theorem flat_append (p q : List Seg) : flat (p ++ q) = flat p ++ flat q := by
  induction p with
  | nil => rfl
  | cons s r ih => simp [flat, ih]
theorem segsOk_append {p q : List Seg} : SegsOk (p ++ q) ↔ SegsOk p ∧ SegsOk q := by
  induction p with
  | nil => simp [SegsOk]
  | cons s r ih => simp [SegsOk, ih, and_assoc]

/-- The first n cells, and the rest, where a segment ends there. -/
def cutAt : List Seg → Nat → (List Seg → List Seg → Prop) → Prop
  | l, 0, k => k [] l
  | [], _ + 1, _ => False
  | s :: r, n + 1, k => match Nat.ble s.len (n + 1) with
    | true => cutAt r (n + 1 - s.len) fun p q => k (s :: p) q
    | false => False
theorem cutAt_spec {l : List Seg} {n : Nat} {k : List Seg → List Seg → Prop} (h : cutAt l n k) :
    ∃ p q, k p q ∧ l = p ++ q ∧ (SegsOk l → (flat p).length = n) := by
  induction l generalizing n k with
  | nil =>
    cases n with
    | zero => exact ⟨[], [], h, rfl, fun _ => rfl⟩
    | succ n => exact h.elim
  | cons s r ih =>
    cases n with
    | zero => exact ⟨[], s :: r, h, rfl, fun _ => rfl⟩
    | succ n =>
      simp only [cutAt] at h
      split at h
      · rename_i hb
        obtain ⟨p, q, hk, hr, hl⟩ := ih h
        refine ⟨s :: p, q, hk, by rw [hr]; rfl, fun hok => ?_⟩
        have h1 := Seg.cells_length hok.1
        have h2 := hl hok.2
        have h3 := Nat.le_of_ble_eq_true hb
        simp only [flat, List.length_append, h1, h2]
        omega
      · exact h.elim

/-! ### Symbolic values -/
inductive SV where
  | v (x : Value)
  | lit (b : Bool)
  | agg (l : List Seg)
  | tup (l : List SV)
  | ptr (b off : Nat)
  | eptr (b off n : Nat) (i : Int)
  | xptr (A : Option Addr) (k : Nat)
  | clo (f : FuncId) (caps : List SV)
mutual
def SV.den (ad : Nat → Nat) : SV → Value
  | .v x => x
  | .lit b => .bool b
  | .agg l => .agg (flat l).toArray
  | .tup l => .tuple (SV.dens ad l).toArray
  | .ptr b off => .pointer (some ⟨ad b, off, none⟩)
  | .eptr b off _ i => .pointer (some ⟨ad b, off + i.toNat, none⟩)
  | .xptr A k => .pointer (A.map (·.add k))
  | .clo f caps => .func (.func f) #[] (SV.dens ad caps).toArray
def SV.dens (ad : Nat → Nat) : List SV → List Value
  | [] => []
  | x :: r => SV.den ad x :: SV.dens ad r
end
mutual
def SV.Ok : SV → Prop
  | .v x => x.oneCell' = true
  | .lit _ => True
  | .agg l => SegsOk l
  | .tup l => SV.Oks l
  | .ptr _ _ => True
  | .eptr _ _ n i => 0 ≤ i ∧ i < (n : Int)
  | .xptr A _ => A ≠ none
  | .clo _ caps => SV.Oks caps
def SV.Oks : List SV → Prop
  | [] => True
  | x :: r => SV.Ok x ∧ SV.Oks r
end
mutual
/-- Does it name box b? -/
def SV.refs (b : Nat) : SV → Bool
  | .v _ => false
  | .lit _ => false
  | .agg _ => false
  | .tup l => SV.refss b l
  | .ptr b' _ => Nat.beq b b'
  | .eptr b' _ _ _ => Nat.beq b b'
  | .xptr _ _ => false
  | .clo _ caps => SV.refss b caps
def SV.refss (b : Nat) : List SV → Bool
  | [] => false
  | x :: r => match SV.refs b x with
    | true => true
    | false => SV.refss b r
end
mutual
theorem SV.den_congr {ad ad' : Nat → Nat} {b : Nat} (h : ∀ b', b' ≠ b → ad' b' = ad b') : ∀ {x : SV}, x.refs b = false → x.den ad' = x.den ad
  | .v x, _ => rfl
  | .lit _, _ => rfl
  | .agg _, _ => rfl
  | .tup l, hx => by
    simp only [SV.den]; rw [SV.dens_congr h (by simpa [SV.refs] using hx)]
  | .ptr b' off, hx => by
    have : b' ≠ b := fun e => by subst e; simp [SV.refs] at hx
    simp only [SV.den]; rw [h b' this]
  | .eptr b' off _ i, hx => by
    have : b' ≠ b := fun e => by subst e; simp [SV.refs] at hx
    simp only [SV.den]; rw [h b' this]
  | .xptr _ _, _ => rfl
  | .clo f caps, hx => by
    simp only [SV.den]; rw [SV.dens_congr h (by simpa [SV.refs] using hx)]
theorem SV.dens_congr {ad ad' : Nat → Nat} {b : Nat} (h : ∀ b', b' ≠ b → ad' b' = ad b') : ∀ {l : List SV}, SV.refss b l = false → SV.dens ad' l = SV.dens ad l
  | [], _ => rfl
  | x :: r, hx => by
    simp only [SV.refss] at hx
    split at hx
    · cases hx
    · rename_i h1
      simp only [SV.dens]
      rw [SV.den_congr h h1, SV.dens_congr h hx]
end
theorem SV.dens_map (ad : Nat → Nat) : ∀ l : List SV, SV.dens ad l = l.map (SV.den ad)
  | [] => rfl
  | x :: r => by simp [SV.dens, SV.dens_map ad r]

/-! ### States -/
def lk {α : Type} (i : Nat) : List (Nat × α) → Option α
  | [] => none
  | (j, x) :: r => match Nat.beq j i with
    | true => some x
    | false => lk i r
def look {α : Type} (i : Nat) : List (Nat × α) → (α → Prop) → Prop
  | [], _ => False
  | (j, x) :: r, k => match Nat.beq j i with
    | true => k x
    | false => look i r k
theorem look_spec {α : Type} {i : Nat} {l : List (Nat × α)} {k : α → Prop} (h : look i l k) : ∃ x, lk i l = some x ∧ k x := by
  induction l with
  | nil => exact h.elim
  | cons p r ih =>
    obtain ⟨j, x⟩ := p
    simp only [look] at h
    simp only [lk]
    split at h
    · exact ⟨x, rfl, h⟩
    · exact ih h
theorem lk_cons {α : Type} (i j : Nat) (x : α) (r : List (Nat × α)) : lk i ((j, x) :: r) = if j = i then some x else lk i r := by
  simp only [lk]
  by_cases h : j = i
  · subst h; simp
  · have : Nat.beq j i = false := by
      cases hb : Nat.beq j i with
      | false => rfl
      | true => exact absurd (Nat.eq_of_beq_eq_true hb) h
    rw [this, if_neg h]

structure St where
  tmps : List (Nat × SV)
  boxes : List (Nat × (List Seg × TypeId))
  dfs : List (FuncId × List SV)
  pr : Nat → Prop
  snap : World
def dden (ad : Nat → Nat) (d : FuncId × List SV) : Deferred := { target := .fn (.func d.1) (SV.dens ad d.2).toArray, args := #[] }

/-- What a call may not write: the memory that was there, but the blocks of x. -/
structure Base where
  w : World
  x : Nat → Prop
def Base.own (b : Base) (g : Nat) : Prop := b.w.heap.size ≤ g ∨ b.x g
def Base.of (w : World) : Base := ⟨w, fun _ => False⟩
structure BelX (b : Base) (w : World) : Prop where
  os : w.os = b.w.os
  tape : w.tape = b.w.tape
  output : w.output = b.w.output
  size : b.w.heap.size ≤ w.heap.size
  block : ∀ k, k < b.w.heap.size → ¬ b.x k → w.heap[k]? = b.w.heap[k]?
theorem BelX.step {b : Base} {w w' : World} (h : BelX b w) (hb : Below w.heap.size w w') : BelX b w' :=
  ⟨hb.os.trans h.os, hb.tape.trans h.tape, hb.output.trans h.output, Nat.le_trans h.size hb.size, fun k hk hx => (hb.block k (Nat.lt_of_lt_of_le hk h.size)).trans (h.block k hk hx)⟩
theorem BelX.refl (b : Base) : BelX b b.w := ⟨rfl, rfl, rfl, Nat.le_refl _, fun _ _ _ => rfl⟩
theorem BelX.alloc {b : Base} {w : World} (h : BelX b w) (hB : b.w.heap.size ≤ w.heap.size) (o : Obj) : BelX b (w.alloc o) := h.step ((Below.refl _ _).alloc (Nat.le_refl _) o)
theorem BelX.below {w0 w : World} (h : BelX (.of w0) w) : Below w0.heap.size w0 w := ⟨h.os, h.tape, h.output, h.size, fun k hk => h.block k hk (fun h => h)⟩
/-- What a state says of the world. -/
structure WI (w0 : Base) (ad : Nat → Nat) (s : St) (w : World) : Prop where
  bel : BelX w0 w
  bx : ∀ b c, lk b s.boxes = some c → w.heap[ad b]? = some (.cells (flat c.1).toArray c.2 (0, 0))
  ok : ∀ b c, lk b s.boxes = some c → SegsOk c.1
  lo : ∀ b c, lk b s.boxes = some c → w0.own (ad b)
  inj : ∀ b c b' c', lk b s.boxes = some c → lk b' s.boxes = some c' → ad b = ad b' → b = b'
  np : ∀ b c, lk b s.boxes = some c → ¬ s.pr (ad b)
  sn : s.snap.heap.size ≤ w.heap.size
  pl : ∀ g, s.pr g → g < s.snap.heap.size ∧ w.heap[g]? = s.snap.heap[g]?
/-- .. and of the frame. -/
structure Inv (n : Nat) (w0 : Base) (ad : Nat → Nat) (s : St) (a : Act) (w : World) : Prop where
  tn : a.tmps.size = n
  tm : ∀ i x, lk i s.tmps = some x → a.tmps.getD i undef = x.den ad ∧ x.Ok
  df : a.defers = s.dfs.map (dden ad)
  wi : WI w0 ad s w
/-- What a step leaves alone. -/
structure Fr (s : St) (ad : Nat → Nat) (dst : Option Nat) (a : Act) (w : World) (s' : St) (ad' : Nat → Nat) (a' : Act) (w' : World) : Prop where
  sz : w.heap.size ≤ w'.heap.size
  hid : ∀ q, q < w.heap.size → (∀ b c, lk b s.boxes = some c → ad b ≠ q) → ¬ s.pr q → w'.heap[q]? = w.heap[q]?
  tmp : ∀ t, dst ≠ some t → a'.tmps.getD t undef = a.tmps.getD t undef
  prs : ∀ g, s'.pr g → s.pr g ∨ w.heap.size ≤ g
  bxs : ∀ b c, lk b s'.boxes = some c → (∃ c', lk b s.boxes = some c' ∧ ad' b = ad b) ∨ w.heap.size ≤ ad' b
  frs : ∀ t, dst ≠ some t → lk t s.tmps = none → lk t s'.tmps = none
/-- What a step keeps that is no store. -/
structure Kp (s : St) (ad : Nat → Nat) (w : World) (s' : St) (ad' : Nat → Nat) (w' : World) : Prop where
  bx : ∀ b c, lk b s.boxes = some c → lk b s'.boxes = some c ∧ ad' b = ad b
  pr : ∀ g, s.pr g → s'.pr g ∧ w'.heap[g]? = w.heap[g]?

def St.put (s : St) (d : Option Nat) (x : SV) : St :=
  match d with
  | some d => { s with tmps := (d, x) :: s.tmps }
  | none => s
/-- The same, for evaluation. -/
def putK (s : St) (d : Option Nat) (x : SV) (k : St → Prop) : Prop :=
  match s with
  | ⟨ts, bs, ds, pr, w⟩ => match d with
    | some d => k ⟨(d, x) :: ts, bs, ds, pr, w⟩
    | none => k ⟨ts, bs, ds, pr, w⟩
theorem putK_eq (s : St) (d : Option Nat) (x : SV) (k : St → Prop) : putK s d x k = k (s.put d x) := by
  cases s; cases d <;> rfl
theorem put_boxes (s : St) (d : Option Nat) (x : SV) : (s.put d x).boxes = s.boxes := by cases d <;> rfl
theorem put_pr (s : St) (d : Option Nat) (x : SV) : (s.put d x).pr = s.pr := by cases d <;> rfl
theorem put_snap (s : St) (d : Option Nat) (x : SV) : (s.put d x).snap = s.snap := by cases d <;> rfl
theorem put_dfs (s : St) (d : Option Nat) (x : SV) : (s.put d x).dfs = s.dfs := by cases d <;> rfl
theorem WI.put {w0 : Base} {ad : Nat → Nat} {s : St} {w : World} (h : WI w0 ad s w) (d : Option Nat) (x : SV) : WI w0 ad (s.put d x) w := by
  cases d with
  | none => exact h
  | some d => exact ⟨h.bel, h.bx, h.ok, h.lo, h.inj, h.np, h.sn, h.pl⟩
theorem actput_size (a : Act) (d : Option Nat) (v : Value) : (a.put d v).tmps.size = a.tmps.size := by cases d <;> simp [Act.put]
theorem actput_defers (a : Act) (d : Option Nat) (v : Value) : (a.put d v).defers = a.defers := by cases d <;> rfl
theorem actput_ne (a : Act) (d : Option Nat) (v : Value) (t : Nat) (h : d ≠ some t) : (a.put d v).tmps.getD t undef = a.tmps.getD t undef := by
  cases d with
  | none => rfl
  | some d =>
    have : d ≠ t := fun e => h (by rw [e])
    simp only [Act.put, Array.getD_eq_getD_getElem?, Array.getElem?_setIfInBounds_ne this]
theorem actput_eq (a : Act) (d : Nat) (v : Value) (h : d < a.tmps.size) : (a.put (some d) v).tmps.getD d undef = v := by
  simp [Act.put, Array.getD_eq_getD_getElem?, h]
theorem Inv.put {n : Nat} {w0 : Base} {ad : Nat → Nat} {s : St} {a : Act} {w : World} (h : Inv n w0 ad s a w) (d : Option Nat) (x : SV)
    (hd : ∀ t, d = some t → t < n) (hx : x.Ok) : Inv n w0 ad (s.put d x) (a.put d (x.den ad)) w := by
  refine ⟨by rw [actput_size]; exact h.tn, ?_, by rw [actput_defers, put_dfs]; exact h.df, h.wi.put d x⟩
  intro i y hy
  cases d with
  | none => exact h.tm i y hy
  | some d =>
    simp only [St.put, lk_cons] at hy
    by_cases e : d = i
    · subst e
      rw [if_pos rfl] at hy
      cases hy
      exact ⟨actput_eq a d _ (by rw [h.tn]; exact hd d rfl), hx⟩
    · rw [if_neg e] at hy
      have := h.tm i y hy
      exact ⟨by rw [actput_ne a _ _ i (by simpa using e)]; exact this.1, this.2⟩
/-- The frame changes its world for one that a state says the same of. -/
theorem Inv.world {n : Nat} {w0 : Base} {ad : Nat → Nat} {s : St} {a : Act} {w w' : World} (h : Inv n w0 ad s a w) (hw : WI w0 ad s w') : Inv n w0 ad s a w' := ⟨h.tn, h.tm, h.df, hw⟩
theorem put_fresh (s : St) {d : Option Nat} (x : SV) {t : Nat} (ht : d ≠ some t) (hs : lk t s.tmps = none) : lk t (s.put d x).tmps = none := by
  cases d with
  | none => exact hs
  | some d =>
    show lk t ((d, x) :: s.tmps) = none
    rw [lk_cons, if_neg (by simpa using ht)]; exact hs
theorem Fr.put (s : St) (ad : Nat → Nat) (d : Option Nat) (a : Act) (w : World) (x : SV) (v : Value) : Fr s ad d a w (s.put d x) ad (a.put d v) w :=
  ⟨Nat.le_refl _, fun _ _ _ _ => rfl, fun t ht => actput_ne a d v t ht, fun g hg => .inl (by rwa [put_pr] at hg), fun b c hb => .inl ⟨c, by rwa [put_boxes] at hb, rfl⟩, fun t ht hs => put_fresh s x ht hs⟩
theorem Kp.put (s : St) (ad : Nat → Nat) (d : Option Nat) (w : World) (x : SV) : Kp s ad w (s.put d x) ad w :=
  ⟨fun b c hb => ⟨by rwa [put_boxes], rfl⟩, fun g hg => ⟨by rwa [put_pr], rfl⟩⟩

/-! ### Operands -/
def ev (s : St) : Operand → (SV → Prop) → Prop
  | .tmp t, k => match s with
    | ⟨ts, _, _, _, _⟩ => look t ts k
  | .const (.bool b), k => k (.lit b)
  | .const (.int kd z), k => k (.v (.int kd z))
  | .const (.string z), k => k (.v (.string z))
  | .const (.slice z n c), k => k (.v (.slice z n c))
  | .const .nilIface, k => k (.v .nilIface)
  | .const .nilFunc, k => k (.v .nilFunc)
  | .const (.float kd z), k => k (.v (.float kd z))
  | .const (.pointer none), k => k (.v (.pointer none))
  | .const (.map none), k => k (.v (.map none))
  | .func f, k => k (.clo f [])
  | .global g, k => k (.v (.pointer (some ⟨g, 0, none⟩)))
  | _, _ => False
theorem ev_spec {n : Nat} {w0 : Base} {ad : Nat → Nat} {s : St} {a : Act} {w : World} (h : Inv n w0 ad s a w) {x : Operand} {k : SV → Prop} (he : ev s x k) :
    ∃ y, k y ∧ a.eval x = y.den ad ∧ y.Ok := by
  cases x with
  | tmp t =>
    obtain ⟨y, hy, hk⟩ := look_spec (by simpa only [ev] using he : look t s.tmps k)
    exact ⟨y, hk, (h.tm t y hy).1, (h.tm t y hy).2⟩
  | func f => exact ⟨_, he, by simp [Act.eval, SV.den, SV.dens], trivial⟩
  | global g => exact ⟨_, he, rfl, rfl⟩
  | const c =>
    cases c with
    | bool b => exact ⟨_, he, rfl, trivial⟩
    | int kd z => exact ⟨_, he, rfl, rfl⟩
    | string z => exact ⟨_, he, rfl, rfl⟩
    | slice z n c => exact ⟨_, he, rfl, rfl⟩
    | nilIface => exact ⟨_, he, rfl, rfl⟩
    | nilFunc => exact ⟨_, he, rfl, rfl⟩
    | float kd z => exact ⟨_, he, rfl, rfl⟩
    | pointer p => cases p with
      | none => exact ⟨_, he, rfl, rfl⟩
      | some p => exact (he : False).elim
    | map p => cases p with
      | none => exact ⟨_, he, rfl, rfl⟩
      | some p => exact (he : False).elim
    | complex _ _ _ => exact (he : False).elim
    | chan _ => exact (he : False).elim
    | func _ _ _ => exact (he : False).elim
    | iface _ _ => exact (he : False).elim
    | agg _ => exact (he : False).elim
    | tuple _ => exact (he : False).elim

/-! ### Types -/
inductive TD where
  | int (k : IntKind)
  | bool
  | str
  | float
  | slice (e esz : Nat)
  | array (len e esz : Nat)
  | struct (fl : List (Nat × Nat))
  | other
structure TI where
  size : Nat
  agg : Bool
  zero : List Seg
  d : TD
abbrev Tab := List (Nat × TI)
def TDOk (P : Program) (t : TypeId) : TD → Prop
  | .int k => P.underlying t = some (.int k)
  | .bool => P.underlying t = some .bool
  | .str => P.underlying t = some .string
  | .float => P.underlying t = some (.float .f64)
  | .slice e esz => P.underlying t = some (.slice e) ∧ (P.info? e).map (·.size) = some esz
  | .array len e esz => P.underlying t = some (.array len e) ∧ (P.info? e).map (·.size) = some esz
  | .struct fl => ∃ fs : Array Field, P.underlying t = some (.struct fs) ∧ fs.toList.mapM (fun f => (P.info? f.type).map fun i => (f.offset, i.size)) = some fl ∧ (fl.all fun p => p.2 != 0) = true
  | .other => True
structure TOk (P : Program) (t : TypeId) (i : TI) : Prop where
  size : (P.info? t).map (·.size) = some i.size
  zero : (P.info? t).map (fun x => x.zero.map (fun z => z.cells.toList)) = some (some (flat i.zero))
  zagg : (P.info? t).map (fun x => x.zero.map (fun z => match z with | .agg _ => true | _ => false)) = some (some i.agg)
  zok : SegsOk i.zero
  zlen : segsLen i.zero = i.size
  isagg : (P.underlying t).map (fun d => match d with | .struct _ => true | .array _ _ => true | _ => false) = some i.agg
  desc : TDOk P t i.d
def TabOK (P : Program) (T : Tab) : Prop := ∀ t i, lk t T = some i → TOk P t i
def TabAll (P : Program) : Tab → Prop
  | [] => True
  | (t, i) :: r => TOk P t i ∧ TabAll P r
theorem TabAll.ok {P : Program} {T : Tab} (h : TabAll P T) : TabOK P T := by
  induction T with
  | nil => intro t i hi; cases hi
  | cons p r ih =>
    obtain ⟨j, x⟩ := p
    intro t i hi
    rw [lk_cons] at hi
    by_cases e : j = t
    · subst e; rw [if_pos rfl] at hi; cases hi; exact h.1
    · rw [if_neg e] at hi; exact ih h.2 t i hi
theorem TOk.run_size {P : Program} {t : TypeId} {i : TI} (h : TOk P t i) (w : World) : (sizeOf t).run P w = .ok i.size w := by
  have := h.size
  cases hq : P.info? t with
  | none => simp [hq] at this
  | some x => simp [hq] at this; simp [sizeOf, typeInfo, hq, this]
theorem run_size_of {P : Program} {t : TypeId} {z : Nat} (h : (P.info? t).map (·.size) = some z) (w : World) : (sizeOf t).run P w = .ok z w := by
  cases hq : P.info? t with
  | none => simp [hq] at h
  | some x => simp [hq] at h; simp [sizeOf, typeInfo, hq, h]
theorem TOk.run_agg {P : Program} {t : TypeId} {i : TI} (h : TOk P t i) (w : World) : (isAgg t).run P w = .ok i.agg w := by
  have := h.isagg
  cases hq : P.underlying t with
  | none => simp [hq] at this
  | some d =>
    simp only [hq, Option.map_some, Option.some.injEq] at this
    unfold isAgg
    rw [Sem.run_bind, run_underlying hq w]
    cases d <;> simp_all
theorem TOk.run_zero {P : Program} {t : TypeId} {i : TI} (h : TOk P t i) (w : World) : ∃ z, (zeroValue t).run P w = .ok z w ∧ z.cells.toList = flat i.zero ∧ (i.agg = true → z = .agg (flat i.zero).toArray) := by
  have h1 := h.zero
  have h2 := h.zagg
  cases hq : P.info? t with
  | none => simp [hq] at h1
  | some x =>
    cases hz : x.zero with
    | none => simp [hq, hz] at h1
    | some z =>
      simp only [hq, hz, Option.map_some, Option.some.injEq] at h1 h2
      refine ⟨z, by simp [zeroValue, typeInfo, hq, hz], h1, fun ha => ?_⟩
      cases z with
      | agg cs => simp only [Value.cells] at h1; rw [← h1]
      | _ => simp_all

/-! ### Loads -/
theorem loadVar_run {P : Program} {t : TypeId} {i : TI} (h : TOk P t i) (w : World) (A : Addr) (cs : List Value) (hl : cs.length = i.size) (hc : ∀ j v, cs[j]? = some v → w.cell? (A.add j) = some v) :
    (loadVar t A).run P w = .ok (if i.agg = true then .agg cs.toArray else cs.headD undef) w ∨ (i.agg = false ∧ i.size ≠ 1) := by
  cases ha : i.agg with
  | true =>
    left
    have hr := run_loadCells_list (P := P) w A cs hc
    rw [hl] at hr
    simp [loadVar, h.run_agg, ha, h.run_size, hr]
  | false =>
    by_cases h1 : i.size = 1
    · left
      match cs, hl.trans h1 with
      | [c], _ =>
        have := hc 0 c rfl
        have e : A.add 0 = A := by simp [Addr.add]
        rw [e] at this
        simp [loadVar, h.run_agg, ha, this]
    · exact .inr ⟨rfl, h1⟩
theorem cell_of_block {w : World} {g : Nat} {cs : List Value} {t : TypeId} {fz : Nat × Nat} (h : w.heap[g]? = some (.cells cs.toArray t fz)) (off j : Nat) : w.cell? ((⟨g, off, none⟩ : Addr).add j) = cs[off + j]? := by
  rw [Addr.add_mid]
  simp [World.cell?, h]
def mkSV (agg : Bool) (l : List Seg) (k : SV → Prop) : Prop :=
  match agg with
  | true => k (.agg l)
  | false => match l with
    | [.one v] => k (.v v)
    | _ => False
theorem mkSV_spec {agg : Bool} {l : List Seg} {k : SV → Prop} (h : mkSV agg l k) (hok : SegsOk l) : ∃ x, k x ∧ x.Ok ∧ ∀ ad, x.den ad = if agg = true then .agg (flat l).toArray else (flat l).headD undef := by
  cases agg with
  | true => exact ⟨_, h, hok, fun _ => rfl⟩
  | false =>
    match l, h, hok with
    | [.one v], h, hok => exact ⟨_, h, hok.1, fun _ => rfl⟩

/-! ### Values in cells -/
def segsOf (x : SV) (k : List Seg → Prop) : Prop :=
  match x with
  | .agg l => k l
  | .v y => k [.one y]
  | .lit b => k [.one (.bool b)]
  | _ => False
theorem oneCell_cells {v : Value} (h : v.oneCell' = true) : v.cells = #[v] := by cases v <;> simp_all [Value.oneCell', Value.cells]
theorem segsOf_spec {x : SV} {k : List Seg → Prop} (h : segsOf x k) (hok : x.Ok) : ∃ l, k l ∧ SegsOk l ∧ ∀ ad, (x.den ad).cells.toList = flat l := by
  cases x with
  | agg l => exact ⟨l, h, hok, fun _ => rfl⟩
  | v y => exact ⟨_, h, ⟨hok, trivial⟩, fun _ => by simp only [SV.den]; rw [oneCell_cells hok]; rfl⟩
  | lit b => exact ⟨_, h, ⟨rfl, trivial⟩, fun _ => rfl⟩
  | _ => exact (h : False).elim
end Go.Sx
