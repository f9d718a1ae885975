/-
  The quiet operations of the symbolic machine (they read alone), and that they are sound.
-/
import Derived.Test.YteogjiadmgbmbaaDoorSxA
import Derived.Laws.Strings
set_option linter.unusedVariables false
set_option linter.unusedSimpArgs false
namespace Go.Sx
open Go Go.RowKit

/-- What a state says of the memory that is read. -/
structure SM (ad : Nat → Nat) (m : St) (w : World) : Prop where
  bx : ∀ b c, lk b m.boxes = some c → w.heap[ad b]? = some (.cells (flat c.1).toArray c.2 (0, 0))
  pl : ∀ g, m.pr g → w.heap[g]? = m.snap.heap[g]?
theorem WI.sm {w0 : Base} {ad : Nat → Nat} {s : St} {w : World} (h : WI w0 ad s w) : SM ad s w := ⟨h.bx, fun g hg => (h.pl g hg).2⟩

/-! ### Arithmetic -/
def band (k : IntKind) (x y : Int) : Int := k.wrap (BitVec.ofInt k.bits x &&& BitVec.ofInt k.bits y).toNat
def bor (k : IntKind) (x y : Int) : Int := k.wrap (BitVec.ofInt k.bits x ||| BitVec.ofInt k.bits y).toNat
def bxor (k : IntKind) (x y : Int) : Int := k.wrap (BitVec.ofInt k.bits x ^^^ BitVec.ofInt k.bits y).toNat
def bandn (k : IntKind) (x y : Int) : Int := k.wrap (BitVec.ofInt k.bits x &&& ~~~BitVec.ofInt k.bits y).toNat
def bshl (k : IntKind) (x y : Int) : Int := k.wrap (x * 2 ^ (min y.toNat k.bits))
def bshr (k : IntKind) (x y : Int) : Int := x.fdiv (2 ^ (min y.toNat k.bits))
def keq : IntKind → IntKind → Bool
  | .i8, .i8 => true | .i16, .i16 => true | .i32, .i32 => true | .i64, .i64 => true
  | .u8, .u8 => true | .u16, .u16 => true | .u32, .u32 => true | .u64, .u64 => true
  | _, _ => false
theorem keq_spec {a b : IntKind} (h : keq a b = true) : a = b := by cases a <;> cases b <;> first | rfl | cases h
def intBin (op : BinOp) (kd kd' : IntKind) (a b : Int) (k : SV → Prop) : Prop :=
  match op with
  | .shl => 0 ≤ b ∧ k (.v (.int kd (bshl kd a b)))
  | .shr => 0 ≤ b ∧ k (.v (.int kd (bshr kd a b)))
  | .add => match keq kd kd' with | true => k (.v (.int kd (kd.wrap (a + b)))) | false => False
  | .sub => match keq kd kd' with | true => k (.v (.int kd (kd.wrap (a - b)))) | false => False
  | .mul => match keq kd kd' with | true => k (.v (.int kd (kd.wrap (a * b)))) | false => False
  | .quo => match keq kd kd' with | true => b ≠ 0 ∧ k (.v (.int kd (kd.wrap (a.tdiv b)))) | false => False
  | .rem => match keq kd kd' with | true => b ≠ 0 ∧ k (.v (.int kd (a.tmod b))) | false => False
  | .and => match keq kd kd' with | true => k (.v (.int kd (band kd a b))) | false => False
  | .or => match keq kd kd' with | true => k (.v (.int kd (bor kd a b))) | false => False
  | .xor => match keq kd kd' with | true => k (.v (.int kd (bxor kd a b))) | false => False
  | .andNot => match keq kd kd' with | true => k (.v (.int kd (bandn kd a b))) | false => False
  | .eql => match keq kd kd' with | true => k (.v (.bool (decide (a = b)))) | false => False
  | .neq => match keq kd kd' with | true => k (.v (.bool (!decide (a = b)))) | false => False
  | .lss => match keq kd kd' with | true => k (.v (.bool (decide (a < b)))) | false => False
  | .leq => match keq kd kd' with | true => k (.v (.bool (decide (a ≤ b)))) | false => False
  | .gtr => match keq kd kd' with | true => k (.v (.bool (decide (b < a)))) | false => False
  | .geq => match keq kd kd' with | true => k (.v (.bool (decide (b ≤ a)))) | false => False
theorem intBin_spec {P : Program} {op : BinOp} {kd kd' : IntKind} {a b : Int} {k : SV → Prop} (t : TypeId) (h : intBin op kd kd' a b k) :
    ∃ x, k (.v x) ∧ x.oneCell' = true ∧ ∀ w, (binOp op t (.int kd a) (.int kd' b)).run P w = .ok x w := by
  cases op
  case shl =>
    refine ⟨_, h.2, rfl, fun w => ?_⟩
    have : ¬ b < 0 := by have := h.1; omega
    simp [binOp, Op.shift, this, bshl]
  case shr =>
    refine ⟨_, h.2, rfl, fun w => ?_⟩
    have : ¬ b < 0 := by have := h.1; omega
    simp [binOp, Op.shift, this, bshr]
  all_goals
    simp only [intBin] at h
    split at h
    case h_2 => exact h.elim
    case h_1 hk =>
      have e := keq_spec hk
      subst e
      first
      | (refine ⟨_, h, rfl, fun w => ?_⟩; simp [binOp, Op.intArith, Op.intBits, Op.intCmp, band, bor, bxor, bandn]; done)
      | (refine ⟨_, h, rfl, fun w => ?_⟩; simp [binOp, Op.intArith, Op.intBits, Op.intCmp, band, bor, bxor, bandn]; rfl)
      | (refine ⟨_, h.2, rfl, fun w => ?_⟩; simp [binOp, Op.intDiv, h.1]; done)

def asB (x : SV) (k : Bool → Prop) : Prop :=
  match x with
  | .lit b => k b
  | .v (.bool b) => k b
  | _ => False
theorem asB_spec {x : SV} {k : Bool → Prop} (h : asB x k) : ∃ b, k b ∧ ∀ ad, x.den ad = .bool b := by
  cases x with
  | lit b => exact ⟨b, h, fun _ => rfl⟩
  | v y => cases y with
    | bool b => exact ⟨b, h, fun _ => rfl⟩
    | _ => exact (h : False).elim
  | _ => exact (h : False).elim

theorem ba_toList_eq (x y : ByteArray) : (x.toList == y.toList) = decide (x = y) := by
  have h : x.toList = y.toList ↔ x = y := by
    constructor
    · intro h
      rw [ByteArray.toList_eq, ByteArray.toList_eq] at h
      cases x; cases y
      congr 1
      exact Array.toList_inj.1 h
    · rintro rfl; rfl
  rw [Bool.eq_iff_iff]
  simp [h]
/-- Two structs, or two arrays: whether they are the same is to be told by a law of their type. -/
structure EqVC (P : Program) (t : TypeId) (l l' : List Seg) (k : Bool → Prop) : Prop where
  prf : ∃ b : Bool, (∀ w x y, (do eqGuard .eql t x y (.agg (flat l).toArray) (.agg (flat l').toArray); Op.equal t (.agg (flat l).toArray) (.agg (flat l').toArray)).run P w = .ok b w) ∧ k b
def strBin (op : BinOp) (a b : ByteArray) (k : SV → Prop) : Prop :=
  match op with
  | .eql => k (.v (.bool (decide (a = b))))
  | .neq => k (.v (.bool (!decide (a = b))))
  | .add => a.size + b.size ≤ 9223372036854775807 ∧ k (.v (.string (a ++ b)))
  | _ => False
theorem strBin_spec {P : Program} {op : BinOp} {a b : ByteArray} {k : SV → Prop} (t : TypeId) (h : strBin op a b k) :
    ∃ x, k (.v x) ∧ x.oneCell' = true ∧ ∀ w, (binOp op t (.string a) (.string b)).run P w = .ok x w := by
  cases op <;> first | exact (h : False).elim | skip
  · refine ⟨_, h.2, rfl, fun w => ?_⟩
    have h1 := h.1
    have : ¬ ((a.size + b.size : Nat) : Int) > IntKind.i64.max := by simp [IntKind.max, IntKind.signed, IntKind.bits]; omega
    simp only [binOp, Op.stringOp, this]; rfl
  · exact ⟨_, h, rfl, fun w => by simp only [binOp, Op.stringOp, ba_toList_eq]; rfl⟩
  · exact ⟨_, h, rfl, fun w => by simp only [binOp, Op.stringOp, ba_toList_eq]; rfl⟩

/-! ### The operations that read alone -/
def cutA (A : Option Addr) (c l sz : Nat) : Option Addr := if c = l then A else A.map (·.add (l * sz))
def appK : List Seg → List Seg → (List Seg → Prop) → Prop
  | [], q, k => k q
  | s :: r, q, k => appK r q fun l => k (s :: l)
theorem appK_spec {p q : List Seg} {k : List Seg → Prop} (h : appK p q k) : k (p ++ q) := by
  induction p generalizing k with
  | nil => exact h
  | cons s r ih => exact ih h
def nthK {α : Type} : List α → Nat → (α → Prop) → Prop
  | [], _, _ => False
  | x :: _, 0, k => k x
  | _ :: r, n + 1, k => nthK r n k
theorem nthK_spec {α : Type} {l : List α} {n : Nat} {k : α → Prop} (h : nthK l n k) : ∃ x, l[n]? = some x ∧ k x := by
  induction l generalizing n with
  | nil => exact h.elim
  | cons y r ih =>
    cases n with
    | zero => exact ⟨y, rfl, h⟩
    | succ n => obtain ⟨x, h1, h2⟩ := ih h; exact ⟨x, by simpa using h1, h2⟩
/-- An element that is a slice's: what is loaded there is told by whoever knows the slice. -/
structure XLoadVC (P : Program) (m : St) (t : TypeId) (A : Option Addr) (n : Nat) (k : SV → Prop) : Prop where
  prf : ∃ x, k x ∧ x.Ok ∧ ∃ a, A = some a ∧ ∀ ad w, (∀ g, m.pr g → w.heap[g]? = m.snap.heap[g]?) → (loadVar t (a.add n)).run P w = .ok (x.den ad) w
def bAt (s : ByteArray) (i : Int) : Int := ((s.data.toList.getD i.toNat 0).toNat : Int)
def evs (s : St) : List Operand → (List SV → Prop) → Prop
  | [], k => k []
  | x :: r, k => ev s x fun x => evs s r fun l => k (x :: l)
/-- The parts of a struct or an array, laid over its cells one by one: (where, how many, what). -/
def fillK (s : St) (place : Nat → (Nat × Nat → Prop) → Prop) : List Seg → List (Nat × Operand) → (List Seg → Prop) → Prop
  | l, [], k => k l
  | l, (j, x) :: r, k => place j fun f => ev s x fun x => segsOf x fun ns => match Nat.beq (segsLen ns) f.2 with
    | true => match l, ns with
      | [.ints kd m xs], [.one (.int kd' z)] => match keq kd kd', Nat.blt f.1 m with
        | true, true => fillK s place [.ints kd m (xs.set f.1 z)] r k
        | _, _ => False
      | l, ns => cutAt l f.1 fun p q => cutAt q f.2 fun _ q => appK ns q fun l => appK p l fun l => fillK s place l r k
    | false => False
def boolBin (op : BinOp) (a b : Bool) (k : SV → Prop) : Prop :=
  match op with
  | .eql => k (.v (.bool (decide (a = b))))
  | .neq => k (.v (.bool (!decide (a = b))))
  | _ => False
def nilBin (op : BinOp) (z : Bool) (k : SV → Prop) : Prop :=
  match op with
  | .eql => k (.v (.bool z))
  | .neq => k (.v (.bool (!z)))
  | _ => False
def qbin (P : Program) (T : Tab) (op : BinOp) (t : TypeId) (x y : SV) (k : SV → Prop) : Prop :=
  match x, y with
  | .v (.int kd a), .v (.int kd' b) => intBin op kd kd' a b k
  | .v (.string a), .v (.string b) => strBin op a b k
  | .agg l, .agg l' => match op with
    | .eql => EqVC P t l l' fun b => k (.v (.bool b))
    | .neq => EqVC P t l l' fun b => k (.v (.bool (!b)))
    | _ => False
  | .v (.slice A _ _), .v (.slice none _ _) => look t T fun ti => match ti.d with
    | .slice _ _ => nilBin op A.isNone k
    | _ => False
  | x, y => look t T fun ti => match ti.d with
    | .bool => asB x fun a => asB y fun b => boolBin op a b k
    | _ => False
def qun (op : UnOp) (x : SV) (k : SV → Prop) : Prop :=
  match op, x with
  | .not, .lit true => k (.lit false)
  | .not, .lit false => k (.lit true)
  | .not, .v (.bool b) => k (.v (.bool (!b)))
  | .neg, .v (.int kd a) => k (.v (.int kd (kd.wrap (0 - a))))
  | _, _ => False
def qconv (T : Tab) (src dst : TypeId) (x : SV) (k : SV → Prop) : Prop :=
  look src T fun ts => look dst T fun td => match ts.d, td.d, x with
    | .int _, .int kd, .v (.int _ a) => k (.v (.int kd (kd.wrap a)))
    | .str, .str, .v (.string s) => k (.v (.string s))
    | _, _, _ => False
def optK (s : St) (o : Option Operand) (d : Int) (k : Int → Prop) : Prop :=
  match o with
  | none => k d
  | some x => ev s x fun x => match x with
    | .v (.int _ i) => k i
    | _ => False
def qslice (T : Tab) (s : St) (t : TypeId) (x : SV) (lo hi : Option Operand) (k : SV → Prop) : Prop :=
  look t T fun ti => match ti.d, x with
    | .slice e esz, .v (.slice A n c) => optK s lo 0 fun l => optK s hi n fun h => (0 ≤ l ∧ l ≤ h ∧ (hi.isSome = true → h ≤ c)) ∧ k (.v (.slice (cutA A c l.toNat esz) (h.toNat - l.toNat) (c - l.toNat)))
    | .str, .v (.string z) => optK s lo 0 fun l => optK s hi z.size fun h => (0 ≤ l ∧ l ≤ h ∧ h ≤ z.size) ∧ k (.v (.string (z.extract l.toNat h.toNat)))
    | _, _ => False
def qlen (T : Tab) (t : TypeId) (x : SV) (k : SV → Prop) : Prop :=
  look t T fun ti => match ti.d, x with
    | .slice _ _, .v (.slice _ n _) => k (.v (.int .i64 n))
    | .str, .v (.string s) => k (.v (.int .i64 s.size))
    | .array n _ _, _ => k (.v (.int .i64 n))
    | _, _ => False
def qcap (T : Tab) (t : TypeId) (x : SV) (k : SV → Prop) : Prop :=
  look t T fun ti => match ti.d, x with
    | .slice _ _, .v (.slice _ _ c) => k (.v (.int .i64 c))
    | _, _ => False
def qmm (mx : Bool) (x y : SV) (k : SV → Prop) : Prop :=
  match x, y with
  | .v (.int kd a), .v (.int _ b) => match mx with
    | true => k (.v (.int kd (if b > a then b else a)))
    | false => k (.v (.int kd (if b < a then b else a)))
  | _, _ => False
def qload (P : Program) (T : Tab) (m : St) (t : TypeId) (p : SV) (k : SV → Prop) : Prop :=
  match p with
  | .ptr b off => look t T fun ti => look b m.boxes fun c => cutAt c.1 off fun _ q => cutAt q ti.size fun l _ => mkSV ti.agg l k
  | .eptr b off n i => look t T fun ti => match ti.agg, Nat.beq ti.size 1 with
    | false, true => look b m.boxes fun c => cutAt c.1 off fun _ q => match q with
      | .ints kd n' xs :: _ => match Nat.beq n n' with
        | true => k (.v (.int kd (xs.getD i.toNat 0)))
        | false => False
      | _ => False
    | _, _ => False
  | .xptr A n => XLoadVC P m t A n k
  | _ => False
def qfield (T : Tab) (t : TypeId) (p : SV) (j : Nat) (k : SV → Prop) : Prop :=
  look t T fun ti => match ti.d with
    | .struct fl => nthK fl j fun f => match p with
      | .ptr b off => k (.ptr b (off + f.1))
      | .xptr A n => k (.xptr A (n + f.1))
      | _ => False
    | _ => False
def qindexAddr (T : Tab) (t : TypeId) (p i : SV) (k : SV → Prop) : Prop :=
  look t T fun ti => match ti.d, p, i with
    | .slice _ esz, .v (.slice A n _), .v (.int _ i) => (0 ≤ i ∧ i < (n : Int) ∧ A ≠ none) ∧ k (.xptr A (i.toNat * esz))
    | .array len _ esz, .ptr b off, .v (.int _ i) => (0 ≤ i ∧ i < (len : Int)) ∧ (match Nat.beq esz 1 with
      | true => k (.eptr b off len i)
      | false => k (.ptr b (off + i.toNat * esz)))
    | _, _, _ => False
def qindex (T : Tab) (t : TypeId) (p i : SV) (k : SV → Prop) : Prop :=
  look t T fun ti => match ti.d, p, i with
    | .array len e esz, .agg [.ints kd n xs], .v (.int _ i) => look e T fun te => match te.agg, Nat.beq esz 1, Nat.beq n len with
      | false, true, true => (0 ≤ i ∧ i < (len : Int)) ∧ k (.v (.int kd (xs.getD i.toNat 0)))
      | _, _, _ => False
    | .str, .v (.string s), .v (.int _ i) => (0 ≤ i ∧ i < (s.size : Int)) ∧ k (.v (.int .u8 (bAt s i)))
    | _, _, _ => False
def placeK (d : TD) (j : Nat) (k : Nat × Nat → Prop) : Prop :=
  match d with
  | .struct fl => nthK fl j k
  | .array _ _ esz => k (j * esz, esz)
  | _ => False
def isRowD : TD → Bool
  | .struct _ => true
  | .array _ _ _ => true
  | _ => false
def qcall (T : Tab) (s : St) (c : Call) (k : SV → Prop) : Prop :=
  match c.callee with
  | .builtin .len => match c.args.toList, c.argTypes.toList with
    | [x], [t] => ev s x fun x => qlen T t x k
    | _, _ => False
  | .builtin .cap => match c.args.toList, c.argTypes.toList with
    | [x], [t] => ev s x fun x => qcap T t x k
    | _, _ => False
  | .builtin .max => match c.args.toList with
    | [x, y] => ev s x fun x => ev s y fun y => qmm true x y k
    | _ => False
  | .builtin .min => match c.args.toList with
    | [x, y] => ev s x fun x => ev s y fun y => qmm false x y k
    | _ => False
  | _ => False
def qop (P : Program) (T : Tab) (m s : St) (o : Op) (k : SV → Prop) : Prop :=
  match o with
  | .move x => ev s x k
  | .assign x => ev s x k
  | .pick c a b => ev s c fun c => match c with
    | .lit true => ev s a k
    | .lit false => ev s b k
    | .v (.bool c) => ev s a fun x => ev s b fun y => asB x fun x => asB y fun y => k (.v (.bool (if c = true then x else y)))
    | _ => False
  | .load t p => ev s p fun p => qload P T m t p k
  | .fieldAddr t x j => ev s x fun p => qfield T t p j k
  | .indexAddr t x i => ev s x fun p => ev s i fun i => qindexAddr T t p i k
  | .index t x i => ev s x fun p => ev s i fun i => qindex T t p i k
  | .extract x i => ev s x fun p => match p with
    | .tup l => nthK l i k
    | _ => False
  | .binOp op t x y _ => ev s x fun x => ev s y fun y => qbin P T op t x y k
  | .unOp op _ x => ev s x fun x => qun op x k
  | .convert src dst x => ev s x fun x => qconv T src dst x k
  | .slice t x lo hi mx => match mx with
    | none => ev s x fun x => qslice T s t x lo hi k
    | some _ => False
  | .build t parts => look t T fun ti => match ti.agg, isRowD ti.d with
    | true, true => fillK s (placeK ti.d) ti.zero parts.toList fun l => k (.agg l)
    | _, _ => False
  | .makeFunc fn first caps => match fn, first.toList with
    | .func f, [] => evs s caps.toList fun l => k (.clo f l)
    | _, _ => False
  | .nilCheck x => ev s x fun p => match p with
    | .ptr b off => k (.ptr b off)
    | .eptr b off n i => k (.eptr b off n i)
    | .xptr A n => k (.xptr A n)
    | .clo f l => k (.clo f l)
    | _ => False
  | .call c => qcall T s c k
  | _ => False
end Go.Sx
