/-
  One step of the symbolic machine; a region in the order of its text; the code.
-/
import Derived.Test.YteogjiadmgbmbaaDoorSxE
set_option linter.unusedVariables false
set_option linter.unusedSimpArgs false
namespace Go.Sx
open Go Go.RowKit
variable {P : Program} {T : Tab}

def convQ (T : Tab) (src dst : TypeId) : Bool :=
  match lk src T, lk dst T with
  | some a, some b => match a.d, b.d with
    | .int _, .int _ => true
    | .str, .str => true
    | _, _ => false
  | _, _ => false
/-- Is it one that reads alone? -/
def qk (T : Tab) : Op → Bool
  | .move _ => true
  | .assign _ => true
  | .pick _ _ _ => true
  | .load _ _ => true
  | .fieldAddr _ _ _ => true
  | .indexAddr _ _ _ => true
  | .index _ _ _ => true
  | .extract _ _ => true
  | .binOp _ _ _ (.const .nilIface) _ => false
  | .binOp _ _ _ _ _ => true
  | .unOp _ _ _ => true
  | .slice _ _ _ _ _ => true
  | .build _ _ => true
  | .makeFunc _ _ _ => true
  | .nilCheck _ => true
  | .convert src dst _ => convQ T src dst
  | .call c => match c.callee with
    | .builtin .len => true
    | .builtin .cap => true
    | .builtin .max => true
    | .builtin .min => true
    | _ => false
  | _ => false
/-- A call of a function: to be shown by a rule. kp: it leaves what is protected alone. -/
structure CallVC (P : Program) (n : Nat) (w0 : Base) (kp : Bool) (dst : Option Nat) (g : FuncId) (args : List SV) (s : St) (K : St → Prop) (Q : Exit → St → Prop) : Prop where
  prf : ∀ ad a w, Inv n w0 ad s a w → (∀ i, dst = some i → i < n) → ∀ (o : Oper) (next : Act → World → Prop) (Q' : Exit → Act → World → Prop), o.dst = dst →
    (∀ s' a' w', Inv n w0 ad s' a' w' → Fr s ad dst a w s' ad a' w' → (kp = true → Kp s ad w s' ad w') → K s' → next a' w') →
    (∀ c s' w', WI w0 ad s' w' → s'.dfs = s.dfs → Q (.panic c) s' → Q' (.panic c) a w') → o.upon P a next Q' ((callFunc g (SV.dens ad args).toArray).run P w)
/-- A call of a built-in function that makes or writes memory. -/
structure BltVC (P : Program) (n : Nat) (w0 : Base) (kp : Bool) (dst : Option Nat) (b : Builtin) (ts : Array TypeId) (ty : TypeId) (args : List SV) (s : St) (K : St → Prop) (Q : Exit → St → Prop) : Prop where
  prf : ∀ ad a w, Inv n w0 ad s a w → (∀ i, dst = some i → i < n) → ∀ (o : Oper) (next : Act → World → Prop) (Q' : Exit → Act → World → Prop) (cs : Array Bool), o.dst = dst →
    (∀ s' a' w', Inv n w0 ad s' a' w' → Fr s ad dst a w s' ad a' w' → (kp = true → Kp s ad w s' ad w') → K s' → next a' w') →
    (∀ c s' w', WI w0 ad s' w' → s'.dfs = s.dfs → Q (.panic c) s' → Q' (.panic c) a w') → o.upon P a next Q' ((builtin b ts ty cs (SV.dens ad args).toArray).run P w)
def repK (z : List Seg) : Nat → (List Seg → Prop) → Prop
  | 0, k => k []
  | n + 1, k => repK z n fun l => appK z l k
def appV : List SV → List SV → (List SV → Prop) → Prop
  | [], q, k => k q
  | s :: r, q, k => appV r q fun l => k (s :: l)
theorem appV_spec {p q : List SV} {k : List SV → Prop} (h : appV p q k) : k (p ++ q) := by
  induction p generalizing k with
  | nil => exact h
  | cons s r ih => exact ih h
/-- A new slice of known elements: its cells lie in a block g of its own. -/
def rowVC (s : St) (d : Option Nat) (e : TypeId) (len : Nat) (l : List Seg) (K : St → Prop) : Prop :=
  match s, d with
  | ⟨ts, bs, ds, pr, sw⟩, some d => ∀ (w' : World) (g : Nat) (pr' : Nat → Prop), w'.heap[g]? = some (.cells (flat l).toArray e (0, 0)) → sw.heap.size ≤ g → (∀ q, pr q → w'.heap[q]? = sw.heap[q]?) → sw.heap.size ≤ w'.heap.size → (∀ q, pr q → pr' q) → pr' g → (∀ q, pr' q → pr q ∨ q = g) →
      K ⟨(d, .v (.slice (some ⟨g, 0, none⟩) len len)) :: ts, bs, ds, pr', w'⟩
  | _, none => False
def stepVC (P : Program) (n : Nat) (w0 : Base) (T : Tab) (kp : Bool) (m : St) (o : Oper) (s : St) (K : St → Prop) (Q : Exit → St → Prop) : Prop :=
  match qk T o.op with
  | true => qop P T m s o.op fun x => putK s o.dst x K
  | false => match o.op with
    | .alloc t => look t T fun ti => newBox s o.dst ti.zero t K
    | .box t x => ev s x fun x => segsOf x fun l => newBox s o.dst l t K
    | .store t p x => match o.dst with
      | none => match kp with
        | false => ev s p fun p => ev s x fun x => storeVC T t p x s K
        | true => False
      | some _ => False
    | .buildSlice t len parts => look t T fun ti => match ti.d with
      | .slice e esz => look e T fun te => match Nat.ble (len * esz) 1000, Nat.beq te.size esz with
        | true, true => repK te.zero len fun l => fillK s (fun j k => k (j * esz, esz)) l parts.toList fun l => rowVC s o.dst e len l K
        | _, _ => False
      | _ => False
    | .call c => match c.callee with
      | .value f => ev s f fun y => evs s c.args.toList fun l => match y with
        | .clo g caps => appV l caps fun l => CallVC P n w0 kp o.dst g l s K Q
        | _ => False
      | .builtin b => evs s c.args.toList fun l => BltVC P n w0 kp o.dst b c.argTypes o.type l s K Q
      | .invoke _ _ => RawVC P n w0 kp o s K Q
    | _ => RawVC P n w0 kp o s K Q
/-- What 'next' is to be shown of. -/
def Next (n : Nat) (w0 : Base) (kp : Bool) (s : St) (ad : Nat → Nat) (dst : Option Nat) (a : Act) (w : World) (K : St → Prop) (next : Act → World → Prop) : Prop :=
  ∀ s' ad' a' w', Inv n w0 ad' s' a' w' → Fr s ad dst a w s' ad' a' w' → (kp = true → Kp s ad w s' ad' w') → K s' → next a' w'
def NextP (w0 : Base) (s : St) (ad : Nat → Nat) (a : Act) (Q : Exit → St → Prop) (Q' : Exit → Act → World → Prop) : Prop :=
  ∀ c s' w', WI w0 ad s' w' → s'.dfs = s.dfs → Q (.panic c) s' → Q' (.panic c) a w'

theorem repK_spec {z : List Seg} (hz : SegsOk z) {n : Nat} : ∀ {k : List Seg → Prop}, repK z n k → ∃ l, k l ∧ SegsOk l ∧ flat l = (List.replicate n (flat z)).flatten := by
  induction n with
  | zero => intro k h; exact ⟨[], h, trivial, rfl⟩
  | succ n ih =>
    intro k h
    obtain ⟨l, h, hl, hf⟩ := ih h
    exact ⟨z ++ l, appK_spec h, segsOk_append.2 ⟨hz, hl⟩, by rw [flat_append, hf, List.replicate_succ, List.flatten_cons]⟩
theorem zeros_rep (z : List Value) : ∀ (n : Nat), ((Array.range (n * z.length)).map (z.toArray[· % z.toArray.size]!)).toList = (List.replicate n z).flatten := by
  intro n
  induction n with
  | zero => simp
  | succ n ih =>
    apply List.ext_getElem?
    intro i
    have ih' := congrArg (·[i]?) ih
    simp only [Array.toList_map, Array.toList_range, List.getElem?_map] at ih' ⊢
    rw [List.replicate_succ', List.flatten_append]
    have hl : ((List.replicate n z).flatten).length = n * z.length := by simp
    by_cases h : i < n * z.length
    · rw [List.getElem?_append_left (by omega), ← ih', List.getElem?_range h, List.getElem?_range (by rw [Nat.succ_mul]; omega)]
    · rw [List.getElem?_append_right (by omega), hl]
      by_cases h2 : i < (n + 1) * z.length
      · have h3 : i - n * z.length < z.length := by rw [Nat.succ_mul] at h2; omega
        have h4 : i % z.length = i - n * z.length := by
          have : i = (i - n * z.length) + n * z.length := by omega
          rw [this, Nat.add_mul_mod_self_right, Nat.mod_eq_of_lt (by omega)]
          omega
        rw [List.getElem?_range h2]
        simp [h4, h3]
      · rw [List.getElem?_eq_none (by simpa using h2)]
        rw [List.getElem?_eq_none (by rw [Nat.succ_mul] at h2; simp; omega)]
        rfl
theorem rowVC_sound {e t : TypeId} {te : TI} (hte : TOk P e te) (hu : P.underlying t = some (.slice e)) {esz len : Nat} (hsz : te.size = esz) (hb : len * esz ≤ 1000) {n : Nat} {w0 : Base} {ad : Nat → Nat} {s : St} {a : Act} {w : World} (hI : Inv n w0 ad s a w)
    {o : Oper} (hd : ∀ d, o.dst = some d → d < n) {parts : Array (Nat × Operand)} (ho : o.op = .buildSlice t len parts) {l0 l : List Seg} (hf0 : flat l0 = (List.replicate len (flat te.zero)).flatten)
    (hfill : Instr.fill (fun i => some (i * esz, esz)) (flat l0).toArray (parts.toList.map fun p => (p.1, a.eval p.2)) = some (flat l).toArray) (hl : SegsOk l) {K : St → Prop} (h : rowVC s o.dst e len l K) {next : Act → World → Prop} {Q' : Exit → Act → World → Prop} 
    (hn : ∀ s' ad' a' w', Inv n w0 ad' s' a' w' → Fr s ad o.dst a w s' ad' a' w' → Kp s ad w s' ad' w' → K s' → next a' w') : o.wp P a w next Q' := by
  obtain ⟨ts, bs, ds, pr, sw⟩ := s
  obtain ⟨z, hzr, hzl, _⟩ := hte.run_zero w
  have hzlen : (flat te.zero).length = esz := by rw [flat_length hte.zok, hte.zlen, hsz]
  cases hdst : o.dst with
  | none => rw [hdst] at h; exact (h : False).elim
  | some d =>
    rw [hdst] at h
    have hrun : (Instr.buildSlice t len (parts.map fun (i, x) => (i, a.eval x))).run P w = .ok (.slice (some ⟨w.heap.size, 0, none⟩) len len) (w.alloc (.cells (flat l).toArray e)) := by
      have hf1 : Instr.fill (fun i => some (i * esz, esz)) ((Array.range (len * esz)).map ((flat te.zero).toArray[· % (flat te.zero).toArray.size]!)) (parts.map fun (i, x) => (i, a.eval x)).toList = some (flat l).toArray := by
        rw [← hfill]
        congr 1
        · apply Array.ext'
          have := zeros_rep (flat te.zero) len
          rw [hzlen] at this
          rw [this, hf0]
        · simp
      have hzc : z.cells = (flat te.zero).toArray := by rw [← hzl]
      have hbig : ¬ (len * esz > 2 ^ 24) := by have : (2 : Nat) ^ 24 = 16777216 := rfl; omega
      have e0 : ∀ f : Nat → Value, (Array.range 0).map f = #[] := fun f => by simp
      unfold Instr.buildSlice
      by_cases h0 : len * esz = 0
      · rw [h0, e0] at hf1
        simp only [Sem.run_bind, run_underlying hu, Result.andThen_ok, hte.run_size, hsz, if_neg hbig, if_pos h0, Sem.run_pure, h0, e0, hf1, newRow, run_newObj]
        rfl
      · simp only [Sem.run_bind, run_underlying hu, Result.andThen_ok, hte.run_size, hsz, if_neg hbig, if_neg h0, Sem.run_pure, hzr, hzc, hf1, newRow, run_newObj]
        rfl
    have hnew : (w.alloc (.cells (flat l).toArray e)).heap[w.heap.size]? = some (.cells (flat l).toArray e (0, 0)) := by show (w.heap.push _)[w.heap.size]? = _; simp
    have hold : ∀ q, q < w.heap.size → (w.alloc (.cells (flat l).toArray e)).heap[q]? = w.heap[q]? := fun q hq => by
      simp only [World.alloc, Array.getElem?_push]; rw [if_neg (by omega)]
    have hsn : sw.heap.size ≤ w.heap.size := hI.wi.sn
    have hpl : ∀ q, pr q → q < sw.heap.size ∧ w.heap[q]? = sw.heap[q]? := hI.wi.pl
    have hk := h (w.alloc (.cells (flat l).toArray e)) w.heap.size (fun q => pr q ∨ q = w.heap.size) hnew hsn (fun q hq => by have := hpl q hq; rw [hold q (by omega)]; exact this.2) (by rw [World.size_alloc]; omega) (fun q hq => .inl hq) (.inr rfl) (fun q hq => hq)
    unfold Oper.wp execOp
    simp only [ho, Sem.run_bind, hrun, Result.andThen_ok, Sem.run_pure]
    rw [Oper.upon_value, hdst]
    have hlt : ∀ b c, lk b bs = some c → ad b < w.heap.size := fun b c hb => (Array.getElem?_eq_some_iff.1 (hI.wi.bx b c hb)).1
    refine hn ⟨_, bs, ds, fun q => pr q ∨ q = w.heap.size, _⟩ ad _ _ ?_ ?_ ⟨fun b c hb => ⟨hb, rfl⟩, fun q (hq : pr q) => ⟨Or.inl hq, hold q (by have := hpl q hq; omega)⟩⟩ hk
    · have hI' : Inv n w0 ad ⟨ts, bs, ds, fun q => pr q ∨ q = w.heap.size, w.alloc (.cells (flat l).toArray e)⟩ a (w.alloc (.cells (flat l).toArray e)) := by
        refine ⟨hI.tn, hI.tm, hI.df, ⟨hI.wi.bel.alloc hI.wi.bel.size _, ?_, hI.wi.ok, hI.wi.lo, hI.wi.inj, ?_, Nat.le_refl _, ?_⟩⟩
        · intro b c hb; rw [hold _ (hlt b c hb)]; exact hI.wi.bx b c hb
        · intro b c hb hp
          rcases hp with hp | hp
          · exact hI.wi.np b c hb hp
          · have := hlt b c hb; omega
        · intro q hq
          rcases hq with hq | hq
          · have := hpl q hq; exact ⟨by rw [World.size_alloc]; omega, rfl⟩
          · subst hq; exact ⟨by rw [World.size_alloc]; omega, rfl⟩
      exact hI'.put (some d) (.v (.slice (some ⟨w.heap.size, 0, none⟩) len len)) (by rw [← hdst]; exact hd) rfl
    · refine ⟨by rw [World.size_alloc]; omega, fun q hq _ _ => hold q hq, fun t ht => actput_ne a _ _ t (by rw [← hdst]; exact ht), fun q hq => ?_, fun b c hb => .inl ⟨c, hb, rfl⟩, fun t ht hs => put_fresh ⟨ts, bs, ds, pr, sw⟩ (d := some d) (.v (.slice (some ⟨w.heap.size, 0, none⟩) len len)) (by rw [← hdst]; exact ht) hs⟩
      rcases hq with hq | hq
      · exact .inl hq
      · exact .inr (by omega)
theorem stepVC_sound (hT : TabOK P T) {n : Nat} {w0 : Base} {kp : Bool} {ad : Nat → Nat} {m s : St} {a : Act} {w : World} (hI : Inv n w0 ad s a w) (hm : ∀ b c, lk b m.boxes = some c → SegsOk c.1) (hsm : SM ad m w)
    {o : Oper} (hd : ∀ d, o.dst = some d → d < n) {K : St → Prop} {Q : Exit → St → Prop} (h : stepVC P n w0 T kp m o s K Q) {next : Act → World → Prop} {Q' : Exit → Act → World → Prop}
    (hn : Next n w0 kp s ad o.dst a w K next) (hp : NextP w0 s ad a Q Q') : o.wp P a w next Q' := by
  unfold stepVC at h
  split at h
  case h_1 hq =>
    obtain ⟨x, hk, hx, hr⟩ := qop_sound hT hI hm h
    rw [putK_eq] at hk
    unfold Oper.wp
    rw [hr w hsm, Oper.upon_value]
    exact hn _ ad _ _ (hI.put o.dst x hd hx) (Fr.put s ad o.dst a w x _) (fun _ => Kp.put s ad o.dst w x) hk
  case h_2 hq =>
    split at h
    case h_1 t ho =>
      obtain ⟨ti, ht, h⟩ := look_spec h
      obtain ⟨z, hz, hzl, _⟩ := (hT t ti ht).run_zero w
      obtain ⟨s', ad', hk, i1, i2, i3⟩ := newBox_sound hI hd (hT t ti ht).zok h
      unfold Oper.wp execOp
      have : z.cells = (flat ti.zero).toArray := by rw [← hzl]
      simp only [ho, Instr.alloc, Sem.run_bind, hz, Result.andThen_ok, newVar, newRow, run_newObj, Sem.run_pure, this]
      rw [Oper.upon_value]
      exact hn s' ad' _ _ i1 i2 (fun _ => i3) hk
    case h_2 t x ho =>
      obtain ⟨y, h, hy, hyo⟩ := ev_spec hI h
      obtain ⟨l, h, hl, hc⟩ := segsOf_spec h hyo
      obtain ⟨s', ad', hk, i1, i2, i3⟩ := newBox_sound hI hd hl h
      unfold Oper.wp execOp
      have : (a.eval x).cells = (flat l).toArray := by rw [hy, ← hc ad]
      simp only [ho, Instr.box, Sem.run_bind, Result.andThen_ok, newVar, newRow, run_newObj, Sem.run_pure, this]
      rw [Oper.upon_value]
      exact hn s' ad' _ _ i1 i2 (fun _ => i3) hk
    case h_3 t p x ho =>
      split at h
      case h_2 => exact h.elim
      case h_1 hdst =>
       split at h
       case h_2 => exact h.elim
       case h_1 =>
        obtain ⟨y, h, hy, hyo⟩ := ev_spec hI h
        obtain ⟨z, h, hz, hzo⟩ := ev_spec hI h
        obtain ⟨s', w', hk, hr, i1, i2⟩ := storeVC_sound hT hI hyo hzo h
        unfold Oper.wp execOp
        simp only [ho, hy, hz, Sem.run_bind, hr, Result.andThen_ok, Sem.run_pure]
        rw [Oper.upon_skip, hdst]
        exact hn s' ad _ _ i1 (by rw [hdst]; exact i2) (fun h => by cases h) hk
    case h_4 t len parts ho =>
      obtain ⟨ti, ht, h⟩ := look_spec h
      have hdd := (hT t ti ht).desc
      split at h
      case h_2 => exact h.elim
      case h_1 e esz hfl =>
        rw [hfl] at hdd
        obtain ⟨te, hte, h⟩ := look_spec h
        have hz := (hT e te hte).zok
        split at h
        case h_2 => exact h.elim
        case h_1 hb hsz =>
          have hsz := Nat.eq_of_beq_eq_true hsz
          have hb := Nat.le_of_ble_eq_true hb
          obtain ⟨l0, h, hl0, hf0⟩ := repK_spec hz h
          obtain ⟨l, h, hl, hfill⟩ := fillK_spec hI (pl := fun i => some (i * esz, esz)) (fun j k hk => ⟨_, rfl, hk⟩) parts.toList l0 _ hl0 h
          exact rowVC_sound (hT e te hte) hdd.1 hsz hb hI hd ho hf0 hfill hl h (fun s' ad' a' w' i1 i2 i3 hk => hn s' ad' a' w' i1 i2 (fun _ => i3) hk)
    case h_5 c ho =>
      obtain ⟨cl, args, tys⟩ := c
      obtain ⟨args⟩ := args
      split at h
      case h_1 f hc =>
        simp only at hc
        subst hc
        obtain ⟨y, h, hy, _⟩ := ev_spec hI h
        obtain ⟨l, h, hl, _⟩ := evs_spec hI h
        split at h
        case h_2 => exact h.elim
        case h_1 g caps _ _ =>
          have h := appV_spec h
          have := h.prf ad a w hI hd o next Q' rfl (fun s' a' w' i1 i2 i3 hk => hn s' ad a' w' i1 i2 i3 hk) hp
          unfold Oper.wp execOp
          simp only [ho, resolve, hy, SV.den, Deferred.ofValue, Sem.run_bind, Sem.run_pure, Result.andThen_ok, invoke]
          have e : (((#[] : Array Value) ++ Array.map a.eval ⟨args⟩) ++ (SV.dens ad caps).toArray) = (SV.dens ad (l ++ caps)).toArray := by
            rw [SV.dens_map, SV.dens_map, List.map_append, ← SV.dens_map ad l, ← hl]
            simp
          rw [e]
          exact this
      case h_2 b hc =>
        simp only at hc
        subst hc
        obtain ⟨l, h, hl, _⟩ := evs_spec hI h
        have := h.prf ad a w hI hd o next Q' (Array.map (fun | .const _ => true | _ => false) ⟨args⟩) rfl (fun s' a' w' i1 i2 i3 hk => hn s' ad a' w' i1 i2 i3 hk) hp
        unfold Oper.wp execOp
        simp only [ho, resolve, Sem.run_bind, Sem.run_pure, Result.andThen_ok, invoke]
        have e : Array.map a.eval ⟨args⟩ = (SV.dens ad l).toArray := by rw [← hl]; simp
        rw [e]
        exact this
      case h_3 => exact h.prf ad a w hI next Q' (fun s' a' w' i1 i2 i3 hk => hn s' ad a' w' i1 i2 i3 hk) hp
    case h_6 => exact h.prf ad a w hI next Q' (fun s' a' w' i1 i2 i3 hk => hn s' ad a' w' i1 i2 i3 hk) hp

/-! ### Guards -/
def beqB : Bool → Bool → Bool
  | true, true => true
  | false, false => true
  | _, _ => false
theorem beqB_spec {a b : Bool} : beqB a b = true ↔ a = b := by cases a <;> cases b <;> simp [beqB]
/-- Operation o of the region L: whether it is wanted hangs on what another one yielded. -/
def guardVC (L : List Oper) (o : Oper) (s : St) (skip go : St → Prop) : Prop :=
  match o.guard with
  | none => go s
  | some (g, b) => nthK L g fun og => match og.dst with
    | none => False
    | some d => look d s.tmps fun x => match x with
      | .lit c => match beqB c b with
        | true => go s
        | false => putK s o.dst (.tup []) skip
      | .v (.bool c) =>
        (c = true → putK s (some d) (.lit true) fun s => match beqB true b with
          | true => go s
          | false => putK s o.dst (.tup []) skip) ∧
        (c = false → putK s (some d) (.lit false) fun s => match beqB false b with
          | true => go s
          | false => putK s o.dst (.tup []) skip)
      | .tup _ => putK s o.dst (.tup []) skip
      | _ => False
theorem getD_some {t : Array Value} {d : Nat} {c : Bool} (h : t.getD d undef = .bool c) : t[d]? = some (.bool c) := by
  rcases Nat.lt_or_ge d t.size with hl | hl
  · rw [Array.getD_eq_getD_getElem?, Array.getElem?_eq_getElem hl] at h
    rw [Array.getElem?_eq_getElem hl, ← h]; rfl
  · rw [Array.getD_eq_getD_getElem?, Array.getElem?_eq_none hl] at h; cases h
theorem Inv.same {n : Nat} {w0 : Base} {ad : Nat → Nat} {s : St} {a : Act} {w : World} (hI : Inv n w0 ad s a w) {d : Nat} {x : SV} (hx : x.Ok) (hv : a.tmps.getD d undef = x.den ad) : Inv n w0 ad (s.put (some d) x) a w :=
  ⟨hI.tn, fun i y hy => by
    simp only [St.put, lk_cons] at hy
    by_cases e : d = i
    · subst e; rw [if_pos rfl] at hy; cases hy; exact ⟨hv, hx⟩
    · rw [if_neg e] at hy; exact hI.tm i y hy, hI.df, hI.wi.put _ _⟩
/-- Either it is wanted, in a state that says the same of the memory, or it is not. -/
theorem guardVC_sound {n : Nat} {w0 : Base} {ad : Nat → Nat} {s : St} {a : Act} {w : World} (hI : Inv n w0 ad s a w) {ops : Array Oper} {o : Oper} {skip go : St → Prop} (h : guardVC ops.toList o s skip go) :
    ∃ s1, Inv n w0 ad s1 a w ∧ s1.boxes = s.boxes ∧ s1.pr = s.pr ∧ s1.snap = s.snap ∧ s1.dfs = s.dfs ∧ (∀ d, lk d s.tmps = none → lk d s1.tmps = none) ∧
      ((Region.wanted o (yielded ops a.tmps) = true ∧ go s1) ∨ (Region.wanted o (yielded ops a.tmps) = false ∧ skip (s1.put o.dst (.tup [])))) := by
  unfold guardVC at h
  split at h
  case h_1 hg => exact ⟨s, hI, rfl, rfl, rfl, rfl, fun _ h => h, .inl ⟨by simp [Region.wanted, hg], h⟩⟩
  case h_2 g b hg =>
    obtain ⟨og, hog, h⟩ := nthK_spec h
    split at h
    case h_1 => exact h.elim
    case h_2 d hd =>
      obtain ⟨x, hx, h⟩ := look_spec h
      have hv := hI.tm d x hx
      have hog' : ops[g]? = some og := by rw [← hog]; simp
      have hy : ∀ c : Bool, x.den ad = .bool c → yielded ops a.tmps g = some c := fun c hc => by
        have := getD_some (hv.1.trans hc)
        simp [yielded, hog', hd, this]
      have hw : ∀ c : Bool, x.den ad = .bool c → Region.wanted o (yielded ops a.tmps) = beqB c b := fun c hc => by
        simp only [Region.wanted, hg, hy c hc]
        cases c <;> cases b <;> rfl
      split at h
      case h_4 => exact h.elim
      case h_3 l =>
        rw [putK_eq] at h
        refine ⟨s, hI, rfl, rfl, rfl, rfl, fun _ h => h, .inr ⟨?_, h⟩⟩
        have hn : yielded ops a.tmps g = none := by
          simp only [yielded, hog', Option.bind_some, hd]
          have h1 := hv.1
          rw [Array.getD_eq_getD_getElem?] at h1
          cases e : a.tmps[d]? with
          | none => rfl
          | some y =>
            rw [e] at h1
            simp only [Option.getD_some, SV.den] at h1
            rw [h1]
        simp [Region.wanted, hg, hn]
      case h_1 c =>
        have h1 := hw c rfl
        split at h
        case h_1 hb => exact ⟨s, hI, rfl, rfl, rfl, rfl, fun _ h => h, .inl ⟨h1.trans hb, h⟩⟩
        case h_2 hb => rw [putK_eq] at h; exact ⟨s, hI, rfl, rfl, rfl, rfl, fun _ h => h, .inr ⟨h1.trans hb, h⟩⟩
      case h_2 c =>
        have h1 := hw c rfl
        cases c with
        | true =>
          have h2 := h.1 rfl
          rw [putK_eq] at h2
          refine ⟨s.put (some d) (.lit true), hI.same trivial hv.1, rfl, rfl, rfl, rfl, fun d' hd' => put_fresh s _ (fun e => by cases e; rw [hd'] at hx; cases hx) hd', ?_⟩
          split at h2
          case h_1 hb => exact .inl ⟨h1.trans hb, h2⟩
          case h_2 hb => rw [putK_eq] at h2; exact .inr ⟨h1.trans hb, h2⟩
        | false =>
          have h2 := h.2 rfl
          rw [putK_eq] at h2
          refine ⟨s.put (some d) (.lit false), hI.same trivial hv.1, rfl, rfl, rfl, rfl, fun d' hd' => put_fresh s _ (fun e => by cases e; rw [hd'] at hx; cases hx) hd', ?_⟩
          split at h2
          case h_1 hb => exact .inl ⟨h1.trans hb, h2⟩
          case h_2 hb => rw [putK_eq] at h2; exact .inr ⟨h1.trans hb, h2⟩

/-! ### A region in the order of its text -/
def opsVC (P : Program) (n : Nat) (w0 : Base) (T : Tab) (L : List Oper) : List Oper → St → (Exit → St → Prop) → Prop
  | [], s, Q => Q .normal s
  | o :: r, s, Q => guardVC L o s (fun s => opsVC P n w0 T L r s Q) fun s => stepVC P n w0 T false s o s (fun s => opsVC P n w0 T L r s Q) Q
theorem Post.panic {n : Nat} {w0 : Base} {Q : Exit → St → Prop} {ad : Nat → Nat} {s : St} {a : Act} {w : World} (hI : Inv n w0 ad s a w) : NextP w0 s ad a Q (Post n w0 Q) :=
  fun c s' w' hw hd hq => ⟨s', ad, by rw [hd]; exact hI.df, hw, hq⟩
theorem opsVC_sound (hT : TabOK P T) {n : Nat} {w0 : Base} {ops : Array Oper} (hd : ∀ o ∈ ops.toList, ∀ d, o.dst = some d → d < n) {Q : Exit → St → Prop} :
    ∀ (k : Nat) (j : Nat) (s : St) (ad : Nat → Nat) (a : Act) (w : World), j + k = ops.size → Inv n w0 ad s a w → opsVC P n w0 T ops.toList (ops.toList.drop j) s Q → wpOps P ops (Post n w0 Q) (List.range' j k) a w := by
  intro k
  induction k with
  | zero =>
    intro j s ad a w hj hI h
    rw [List.drop_eq_nil_of_le (by simp; omega)] at h
    exact ⟨s, ad, hI, h⟩
  | succ k ih =>
    intro j s ad a w hj hI h
    have hlt : j < ops.size := by omega
    have hdrop : ops.toList.drop j = ops[j] :: ops.toList.drop (j + 1) := by
      rw [List.drop_eq_getElem_cons (by simpa using hlt)]; simp
    rw [hdrop] at h
    simp only [List.range'_succ, wpOps, Array.getElem?_eq_getElem hlt]
    have hdj := hd ops[j] (by simp)
    obtain ⟨s1, i1, e1, e2, e3, e4, _, h1⟩ := guardVC_sound hI h
    rcases h1 with ⟨hw, h1⟩ | ⟨hw, h1⟩
    · rw [if_pos hw]
      left
      exact stepVC_sound hT i1 i1.wi.ok i1.wi.sm hdj h1 (fun s' ad' a' w' i2 _ _ hk => ih (j + 1) s' ad' a' w' (by omega) i2 hk) (Post.panic i1)
    · rw [if_neg (by rw [hw]; simp)]
      have := i1.put (ops[j]).dst (.tup []) hdj trivial
      exact ih (j + 1) _ ad _ w (by omega) this h1

/-! ### The code -/
/-- A loop: to be shown by a rule. -/
structure LoopVC (P : Program) (n : Nat) (w0 : Base) (T : Tab) (c : Code) (s : St) (Q : Exit → St → Prop) : Prop where
  prf : ∀ ad a w, Inv n w0 ad s a w → (Code.loop c).wp P (Post n w0 Q) a w
/-- A region whose order is open: to be shown by a rule. -/
structure DrawVC (P : Program) (n : Nat) (w0 : Base) (T : Tab) (id : Nat) (ops : Array Oper) (s : St) (Q : Exit → St → Prop) : Prop where
  prf : ∀ ad a w, Inv n w0 ad s a w → (Code.region id ops true).wp P (Post n w0 Q) a w
/-- What stands behind the first of two pieces of code. -/
def seqQ (f : (Exit → St → Prop) → St → Prop) (Q : Exit → St → Prop) (e : Exit) (s : St) : Prop :=
  match e with
  | .normal => f Q s
  | e => Q e s
/-- .. behind a block. -/
def blockQ (id : Nat) (Q : Exit → St → Prop) (e : Exit) (s : St) : Prop :=
  match e with
  | .exit id' => match Nat.beq id' id with
    | true => Q .normal s
    | false => Q (.exit id') s
  | e => Q e s
def vc (P : Program) (n : Nat) (w0 : Base) (T : Tab) : Code → St → (Exit → St → Prop) → Prop
  | .skip, s, Q => Q .normal s
  | .region id ops draw, s, Q => match draw with
    | false => opsVC P n w0 T ops.toList ops.toList s Q
    | true => DrawVC P n w0 T id ops s Q
  | .seq a b, s, Q => vc P n w0 T a s (seqQ (fun Q s' => vc P n w0 T b s' Q) Q)
  | .cond c t e, s, Q => ev s c fun x => match x with
    | .lit true => vc P n w0 T t s Q
    | .lit false => vc P n w0 T e s Q
    | .v (.bool b) => (b = true → vc P n w0 T t s Q) ∧ (b = false → vc P n w0 T e s Q)
    | _ => False
  | .block id body, s, Q => vc P n w0 T body s (blockQ id Q)
  | .loop body, s, Q => LoopVC P n w0 T body s Q
  | .exit id, s, Q => Q (.exit id) s
  | .ret, s, Q => Q .ret s
  | _, _, _ => False
/-- Every slot that is written is one of the frame's. -/
def dstOk (n : Nat) : Code → Bool
  | .region _ ops _ => ops.toList.all fun o => match o.dst with
    | some d => decide (d < n)
    | none => true
  | .seq a b => dstOk n a && dstOk n b
  | .cond _ a b => dstOk n a && dstOk n b
  | .block _ a => dstOk n a
  | .loop a => dstOk n a
  | _ => true
theorem dstOk_ops {n : Nat} {id : Nat} {ops : Array Oper} {b : Bool} (h : dstOk n (.region id ops b) = true) : ∀ o ∈ ops.toList, ∀ d, o.dst = some d → d < n := by
  intro o ho d hd
  have := List.all_eq_true.1 h o ho
  rw [hd] at this
  simpa using this
theorem Post.mono {n : Nat} {w0 : Base} {Q R : Exit → St → Prop} (h : ∀ e s, Q e s → R e s) {e : Exit} {a : Act} {w : World} (hp : Post n w0 Q e a w) : Post n w0 R e a w := by
  cases e <;> (obtain ⟨s, ad, h1, h2⟩ := hp; first | exact ⟨s, ad, h1, h _ _ h2⟩ | exact ⟨s, ad, h1, h2.1, h _ _ h2.2⟩)
theorem vc_sound (hT : TabOK P T) {n : Nat} {w0 : Base} : ∀ (c : Code) (s : St) (Q : Exit → St → Prop) (ad : Nat → Nat) (a : Act) (w : World), dstOk n c = true → Inv n w0 ad s a w → vc P n w0 T c s Q → c.wp P (Post n w0 Q) a w
  | .skip, s, Q, ad, a, w, hd, hI, h => wp_skip ⟨s, ad, hI, h⟩
  | .region id ops draw, s, Q, ad, a, w, hd, hI, h => by
    cases draw with
    | false =>
      refine wp_region ?_
      rw [List.range_eq_range']
      exact opsVC_sound hT (dstOk_ops hd) ops.size 0 s ad a w (by omega) hI h
    | true => exact h.prf ad a w hI
  | .seq x y, s, Q, ad, a, w, hd, hI, h => by
    simp only [dstOk, Bool.and_eq_true] at hd
    refine wp_seq (wp_mono (vc_sound hT x s _ ad a w hd.1 hI h) ?_)
    intro e a' w' hp
    cases e with
    | normal =>
      obtain ⟨s', ad', i1, h1⟩ := hp
      exact vc_sound hT y s' Q ad' a' w' hd.2 i1 h1
    | _ => exact hp
  | .cond c x y, s, Q, ad, a, w, hd, hI, h => by
    simp only [dstOk, Bool.and_eq_true] at hd
    obtain ⟨v, h, hv, _⟩ := ev_spec hI h
    split at h
    case h_4 => exact h.elim
    case h_1 => exact wp_cond_true hv (vc_sound hT x s Q ad a w hd.1 hI h)
    case h_2 => exact wp_cond_false hv (vc_sound hT y s Q ad a w hd.2 hI h)
    case h_3 b => exact wp_cond_split hv (fun hb => vc_sound hT x s Q ad a w hd.1 hI (h.1 hb)) (fun hb => vc_sound hT y s Q ad a w hd.2 hI (h.2 hb))
  | .block id body, s, Q, ad, a, w, hd, hI, h => by
    refine wp_block (wp_mono (vc_sound hT body s _ ad a w hd hI h) ?_)
    intro e a' w' hp
    cases e with
    | exit id' =>
      obtain ⟨s', ad', i1, h1⟩ := hp
      simp only [blockQ] at h1
      by_cases hid : id' = id
      · subst hid
        simp only [Exit.inBlock, if_true]
        rw [show Nat.beq id' id' = true by simp] at h1
        exact ⟨s', ad', i1, h1⟩
      · simp only [Exit.inBlock, if_neg hid]
        have : Nat.beq id' id = false := by
          cases hb : Nat.beq id' id with
          | false => rfl
          | true => exact absurd (Nat.eq_of_beq_eq_true hb) hid
        rw [this] at h1
        exact ⟨s', ad', i1, h1⟩
    | _ => exact hp
  | .loop body, s, Q, ad, a, w, hd, hI, h => h.prf ad a w hI
  | .exit id, s, Q, ad, a, w, hd, hI, h => wp_exit ⟨s, ad, hI, h⟩
  | .ret, s, Q, ad, a, w, hd, hI, h => wp_ret ⟨s, ad, hI, h⟩
  | .rangeFunc .., s, Q, ad, a, w, hd, hI, h => h.elim
  | .scope _, s, Q, ad, a, w, hd, hI, h => h.elim
  | .label _, s, Q, ad, a, w, hd, hI, h => h.elim
  | .goto _, s, Q, ad, a, w, hd, hI, h => h.elim
  | .refuse _, s, Q, ad, a, w, hd, hI, h => h.elim
end Go.Sx
