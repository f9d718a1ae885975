/-
  The rules of the symbolic machine: calls of functions, loads of slices' elements.
-/
import Derived.Test.YteogjiadmgbmbaaDoorSxG
set_option linter.unusedVariables false
set_option linter.unusedSimpArgs false
namespace Go.Sx
open Go Go.RowKit
variable {P : Program} {T : Tab}

theorem WI.below {w0 : Base} {ad : Nat → Nat} {s : St} {w w' : World} (h : WI w0 ad s w) (hb : Below w.heap.size w w') : WI w0 ad s w' := by
  have hlt : ∀ b c, lk b s.boxes = some c → ad b < w.heap.size := fun b c hb => (Array.getElem?_eq_some_iff.1 (h.bx b c hb)).1
  refine ⟨h.bel.step hb, fun b c hc => ?_, h.ok, h.lo, h.inj, h.np, Nat.le_trans h.sn hb.size, fun g hg => ?_⟩
  · rw [hb.block _ (hlt b c hc)]; exact h.bx b c hc
  · have := h.pl g hg
    have := h.sn
    exact ⟨(h.pl g hg).1, by rw [hb.block g (by omega)]; exact (h.pl g hg).2⟩
/-- After a call that has left everything alone that was there: the snapshot is taken anew; what is new is protected. -/
theorem WI.anew {w0 : Base} {ad : Nat → Nat} {ts : List (Nat × SV)} {bs : List (Nat × (List Seg × TypeId))} {ds : List (FuncId × List SV)} {pr : Nat → Prop} {sw w w' : World} (h : WI w0 ad ⟨ts, bs, ds, pr, sw⟩ w) (hb : Below w.heap.size w w')
    (pr' : Nat → Prop) (hp : ∀ g, pr' g → pr g ∨ (w.heap.size ≤ g ∧ g < w'.heap.size)) : WI w0 ad ⟨ts, bs, ds, pr', w'⟩ w' := by
  have h' := h.below hb
  have hlt : ∀ b c, lk b bs = some c → ad b < w.heap.size := fun b c hb => (Array.getElem?_eq_some_iff.1 (h.bx b c hb)).1
  refine ⟨h'.bel, h'.bx, h'.ok, h'.lo, h'.inj, fun b c hc hq => ?_, Nat.le_refl _, fun g hg => ⟨?_, rfl⟩⟩
  · rcases hp _ hq with h1 | h1
    · exact h.np b c hc h1
    · have := hlt b c hc; omega
  · rcases hp g hg with h1 | h1
    · have h2 := (h'.pl g h1).1
      have h3 := h'.sn
      exact Nat.lt_of_lt_of_le h2 h3
    · exact h1.2
/-- A function with a body. -/
def Ent (P : Program) (g : FuncId) : Prop := (P.funcs[g]?).map (fun f => (f.name == "runtime.NumGoroutine", f.body.isNone)) = some (false, false)
theorem Ent.run {g : FuncId} (h : Ent P g) (args : Array Value) (w : World) : (callFunc g args).run P w = .ok (.enter g args) w := by
  unfold Ent at h
  cases hf : P.funcs[g]? with
  | none => simp [hf] at h
  | some fn =>
    simp only [hf, Option.map_some, Option.some.injEq, Prod.mk.injEq] at h
    unfold callFunc
    simp only [Sem.run_bind, run_program, Result.andThen_ok, hf, h.1, h.2, Bool.false_eq_true, if_false, Sem.run_pure]
section
variable {n : Nat} {w0 : Base} {kp : Bool} {d g : Nat} {args : List SV} {ts : List (Nat × SV)} {bs : List (Nat × (List Seg × TypeId))} {ds : List (FuncId × List SV)} {pr : Nat → Prop} {sw : World} {K : St → Prop} {Q : Exit → St → Prop}
/-- A call whose result is known and that leaves all alone that was there. -/
theorem call_det (x : SV) (hent : Ent P g) (hc : ∀ ad w, WI w0 ad ⟨ts, bs, ds, pr, sw⟩ w → Calls P g (SV.dens ad args).toArray w fun e w' => e = .returned (x.den ad) ∧ Below w.heap.size w w') (hx : x.Ok)
    (hk : K ⟨(d, x) :: ts, bs, ds, pr, sw⟩) : CallVC P n w0 kp (some d) g args ⟨ts, bs, ds, pr, sw⟩ K Q := by
  refine ⟨fun ad a w hI hd o next Q' ho hn hp => ?_⟩
  rw [hent.run, Oper.upon_enter]
  refine (hc ad w hI.wi).mono ?_
  rintro e w' ⟨rfl, hb⟩
  rw [ho]
  have hw := hI.wi.below hb
  refine hn _ _ _ ((hI.world hw).put (some d) x hd hx) ?_ ?_ hk
  · exact ⟨hb.size, fun q hq _ _ => hb.block q hq, fun t ht => actput_ne a _ _ t ht, fun q hq => .inl hq, fun b c hb => .inl ⟨c, hb, rfl⟩, fun t ht hs => put_fresh ⟨ts, bs, ds, pr, sw⟩ (d := some d) x ht hs⟩
  · refine fun _ => ⟨fun b c hb => ⟨hb, rfl⟩, fun q hq => ⟨hq, ?_⟩⟩
    have h1 := (hI.wi.pl q hq).1
    have h2 := hI.wi.sn
    exact hb.block q (Nat.lt_of_lt_of_le h1 h2)
/-- A call that leaves all alone that was there; the snapshot is taken anew behind it. -/
theorem call_new (R : (Nat → Nat) → World → Ending → World → Prop) (hent : Ent P g) (hc : ∀ ad w, WI w0 ad ⟨ts, bs, ds, pr, sw⟩ w → Calls P g (SV.dens ad args).toArray w (R ad w))
    (hk : ∀ ad w e w', WI w0 ad ⟨ts, bs, ds, pr, sw⟩ w → R ad w e w' → ∃ x : SV, e = .returned (x.den ad) ∧ x.Ok ∧ Below w.heap.size w w' ∧
      ∀ pr' : Nat → Prop, (∀ q, pr q → w'.heap[q]? = sw.heap[q]?) → sw.heap.size ≤ w.heap.size → (∀ q, pr q → pr' q) → (∀ q, w.heap.size ≤ q → q < w'.heap.size → pr' q) → (∀ q, pr' q → pr q ∨ w.heap.size ≤ q) → K ⟨(d, x) :: ts, bs, ds, pr', w'⟩) :
    CallVC P n w0 kp (some d) g args ⟨ts, bs, ds, pr, sw⟩ K Q := by
  refine ⟨fun ad a w hI hd o next Q' ho hn hp => ?_⟩
  rw [hent.run, Oper.upon_enter]
  refine (hc ad w hI.wi).mono ?_
  intro e w' hR
  obtain ⟨x, rfl, hx, hb, hk⟩ := hk ad w e w' hI.wi hR
  rw [ho]
  have hw := hI.wi.anew hb (fun q => pr q ∨ (w.heap.size ≤ q ∧ q < w'.heap.size)) (fun _ h => h)
  have hsame : ∀ q, pr q → w'.heap[q]? = w.heap[q]? := fun q hq => by
    have h1 := (hI.wi.pl q hq).1
    have h2 := hI.wi.sn
    exact hb.block q (Nat.lt_of_lt_of_le h1 h2)
  have hI' : Inv n w0 ad ⟨ts, bs, ds, fun q => pr q ∨ (w.heap.size ≤ q ∧ q < w'.heap.size), w'⟩ a w' := ⟨hI.tn, hI.tm, hI.df, hw⟩
  refine hn _ _ _ (hI'.put (some d) x hd hx) ?_ (fun _ => ⟨fun b c hb => ⟨hb, rfl⟩, fun q hq => ⟨.inl hq, hsame q hq⟩⟩) (hk _ (fun q hq => (hsame q hq).trans (hI.wi.pl q hq).2) hI.wi.sn (fun _ h => .inl h) (fun q h1 h2 => .inr ⟨h1, h2⟩) (fun q hq => hq.imp id (fun h => h.1)))
  exact ⟨hb.size, fun q hq _ _ => hb.block q hq, fun t ht => actput_ne a _ _ t ht, fun q hq => hq.imp id (fun h => h.1), fun b c hb => .inl ⟨c, hb, rfl⟩, fun t ht hs => put_fresh ⟨ts, bs, ds, pr, sw⟩ (d := some d) x ht hs⟩
end

/-! ### Slices that are read -/
/-- The slice at A reads as cs; its block is protected. -/
def Rd (pr : Nat → Prop) (w : World) (A : Option Addr) (cs : List Value) : Prop := ∀ j v, cs[j]? = some v → ∃ a, A = some a ∧ pr a.block ∧ w.cell? (a.add j) = some v
theorem cell_same {w w' : World} {a : Addr} (h : w'.heap[a.block]? = w.heap[a.block]?) : w'.cell? a = w.cell? a := by simp [World.cell?, h]
theorem add_block (a : Addr) (n : Nat) : (a.add n).block = a.block := by unfold Addr.add; split <;> rfl
theorem Rd.world {pr pr' : Nat → Prop} {w w' : World} {A : Option Addr} {cs : List Value} (h : Rd pr w A cs) (hw : ∀ q, pr q → w'.heap[q]? = w.heap[q]?) (hp : ∀ q, pr q → pr' q) : Rd pr' w' A cs := by
  intro j v hj
  obtain ⟨a, ha, hpa, hc⟩ := h j v hj
  exact ⟨a, ha, hp _ hpa, (cell_same (by rw [add_block]; exact hw _ hpa)).trans hc⟩
theorem Rd.some {pr : Nat → Prop} {w : World} {A : Option Addr} {cs : List Value} (h : Rd pr w A cs) (hc : cs ≠ []) : A ≠ none := by
  cases cs with
  | nil => exact absurd rfl hc
  | cons c r => obtain ⟨a, ha, _⟩ := h 0 c rfl; rw [ha]; simp
theorem flatMap_at {α : Type} {f : α → List Value} {sz : Nat} : ∀ (xs : List α) (h : ∀ x ∈ xs, (f x).length = sz) (i : Nat) (x : α), xs[i]? = some x → ∀ j, j < sz → (xs.flatMap f)[i * sz + j]? = (f x)[j]?
  | [], h, i, x, hx, j, hj => by simp at hx
  | y :: r, h, i, x, hx, j, hj => by
    rw [List.flatMap_cons]
    have hy := h y (by simp)
    cases i with
    | zero =>
      simp at hx; subst hx
      rw [Nat.zero_mul, Nat.zero_add, List.getElem?_append_left (by rw [hy]; exact hj)]
    | succ i =>
      rw [List.getElem?_append_right (by rw [hy, Nat.succ_mul]; omega), hy, show (i + 1) * sz + j - sz = i * sz + j by rw [Nat.succ_mul]; omega]
      exact flatMap_at r (fun z hz => h z (List.mem_cons_of_mem _ hz)) i x (by simpa using hx) j hj
theorem xload_row (hT : TabOK P T) {m : St} {t : TypeId} {ti : TI} (ht : lk t T = some ti) {α : Type} (segs : α → List Seg) {A : Option Addr} {xs : List α} {x : α} {sz i o n : Nat} {k : SV → Prop} (hr : Rd m.pr m.snap A (xs.flatMap fun x => flat (segs x)))
    (hsz : ∀ x ∈ xs, (flat (segs x)).length = sz) (hok : SegsOk (segs x)) (hx : xs[i]? = some x) (hn : n = i * sz + o) (h0 : 0 < ti.size) (h : cutAt (segs x) o fun _ q => cutAt q ti.size fun l _ => mkSV ti.agg l k) : XLoadVC P m t A n k := by
  obtain ⟨p, q, h, h1, hl1⟩ := cutAt_spec h
  obtain ⟨l, r, h, h2, hl2⟩ := cutAt_spec h
  have hokq : SegsOk q := (segsOk_append.1 (h1 ▸ hok)).2
  have hokl : SegsOk l := (segsOk_append.1 (h2 ▸ hokq)).1
  obtain ⟨y, hk, hy, hd⟩ := mkSV_spec h hokl
  have hfl : flat (segs x) = flat p ++ (flat l ++ flat r) := by rw [h1, flat_append, h2, flat_append]
  have hlen := hsz x (List.mem_of_getElem? hx)
  have hlp := hl1 hok
  have hll := hl2 hokq
  rw [hfl, List.length_append, List.length_append] at hlen
  have hcell : ∀ j v, (flat l)[j]? = some v → (xs.flatMap fun x => flat (segs x))[n + j]? = some v := fun j v hj => by
    have hjl := (List.getElem?_eq_some_iff.1 hj).1
    rw [hn, Nat.add_assoc, flatMap_at xs hsz i x hx (o + j) (by omega), hfl, List.getElem?_append_right (by omega), hlp, show o + j - o = j by omega, List.getElem?_append_left hjl]
    exact hj
  obtain ⟨a, hA, hcs⟩ : ∃ a, A = some a ∧ ∀ j v, (flat l)[j]? = some v → m.pr a.block ∧ m.snap.cell? (a.add (n + j)) = some v := by
    have hj0 : 0 < (flat l).length := by omega
    obtain ⟨a, hA, _⟩ := hr _ _ (hcell 0 _ (List.getElem?_eq_getElem hj0))
    refine ⟨a, hA, fun j v hj => ?_⟩
    obtain ⟨a', ha', hp, hc⟩ := hr _ _ (hcell j v hj)
    rw [hA] at ha'
    cases ha'
    exact ⟨hp, hc⟩
  refine ⟨y, hk, hy, a, hA, fun ad w hw => ?_⟩
  rw [hd]
  rcases loadVar_run (hT t ti ht) w (a.add n) (flat l) hll (fun j v hj => by
    obtain ⟨hp, hc⟩ := hcs j v hj
    rw [addr_add_add]
    exact (cell_same (by rw [add_block]; exact hw _ hp)).trans hc) with h3 | ⟨h3, h4⟩
  · exact h3
  · rw [h3] at h
    have : (flat l).length = 1 := by
      match l, h with
      | [.one v], _ => rfl
    exact absurd (hll.symm.trans this) h4
/-- What a callee may read. -/
theorem WI.rd {w0 : Base} {ad : Nat → Nat} {ts : List (Nat × SV)} {bs : List (Nat × (List Seg × TypeId))} {ds : List (FuncId × List SV)} {pr : Nat → Prop} {sw w : World} (h : WI w0 ad ⟨ts, bs, ds, pr, sw⟩ w) {A : Option Addr} {cs : List Value} (hr : Rd pr sw A cs) : Rd (fun g => g < w.heap.size) w A cs := by
  intro j v hj
  obtain ⟨a, ha, hpa, hc⟩ := hr j v hj
  have h1 := h.pl _ hpa
  have h2 := h.sn
  exact ⟨a, ha, Nat.lt_of_lt_of_le h1.1 h2, (cell_same (by rw [add_block]; exact h1.2)).trans hc⟩
end Go.Sx
