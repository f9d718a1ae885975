/-
  The rules of the symbolic machine: loops, a function's end, calls.
-/
import Derived.Test.YteogjiadmgbmbaaDoorSxF
set_option linter.unusedVariables false
set_option linter.unusedSimpArgs false
namespace Go.Sx
open Go Go.RowKit
variable {P : Program} {T : Tab}

/-! ### A state that says less -/
def SubT {α : Type} : List (Nat × α) → List (Nat × α) → Prop
  | [], _ => True
  | (i, x) :: r, l => look i l (fun y => y = x) ∧ SubT r l
/-- A bool that is known, as a value. -/
def SV.norm : SV → SV
  | .lit b => .v (.bool b)
  | x => x
theorem SV.norm_den (x : SV) (ad : Nat → Nat) : x.norm.den ad = x.den ad := by cases x <;> rfl
theorem SV.norm_ok (x : SV) : x.norm.Ok ↔ x.Ok := by cases x <;> first | exact Iff.rfl | exact ⟨fun _ => trivial, fun _ => rfl⟩
def SubV : List (Nat × SV) → List (Nat × SV) → Prop
  | [], _ => True
  | (i, x) :: r, l => look i l (fun y => y.norm = x.norm) ∧ SubV r l
structure Sub (s s' : St) : Prop where
  t : SubV s'.tmps s.tmps
  b : SubT s'.boxes s.boxes
  d : s.dfs = s'.dfs
  p : ∀ g, s'.pr g → s.pr g
  w : s.snap = s'.snap
theorem SubT.lk {α : Type} {l' l : List (Nat × α)} (h : SubT l' l) {i : Nat} {x : α} (hx : lk i l' = some x) : lk i l = some x := by
  induction l' with
  | nil => cases hx
  | cons p r ih =>
    obtain ⟨j, y⟩ := p
    simp only [Go.Sx.lk] at hx
    split at hx
    · rename_i hb
      cases hx
      have := Nat.eq_of_beq_eq_true hb
      subst this
      obtain ⟨z, h1, h2⟩ := look_spec h.1
      rw [h1, h2]
    · exact ih h.2 hx
theorem SubV.lk {l' l : List (Nat × SV)} (h : SubV l' l) {i : Nat} {x : SV} (hx : lk i l' = some x) : ∃ y, lk i l = some y ∧ y.norm = x.norm := by
  induction l' with
  | nil => cases hx
  | cons p r ih =>
    obtain ⟨j, y⟩ := p
    simp only [Go.Sx.lk] at hx
    split at hx
    · rename_i hb
      cases hx
      have := Nat.eq_of_beq_eq_true hb
      subst this
      exact look_spec h.1
    · exact ih h.2 hx
theorem WI.sub {w0 : Base} {ad : Nat → Nat} {s s' : St} {w : World} (h : WI w0 ad s w) (hs : Sub s s') : WI w0 ad s' w :=
  ⟨h.bel, fun b c hb => h.bx b c (hs.b.lk hb), fun b c hb => h.ok b c (hs.b.lk hb), fun b c hb => h.lo b c (hs.b.lk hb), fun b c b' c' hb hb' => h.inj b c b' c' (hs.b.lk hb) (hs.b.lk hb'),
    fun b c hb hp => h.np b c (hs.b.lk hb) (hs.p _ hp), by rw [← hs.w]; exact h.sn, fun g hg => by rw [← hs.w]; exact h.pl g (hs.p g hg)⟩
theorem Inv.sub {n : Nat} {w0 : Base} {ad : Nat → Nat} {s s' : St} {a : Act} {w : World} (h : Inv n w0 ad s a w) (hs : Sub s s') : Inv n w0 ad s' a w :=
  ⟨h.tn, fun i x hx => by
    obtain ⟨y, hy, he⟩ := hs.t.lk hx
    obtain ⟨h1, h2⟩ := h.tm i y hy
    exact ⟨by rw [h1, ← y.norm_den ad, he, x.norm_den ad], x.norm_ok.1 (he ▸ y.norm_ok.2 h2)⟩, by rw [h.df, hs.d], h.wi.sub hs⟩
theorem Sub.refl (s : St) (ht : SubV s.tmps s.tmps) (hb : SubT s.boxes s.boxes) : Sub s s := ⟨ht, hb, rfl, fun _ h => h, rfl⟩

/-- What is to be shown behind a round. -/
def loopQ (J : St → Prop) (Q : Exit → St → Prop) (e : Exit) (s : St) : Prop :=
  match e with
  | .normal => J s
  | e => Q e s
/-- The loop: states st i, at the head of every round one of those with I i; μ falls. -/
theorem loop_rule (hT : TabOK P T) {n : Nat} {w0 : Base} {c : Code} {s : St} {Q : Exit → St → Prop} (hd : dstOk n c = true) {ι : Type} (st : ι → St) (I : ι → Prop) (μ : ι → Nat) (i0 : ι) (h0 : I i0) (hs : Sub s (st i0))
    (hr : ∀ i, I i → vc P n w0 T c (st i) (loopQ (fun s' => ∃ j, I j ∧ μ j < μ i ∧ Sub s' (st j)) Q)) : LoopVC P n w0 T c s Q := by
  refine ⟨fun ad a w hI => ?_⟩
  -- the measure rides on a ghost: the rounds that may still come
  have key : ∀ m i, μ i < m → I i → ∀ ad a w, Inv n w0 ad (st i) a w → ∀ b k cs, ∃ e a' w', Post n w0 Q e a' w' ∧ Arrives P (lone (b.at a (.code c :: .inLoop c :: k)) cs w) b k cs e a' w' := by
    intro m
    induction m with
    | zero => intro i hi; omega
    | succ m ih =>
      intro i hi hI ad a w hv b k cs
      obtain ⟨e, a1, w1, hq, harr⟩ := vc_sound hT c (st i) _ ad a w hd hv (hr i hI) b (.inLoop c :: k) cs
      cases e with
      | normal =>
        obtain ⟨s', ad', i1, j, hj, hlt, hsub⟩ := hq
        obtain ⟨e2, a2, w2, hq2, harr2⟩ := ih j (by omega) hj ad' a1 w1 (i1.sub hsub) b k cs
        exact ⟨e2, a2, w2, hq2, .of_steps (Steps.trans harr (.one step_inLoop)) harr2⟩
      | exit id => exact ⟨.exit id, a1, w1, hq, .pass (x := .inLoop c) rfl (fun _ _ => .inl (by simp)) harr⟩
      | goto l => exact ⟨.goto l, a1, w1, hq, .pass (x := .inLoop c) rfl (fun _ _ => .inl (by simp)) harr⟩
      | ret => exact ⟨.ret, a1, w1, hq, .pass (x := .inLoop c) rfl (fun _ _ => .inl (by simp)) harr⟩
      | panic ch => exact ⟨.panic ch, a1, w1, hq, .pass (x := .inLoop c) rfl (fun _ _ => .inl (by simp)) harr⟩
      | outgrown => exact ⟨.outgrown, a1, w1, hq, .pass (x := .inLoop c) rfl (fun _ _ => .inl (by simp)) harr⟩
  intro b k cs
  obtain ⟨e, a', w', hq, harr⟩ := key (μ i0 + 1) i0 (by omega) h0 ad a w (hI.sub hs) b k cs
  exact ⟨e, a', w', hq, .of_steps (.one step_loop) harr⟩

/-! ### A function -/
def entryK : List Nat → List SV → (List (Nat × SV) → Prop) → Prop
  | _, [], k => k []
  | i :: is, x :: r, k => entryK is r fun l => k ((i, x) :: l)
  | [], _ :: _, _ => False
def retV : List Value → Value
  | [x] => x
  | l => .tuple l.toArray
structure FinVC (w0 : Base) (R : Ending → World → Prop) (s : St) (l : List SV) : Prop where
  prf : ∀ ad w, WI w0 ad s w → R (.returned (retV (SV.dens ad l))) w
structure PanVC (w0 : Base) (R : Ending → World → Prop) (s : St) (c : List PanicEntry) : Prop where
  prf : ∀ ad w, WI w0 ad s w → R (.panicked c) w
def resK (P : Program) (T : Tab) (s : St) : List ResultVar → (List SV → Prop) → Prop
  | [], k => k []
  | .tmp t :: r, k => look t s.tmps fun x => resK P T s r fun l => k (x :: l)
  | .cell t ty :: r, k => look t s.tmps fun p => match p with
    | .ptr b off => qload P T s ty (.ptr b off) fun x => resK P T s r fun l => k (x :: l)
    | _ => False
def retQ (P : Program) (T : Tab) (w0 : Base) (rs : List ResultVar) (R : Ending → World → Prop) (e : Exit) (s : St) : Prop :=
  match s with
  | ⟨ts, bs, ds, pr, sw⟩ => match ds with
    | [] => match e with
      | .normal => resK P T ⟨ts, bs, [], pr, sw⟩ rs fun l => FinVC w0 R ⟨ts, bs, [], pr, sw⟩ l
      | .ret => resK P T ⟨ts, bs, [], pr, sw⟩ rs fun l => FinVC w0 R ⟨ts, bs, [], pr, sw⟩ l
      | .panic c => PanVC w0 R ⟨ts, bs, [], pr, sw⟩ c
      | _ => False
    | _ => False
def resF (tmps : Array Value) (r : ResultVar) : Sem Value :=
  match r with
  | .tmp t => pure (tmps.getD t undef)
  | .cell x t => do loadVar t (← asAddr (tmps.getD x undef))
theorem resK_sound (hT : TabOK P T) {n : Nat} {w0 : Base} {ad : Nat → Nat} {s : St} {a : Act} {w : World} (hI : Inv n w0 ad s a w) : ∀ {rs : List ResultVar} {k : List SV → Prop}, resK P T s rs k →
    ∃ l, k l ∧ (rs.mapM (resF a.tmps)).run P w = .ok (SV.dens ad l) w
  | [], k, h => ⟨[], h, by simp [SV.dens]⟩
  | .tmp t :: r, k, h => by
    obtain ⟨x, hx, h⟩ := look_spec h
    obtain ⟨l, hk, hr⟩ := resK_sound hT hI h
    refine ⟨x :: l, hk, ?_⟩
    simp only [List.mapM_cons, resF, Sem.run_bind, Sem.run_pure, Result.andThen_ok, hr, SV.dens, (hI.tm t x hx).1]
  | .cell t ty :: r, k, h => by
    obtain ⟨p, hp, h⟩ := look_spec h
    split at h
    case h_2 => exact h.elim
    case h_1 b off =>
      obtain ⟨x, h, hx, hrun⟩ := qload_sound hT hI.wi.ok (hI.tm t _ hp).2 h
      obtain ⟨l, hk, hr⟩ := resK_sound hT hI h
      refine ⟨x :: l, hk, ?_⟩
      have h1 := hrun ad w hI.wi.sm
      simp only [SV.den, Instr.loadAt, Instr.sureAddr, Sem.run_bind, Sem.run_pure, Result.andThen_ok] at h1
      have h2 : (resF a.tmps (.cell t ty)).run P w = .ok (x.den ad) w := by
        simp only [resF, Sem.run_bind, (hI.tm t _ hp).1, SV.den, asAddr, Sem.run_pure, Result.andThen_ok, h1]
      simp only [List.mapM_cons, Sem.run_bind, h2, Sem.run_pure, Result.andThen_ok, hr, SV.dens]
theorem entryK_spec {is : List Nat} {l : List SV} {k : List (Nat × SV) → Prop} (h : entryK is l k) : ∃ ts, k ts ∧ (is = List.range' (is.headD 0) is.length → ∀ i x, lk i ts = some x → (is.headD 0) ≤ i ∧ l[i - is.headD 0]? = some x) := by
  induction l generalizing is k with
  | nil =>
    cases is <;> exact ⟨[], h, fun _ i x hx => by cases hx⟩
  | cons y r ih =>
    cases is with
    | nil => exact h.elim
    | cons j js =>
      obtain ⟨ts, hk, ht⟩ := ih h
      refine ⟨_, hk, fun hr i x hx => ?_⟩
      simp only [List.headD_cons, List.length_cons, List.range'_succ, List.cons.injEq, true_and] at hr ⊢
      simp only [lk_cons] at hx
      by_cases e : j = i
      · subst e; rw [if_pos rfl] at hx; cases hx; simp
      · rw [if_neg e] at hx
        have hr' : js = List.range' (js.headD 0) js.length := by
          cases js with
          | nil => rfl
          | cons j' js' =>
            simp only [List.length_cons, List.range'_succ, List.cons.injEq] at hr ⊢
            obtain ⟨h1, h2⟩ := hr
            subst h1
            exact ⟨rfl, h2⟩
        have h1 := ht hr' i x hx
        cases js with
        | nil => 
          cases r with
          | nil => simp at h1
          | cons z r' => exact (h : False).elim
        | cons j' js' =>
          simp only [List.length_cons, List.range'_succ, List.cons.injEq] at hr
          have e1 : j' = j + 1 := hr.1
          simp only [List.headD_cons] at h1
          subst e1
          refine ⟨by omega, ?_⟩
          rw [show i - j = (i - (j + 1)) + 1 by omega]
          simpa using h1.2
def slots : List Nat := [0, 1, 2, 3, 4, 5, 6, 7, 8, 9]
/-- A function's contract out of its code's condition. -/
theorem calls_own (hT : TabOK P T) {f : FuncId} {fn : Func} {c : Code} (hf : P.funcs[f]? = some fn) (hb : fn.body = some c) (hd : dstOk fn.ntmps c = true) {w0 : Base} {args : List SV} {R : Ending → World → Prop}
    {bs : List (Nat × (List Seg × TypeId))} {pr : Nat → Prop} {ad : Nat → Nat} (hwi : WI w0 ad ⟨[], bs, [], pr, w0.w⟩ w0.w) (hn : args.length ≤ fn.ntmps) (ho : SV.Oks args)
    (h : entryK slots args fun ts => vc P fn.ntmps w0 T c ⟨ts, bs, [], pr, w0.w⟩ (retQ P T w0 fn.results.toList R)) :
    Calls P f (SV.dens ad args).toArray w0.w R := by
  obtain ⟨ts, h, hts⟩ := entryK_spec h
  have hts := hts rfl
  refine calls_of_wp hf hb (wp_mono (vc_sound hT c _ _ ad _ w0.w hd ?_ h) ?_)
  · have hdl : (SV.dens ad args).length = args.length := by rw [SV.dens_map]; simp
    refine ⟨?_, ?_, rfl, ?_⟩
    · simp [hdl]; omega
    · intro i x hx
      have h1 := (hts i x hx).2
      simp only [slots, List.headD_cons, Nat.sub_zero] at h1
      have hlt : i < args.length := (List.getElem?_eq_some_iff.1 h1).1
      refine ⟨?_, oks_get ho h1⟩
      rw [Array.getD_eq_getD_getElem?, Array.getElem?_append_left (by simpa [hdl] using hlt)]
      have := dens_get ad h1
      simp [this]
    · exact ⟨hwi.bel, hwi.bx, hwi.ok, hwi.lo, hwi.inj, hwi.np, hwi.sn, hwi.pl⟩
  · intro e a w hp
    have fin : ∀ s ad, Inv fn.ntmps w0 ad s a w → s.dfs = [] → resK P T s fn.results.toList (fun l => FinVC w0 R s l) → a.defers = [] ∧ ∃ v, (results fn a.tmps).run P w = .ok v w ∧ R (.returned v) w := by
      intro s ad hI hds hres
      obtain ⟨l, hfin, hrun⟩ := resK_sound hT hI hres
      refine ⟨by rw [hI.df, hds]; rfl, retV (SV.dens ad l), ?_, hfin.prf ad w hI.wi⟩
      change Sem.run P (do let vs ← fn.results.mapM (resF a.tmps); pure (if h : vs.size = 1 then vs[0] else .tuple vs)) w = _
      simp only [Array.mapM_eq_mapM_toList, Sem.run_bind, Sem.run_map, Sem.run_pure, hrun, Result.andThen_ok]
      congr 1
      match hl : SV.dens ad l with
      | [] => rfl
      | [x] => simp [retV]
      | x :: y :: r => simp [retV]
    cases e with
    | normal =>
      obtain ⟨⟨ts, bs, ds, pr, sw⟩, ad, hI, hq⟩ := hp
      cases ds with
      | nil => exact fin _ ad hI rfl hq
      | cons _ _ => exact (hq : False).elim
    | ret =>
      obtain ⟨⟨ts, bs, ds, pr, sw⟩, ad, hI, hq⟩ := hp
      cases ds with
      | nil => exact fin _ ad hI rfl hq
      | cons _ _ => exact (hq : False).elim
    | panic c =>
      obtain ⟨⟨ts, bs, ds, pr, sw⟩, ad, hdf, hwi, hq⟩ := hp
      cases ds with
      | nil => exact ⟨hdf, hq.prf ad w hwi⟩
      | cons _ _ => exact (hq : False).elim
    | exit id =>
      obtain ⟨⟨ts, bs, ds, pr, sw⟩, ad, hI, hq⟩ := hp
      cases ds <;> exact (hq : False).elim
    | goto l =>
      obtain ⟨⟨ts, bs, ds, pr, sw⟩, ad, hI, hq⟩ := hp
      cases ds <;> exact (hq : False).elim
    | outgrown =>
      obtain ⟨⟨ts, bs, ds, pr, sw⟩, ad, hI, hq⟩ := hp
      cases ds <;> exact (hq : False).elim
theorem wi_start (w0 : World) (ad : Nat → Nat) : WI (.of w0) ad ⟨[], [], [], fun g => g < w0.heap.size, w0⟩ w0 :=
  ⟨BelX.refl _, fun b c hb => (by cases hb), fun b c hb => (by cases hb), fun b c hb => (by cases hb), fun b c b' c' hb => (by cases hb), fun b c hb => (by cases hb), Nat.le_refl _, fun g hg => ⟨hg, rfl⟩⟩
/-- A call that writes nothing of the caller's. -/
theorem calls_sound (hT : TabOK P T) {f : FuncId} {fn : Func} {c : Code} (hf : P.funcs[f]? = some fn) (hb : fn.body = some c) (hd : dstOk fn.ntmps c = true) {w0 : World} {args : List SV} {R : Ending → World → Prop}
    (hn : args.length ≤ fn.ntmps) (ho : SV.Oks args)
    (h : entryK slots args fun ts => vc P fn.ntmps (.of w0) T c ⟨ts, [], [], fun g => g < w0.heap.size, w0⟩ (retQ P T (.of w0) fn.results.toList R)) :
    ∀ ad, Calls P f (SV.dens ad args).toArray w0 R := fun ad => calls_own hT hf hb hd (wi_start w0 ad) hn ho h
end Go.Sx
