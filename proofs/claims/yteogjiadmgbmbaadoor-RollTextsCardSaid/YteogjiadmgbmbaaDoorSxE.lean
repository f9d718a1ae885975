/-
  The operations of the symbolic machine that make or write memory; one step; a region in the order of its text.
-/
import Derived.Test.YteogjiadmgbmbaaDoorSxD
set_option linter.unusedVariables false
set_option linter.unusedSimpArgs false
namespace Go.Sx
open Go Go.RowKit

/-- An exit of the machine, where a state speaks of it. -/
def Post (n : Nat) (w0 : Base) (Q : Exit → St → Prop) : Exit → Act → World → Prop
  | .panic c, a, w => ∃ s ad, a.defers = s.dfs.map (dden ad) ∧ WI w0 ad s w ∧ Q (.panic c) s
  | e, a, w => ∃ s ad, Inv n w0 ad s a w ∧ Q e s
/-- Any other operation (a call, an append, ..): to be shown by a rule. kp: it leaves what is protected alone. -/
structure RawVC (P : Program) (n : Nat) (w0 : Base) (kp : Bool) (o : Oper) (s : St) (K : St → Prop) (Q : Exit → St → Prop) : Prop where
  prf : ∀ ad a w, Inv n w0 ad s a w → ∀ (next : Act → World → Prop) (Q' : Exit → Act → World → Prop),
    (∀ s' a' w', Inv n w0 ad s' a' w' → Fr s ad o.dst a w s' ad a' w' → (kp = true → Kp s ad w s' ad w') → K s' → next a' w') →
    (∀ c s' w', WI w0 ad s' w' → s'.dfs = s.dfs → Q (.panic c) s' → Q' (.panic c) a w') → o.wp P a w next Q'

/-! ### Boxes -/
def hasKey {α : Type} (d : Nat) : List (Nat × α) → Bool
  | [] => false
  | (j, _) :: r => match Nat.beq j d with
    | true => true
    | false => hasKey d r
def tmpRefs (d : Nat) : List (Nat × SV) → Bool
  | [] => false
  | (_, x) :: r => match x.refs d with
    | true => true
    | false => tmpRefs d r
def dfsRefs (d : Nat) : List (FuncId × List SV) → Bool
  | [] => false
  | (_, l) :: r => match SV.refss d l with
    | true => true
    | false => dfsRefs d r
theorem hasKey_lk {α : Type} {d : Nat} {l : List (Nat × α)} (h : hasKey d l = false) : lk d l = none := by
  induction l with
  | nil => rfl
  | cons p r ih =>
    obtain ⟨j, x⟩ := p
    simp only [hasKey] at h
    split at h
    · cases h
    · rename_i hb; simp only [lk, hb]; exact ih h
theorem tmpRefs_lk {d : Nat} {l : List (Nat × SV)} (h : tmpRefs d l = false) {i : Nat} {x : SV} (hx : lk i l = some x) : x.refs d = false := by
  induction l with
  | nil => cases hx
  | cons p r ih =>
    obtain ⟨j, y⟩ := p
    simp only [tmpRefs] at h
    split at h
    · cases h
    · rename_i hb
      simp only [lk] at hx
      split at hx
      · cases hx; exact hb
      · exact ih h hx
theorem dfsRefs_den {d : Nat} {ad ad' : Nat → Nat} (hc : ∀ b', b' ≠ d → ad' b' = ad b') {l : List (FuncId × List SV)} (h : dfsRefs d l = false) : l.map (dden ad') = l.map (dden ad) := by
  induction l with
  | nil => rfl
  | cons p r ih =>
    obtain ⟨f, l⟩ := p
    simp only [dfsRefs] at h
    split at h
    · cases h
    · rename_i hb
      simp only [List.map_cons, ih h, dden, SV.dens_congr hc hb]

def newBox (s : St) (d : Option Nat) (l : List Seg) (t : TypeId) (K : St → Prop) : Prop :=
  match s, d with
  | ⟨ts, bs, ds, pr, w⟩, some d => match hasKey d bs, tmpRefs d ts, dfsRefs d ds with
    | false, false, false => K ⟨(d, .ptr d 0) :: ts, (d, (l, t)) :: bs, ds, pr, w⟩
    | _, _, _ => False
  | _, none => False
theorem newBox_sound {n : Nat} {w0 : Base} {ad : Nat → Nat} {s : St} {a : Act} {w : World} (hI : Inv n w0 ad s a w) {d : Option Nat} {l : List Seg} {t : TypeId} {K : St → Prop} (hd : ∀ i, d = some i → i < n) (hok : SegsOk l)
    (h : newBox s d l t K) : ∃ s' ad', K s' ∧ Inv n w0 ad' s' (a.put d (.pointer (some ⟨w.heap.size, 0, none⟩))) (w.alloc (.cells (flat l).toArray t)) ∧ Fr s ad d a w s' ad' (a.put d (.pointer (some ⟨w.heap.size, 0, none⟩))) (w.alloc (.cells (flat l).toArray t)) ∧
      Kp s ad w s' ad' (w.alloc (.cells (flat l).toArray t)) := by
  obtain ⟨ts, bs, ds, pr, sw⟩ := s
  cases d with
  | none => exact (h : False).elim
  | some d =>
    simp only [newBox] at h
    split at h
    case h_2 => exact h.elim
    case h_1 h1 h2 h3 =>
      have hc : ∀ b', b' ≠ d → (fun b => if b = d then w.heap.size else ad b) b' = ad b' := fun b' hb => if_neg hb
      have hlt : ∀ b c, lk b bs = some c → ad b < w.heap.size := fun b c hb => (Array.getElem?_eq_some_iff.1 (hI.wi.bx b c hb)).1
      have hkey := hasKey_lk h1
      have hbne : ∀ b c, lk b bs = some c → b ≠ d := fun b c hb e => by subst e; rw [hkey] at hb; cases hb
      have hold : ∀ q, q < w.heap.size → (w.alloc (.cells (flat l).toArray t)).heap[q]? = w.heap[q]? := fun q hq => by
        simp only [World.alloc, Array.getElem?_push]; rw [if_neg (by omega)]
      have hnew : (w.alloc (.cells (flat l).toArray t)).heap[w.heap.size]? = some (.cells (flat l).toArray t (0, 0)) := by show (w.heap.push _)[w.heap.size]? = _; simp
      refine ⟨_, fun b => if b = d then w.heap.size else ad b, h, ?_, ?_, ?_⟩
      · refine ⟨by rw [actput_size]; exact hI.tn, ?_, ?_, ?_⟩
        · intro i x hx
          simp only [lk_cons] at hx
          by_cases e : d = i
          · subst e
            rw [if_pos rfl] at hx
            cases hx
            exact ⟨by rw [actput_eq a d _ (by rw [hI.tn]; exact hd d rfl)]; simp [SV.den], trivial⟩
          · rw [if_neg e] at hx
            have := hI.tm i x hx
            exact ⟨by rw [actput_ne a _ _ i (by simpa using e), this.1, SV.den_congr hc (tmpRefs_lk h2 hx)], this.2⟩
        · rw [actput_defers, hI.df]; exact (dfsRefs_den hc h3).symm
        · refine ⟨hI.wi.bel.alloc hI.wi.bel.size _, ?_, ?_, ?_, ?_, ?_, ?_, ?_⟩
          · intro b c hb
            simp only [lk_cons] at hb
            by_cases e : d = b
            · subst e; rw [if_pos rfl] at hb; cases hb; simpa using hnew
            · rw [if_neg e] at hb
              simp only [if_neg (Ne.symm e)]
              rw [hold _ (hlt b c hb)]; exact hI.wi.bx b c hb
          · intro b c hb
            simp only [lk_cons] at hb
            by_cases e : d = b
            · subst e; rw [if_pos rfl] at hb; cases hb; exact hok
            · rw [if_neg e] at hb; exact hI.wi.ok b c hb
          · intro b c hb
            simp only [lk_cons] at hb
            by_cases e : d = b
            · subst e; exact .inl (by simpa using hI.wi.bel.size)
            · rw [if_neg e] at hb; simp only [if_neg (Ne.symm e)]; exact hI.wi.lo b c hb
          · intro b c b' c' hb hb' he
            simp only [lk_cons] at hb hb'
            by_cases e : d = b <;> by_cases e' : d = b'
            · rw [← e, ← e']
            · rw [if_neg e'] at hb'
              have := hlt b' c' hb'
              simp only [if_pos e.symm, if_neg (Ne.symm e')] at he
              omega
            · rw [if_neg e] at hb
              have := hlt b c hb
              simp only [if_neg (Ne.symm e), if_pos e'.symm] at he
              omega
            · rw [if_neg e] at hb
              rw [if_neg e'] at hb'
              simp only [if_neg (Ne.symm e), if_neg (Ne.symm e')] at he
              exact hI.wi.inj b c b' c' hb hb' he
          · intro b c hb
            simp only [lk_cons] at hb
            by_cases e : d = b
            · simp only [if_pos e.symm]
              intro hp
              have h4 := (hI.wi.pl _ hp).1
              have := hI.wi.sn
              omega
            · rw [if_neg e] at hb; simp only [if_neg (Ne.symm e)]; exact hI.wi.np b c hb
          · have := hI.wi.sn
            show sw.heap.size ≤ _
            rw [World.size_alloc]
            exact Nat.le_succ_of_le this
          · intro g hg
            have h4 := hI.wi.pl g hg
            have h5 := hI.wi.sn
            have h6 : g < sw.heap.size := h4.1
            have h7 : sw.heap.size ≤ w.heap.size := h5
            exact ⟨h4.1, by rw [hold g (by omega)]; exact h4.2⟩
      · refine ⟨by rw [World.size_alloc]; omega, fun q hq _ _ => hold q hq, fun i hi => actput_ne a _ _ i hi, fun g hg => .inl hg, fun b c hb => ?_, fun t ht hs => put_fresh ⟨ts, bs, ds, pr, sw⟩ (.ptr d 0) ht hs⟩
        simp only [lk_cons] at hb
        by_cases e : d = b
        · subst e; exact .inr (by simp)
        · rw [if_neg e] at hb; exact .inl ⟨c, hb, if_neg (Ne.symm e)⟩
      · refine ⟨fun b c hb => ⟨?_, if_neg (hbne b c hb)⟩, fun g hg => ⟨hg, hold g ?_⟩⟩
        · rw [lk_cons, if_neg (Ne.symm (hbne b c hb))]; exact hb
        · have h4 := (hI.wi.pl _ hg).1
          have h5 := hI.wi.sn
          exact Nat.lt_of_lt_of_le h4 h5

def setBox (s : St) (b : Nat) (l : List Seg) (t : TypeId) (K : St → Prop) : Prop :=
  match s with
  | ⟨ts, bs, ds, pr, w⟩ => K ⟨ts, (b, (l, t)) :: bs, ds, pr, w⟩
/-- A store into a box. -/
def storeVC (T : Tab) (t : TypeId) (p x : SV) (s : St) (K : St → Prop) : Prop :=
  look t T fun ti => segsOf x fun ns => match Nat.beq (segsLen ns) ti.size with
    | true => match p with
      | .ptr b off => look b s.boxes fun c => cutAt c.1 off fun p q => cutAt q ti.size fun _ q => appK ns q fun l => appK p l fun l => setBox s b l c.2 K
      | .eptr b off n i => look b s.boxes fun c => cutAt c.1 off fun p q => match q, ns with
        | .ints kd n' xs :: r, [.one (.int kd' z)] => match Nat.beq n n', keq kd kd' with
          | true, true => appK p (.ints kd n' (xs.set i.toNat z) :: r) fun l => setBox s b l c.2 K
          | _, _ => False
        | _, _ => False
      | _ => False
    | false => False
theorem setRow_inv {n : Nat} {w0 : Base} {ad : Nat → Nat} {s : St} {a : Act} {w : World} (hI : Inv n w0 ad s a w) {b : Nat} {c : List Seg × TypeId} (hb : lk b s.boxes = some c) {l : List Seg} (hok : SegsOk l) :
    Inv n w0 ad ⟨s.tmps, (b, (l, c.2)) :: s.boxes, s.dfs, s.pr, s.snap⟩ a (w.setRow (ad b) (flat l).toArray) ∧
    Fr s ad none a w ⟨s.tmps, (b, (l, c.2)) :: s.boxes, s.dfs, s.pr, s.snap⟩ ad a (w.setRow (ad b) (flat l).toArray) := by
  have hcell := hI.wi.bx b c hb
  have hlo := hI.wi.lo b c hb
  refine ⟨⟨hI.tn, hI.tm, hI.df, ?_⟩, ?_⟩
  · refine ⟨⟨hI.wi.bel.os, hI.wi.bel.tape, hI.wi.bel.output, by rw [setRow_size]; exact hI.wi.bel.size, fun k hk hx => by
      rw [setRow_other _ _ _ _ (fun e => by
        rcases hlo with h | h
        · omega
        · exact hx (by rw [e]; exact h))]
      exact hI.wi.bel.block k hk hx⟩, ?_, ?_, ?_, ?_, ?_, ?_, ?_⟩
    · intro b' c' hb'
      simp only [lk_cons] at hb'
      by_cases e : b = b'
      · subst e; rw [if_pos rfl] at hb'; cases hb'
        exact setRow_heap w (ad b) _ _ _ _ hcell
      · rw [if_neg e] at hb'
        rw [setRow_other _ _ _ _ (fun h => e (hI.wi.inj b c b' c' hb hb' h.symm))]
        exact hI.wi.bx b' c' hb'
    · intro b' c' hb'
      simp only [lk_cons] at hb'
      by_cases e : b = b'
      · subst e; rw [if_pos rfl] at hb'; cases hb'; exact hok
      · rw [if_neg e] at hb'; exact hI.wi.ok b' c' hb'
    · intro b' c' hb'
      simp only [lk_cons] at hb'
      by_cases e : b = b'
      · subst e; exact hlo
      · rw [if_neg e] at hb'; exact hI.wi.lo b' c' hb'
    · intro b1 c1 b2 c2 h1 h2 he
      have f : ∀ b', (∃ c', lk b' ((b, (l, c.2)) :: s.boxes) = some c') → ∃ c', lk b' s.boxes = some c' := fun b' ⟨c', hb'⟩ => by
        simp only [lk_cons] at hb'
        by_cases e : b = b'
        · subst e; exact ⟨c, hb⟩
        · rw [if_neg e] at hb'; exact ⟨c', hb'⟩
      obtain ⟨c1', h1'⟩ := f b1 ⟨c1, h1⟩
      obtain ⟨c2', h2'⟩ := f b2 ⟨c2, h2⟩
      exact hI.wi.inj b1 c1' b2 c2' h1' h2' he
    · intro b' c' hb'
      simp only [lk_cons] at hb'
      by_cases e : b = b'
      · subst e; exact hI.wi.np b c hb
      · rw [if_neg e] at hb'; exact hI.wi.np b' c' hb'
    · show s.snap.heap.size ≤ _
      rw [setRow_size]; exact hI.wi.sn
    · intro g hg
      have h4 := hI.wi.pl g hg
      exact ⟨h4.1, by rw [setRow_other _ _ _ _ (fun e => hI.wi.np b c hb (by rw [← e]; exact hg))]; exact h4.2⟩
  · refine ⟨by rw [setRow_size]; exact Nat.le_refl _, fun q hq hq2 _ => setRow_other _ _ _ _ (fun e => hq2 b c hb e.symm), fun _ _ => rfl, fun g hg => .inl hg, fun b' c' hb' => ?_, fun _ _ h => h⟩
    simp only [lk_cons] at hb'
    by_cases e : b = b'
    · subst e; exact .inl ⟨c, hb, rfl⟩
    · rw [if_neg e] at hb'; exact .inl ⟨c', hb', rfl⟩

variable {P : Program} {T : Tab}
theorem storeVC_sound (hT : TabOK P T) {n : Nat} {w0 : Base} {ad : Nat → Nat} {s : St} {a : Act} {w : World} (hI : Inv n w0 ad s a w) {t : TypeId} {p x : SV} {K : St → Prop} (hp : p.Ok) (hx : x.Ok) (h : storeVC T t p x s K) :
    ∃ s' w', K s' ∧ (Instr.storeAt t (p.den ad) (x.den ad)).run P w = .ok () w' ∧ Inv n w0 ad s' a w' ∧ Fr s ad none a w s' ad a w' := by
  obtain ⟨ti, ht, h⟩ := look_spec h
  obtain ⟨ns, h, hns, hc⟩ := segsOf_spec h hx
  split at h
  case h_2 => exact h.elim
  case h_1 hsz =>
    have hsz := Nat.eq_of_beq_eq_true hsz
    have hlen : (x.den ad).cells.size = ti.size := by rw [← Array.length_toList, hc ad, flat_length hns, hsz]
    have hnl : (flat ns).length = ti.size := by rw [flat_length hns, hsz]
    have hrun : ∀ (A : Addr) (w' : World), (storeCells A (flat ns) 0).run P w = .ok () w' → (storeVar t A (x.den ad)).run P w = .ok () w' := fun A w' hw => by
      simp [storeVar, (hT t ti ht).run_size, hlen, hc ad, hw]
    split at h
    case h_3 => exact h.elim
    case h_1 b off _ _ =>
      obtain ⟨c, hb, h⟩ := look_spec h
      obtain ⟨p, q, h, h1, hl1⟩ := cutAt_spec h
      obtain ⟨mid, post, h, h2, hl2⟩ := cutAt_spec h
      have h := appK_spec h
      have h := appK_spec h
      have hok := hI.wi.ok b c hb
      have hpq := segsOk_append.1 (h1 ▸ hok)
      have hmp := segsOk_append.1 (h2 ▸ hpq.2)
      have hok' : SegsOk (p ++ (ns ++ post)) := segsOk_append.2 ⟨hpq.1, segsOk_append.2 ⟨hns, hmp.2⟩⟩
      have hcell := hI.wi.bx b c hb
      have hlp := hl1 hok
      have hlm := hl2 hpq.2
      have hfl : flat c.1 = flat p ++ (flat mid ++ flat post) := by rw [h1, flat_append, h2, flat_append]
      obtain ⟨i1, i2⟩ := setRow_inv hI hb hok'
      refine ⟨_, w.setRow (ad b) (flat (p ++ (ns ++ post))).toArray, h, ?_, i1, i2⟩
      simp only [SV.den, Instr.storeAt, Instr.sureAddr, Sem.run_bind, Sem.run_pure, Result.andThen_ok]
      refine hrun _ _ ?_
      have := run_storeCells_at P (ad b) off c.2 (flat ns) 0 (flat c.1).toArray w hcell (by simp [hfl, hlp, hlm, hnl]) (flat_one hns)
      rw [this]
      congr 2
      apply congrArg List.toArray
      simp only [Nat.add_zero, hfl, hnl]
      rw [List.take_left' hlp, List.drop_append, List.drop_append, hlp, hlm]
      have e1 : (flat p).drop (off + ti.size) = [] := List.drop_eq_nil_of_le (by omega)
      have e2 : (flat mid).drop (off + ti.size - off) = [] := List.drop_eq_nil_of_le (by omega)
      rw [e1, e2, show off + ti.size - off - ti.size = 0 by omega]
      simp [flat_append]
    case h_2 b off m i _ _ =>
      obtain ⟨c, hb, h⟩ := look_spec h
      obtain ⟨p, q, h', h1, hl1⟩ := cutAt_spec h
      clear h
      split at h'
      case h_2 => exact h'.elim
      case h_1 kd n' xs r kd' z _ =>
        split at h'
        case h_2 => exact h'.elim
        case h_1 hn hk =>
          have hn := Nat.eq_of_beq_eq_true hn
          have hk := keq_spec hk
          subst hn; subst hk
          have h := appK_spec h'
          have hok := hI.wi.ok b c hb
          have hpq := segsOk_append.1 (h1 ▸ hok)
          have hxs : xs.length = m := hpq.2.1
          have hi : i.toNat < xs.length := by have := hp.1; have := hp.2; omega
          have hok' : SegsOk (p ++ (.ints kd m (xs.set i.toNat z) :: r)) := segsOk_append.2 ⟨hpq.1, by simp [Seg.Ok, hxs], hpq.2.2⟩
          have hcell := hI.wi.bx b c hb
          have hlp := hl1 hok
          have hfl : flat c.1 = flat p ++ (xs.map (Value.int kd) ++ flat r) := by rw [h1, flat_append]; rfl
          obtain ⟨i1, i2⟩ := setRow_inv hI hb hok'
          refine ⟨_, w.setRow (ad b) (flat (p ++ (.ints kd m (xs.set i.toNat z) :: r))).toArray, h, ?_, i1, i2⟩
          simp only [SV.den, Instr.storeAt, Instr.sureAddr, Sem.run_bind, Sem.run_pure, Result.andThen_ok]
          refine hrun _ _ ?_
          have := run_storeCells_at P (ad b) (off + i.toNat) c.2 (flat [.one (.int kd z)]) 0 (flat c.1).toArray w hcell (by simp [hfl, hlp, flat, Seg.cells]; omega) (flat_one hns)
          rw [this]
          congr 2
          apply congrArg List.toArray
          have e := ints_set (kd := kd) (z := z) hi (flat p) (flat r)
          simp only [Nat.add_zero, hfl, flat_append, flat, Seg.cells, List.append_nil, List.length_singleton] at e ⊢
          rw [← hlp, ← List.append_assoc, ← List.append_assoc, e]
end Go.Sx
