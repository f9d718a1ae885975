/-
  The quiet operations of the symbolic machine are sound: each comes, in every world of which the state speaks, to the value that was reckoned.
-/
import Derived.Test.YteogjiadmgbmbaaDoorSxB
set_option linter.unusedVariables false
set_option linter.unusedSimpArgs false
namespace Go.Sx
open Go Go.RowKit
variable {P : Program} {T : Tab}

theorem addr_add_add (a : Addr) (n m : Nat) : (a.add n).add m = a.add (n + m) := by
  unfold Addr.add
  by_cases hn : n = 0 <;> by_cases hm : m = 0 <;> simp [hn, hm, Nat.add_assoc]

theorem box_cells {l p q r : List Seg} {off : Nat} {m : St} {ad : Nat → Nat} {b : Nat} {c : List Seg × TypeId} (hb : lk b m.boxes = some c) (hok : SegsOk c.1)
    (h1 : c.1 = p ++ q) (h2 : q = l ++ r) (hp : SegsOk c.1 → (flat p).length = off) {w : World} (hw : SM ad m w) :
    ∀ j v, (flat l)[j]? = some v → w.cell? ((⟨ad b, off, none⟩ : Addr).add j) = some v := by
  intro j v hj
  rw [cell_of_block (hw.bx b c hb), h1, h2, flat_append, flat_append]
  have hl := hp hok
  rw [List.getElem?_append_right (by omega), hl, show off + j - off = j by omega]
  rw [List.getElem?_append_left (List.getElem?_eq_some_iff.1 hj).1]
  exact hj

theorem qload_sound (hT : TabOK P T) {m : St} {t : TypeId} {p : SV} {k : SV → Prop} (hm : ∀ b c, lk b m.boxes = some c → SegsOk c.1) (hp : p.Ok) (h : qload P T m t p k) :
    ∃ x, k x ∧ x.Ok ∧ ∀ ad w, SM ad m w → (Instr.loadAt t (p.den ad)).run P w = .ok (x.den ad) w := by
  cases p with
  | ptr b off =>
    obtain ⟨ti, ht, h⟩ := look_spec h
    obtain ⟨c, hc, h⟩ := look_spec h
    obtain ⟨p, q, h, h1, hl1⟩ := cutAt_spec h
    obtain ⟨l, r, h, h2, hl2⟩ := cutAt_spec h
    have hok := hm b c hc
    have hokq : SegsOk q := (segsOk_append.1 (h1 ▸ hok)).2
    have hokl : SegsOk l := (segsOk_append.1 (h2 ▸ hokq)).1
    obtain ⟨x, hk, hx, hd⟩ := mkSV_spec h hokl
    refine ⟨x, hk, hx, fun ad w hw => ?_⟩
    rw [hd]
    simp only [Instr.loadAt, SV.den, Instr.sureAddr, Sem.run_bind, Sem.run_pure, Result.andThen_ok]
    rcases loadVar_run (hT t ti ht) w ⟨ad b, off, none⟩ (flat l) (hl2 hokq) (box_cells hc hok h1 h2 hl1 hw) with h3 | ⟨h3, h4⟩
    · exact h3
    · rw [h3] at h
      have : (flat l).length = 1 := by
        match l, h with
        | [.one v], _ => rfl
      exact absurd ((hl2 hokq).symm.trans this) h4
  | eptr b off n i =>
    obtain ⟨ti, ht, h⟩ := look_spec h
    split at h
    case h_2 => exact h.elim
    case h_1 ha hs =>
      obtain ⟨c, hc, h⟩ := look_spec h
      obtain ⟨p, q, h, h1, hl1⟩ := cutAt_spec h
      split at h
      case h_2 => exact h.elim
      case h_1 kd n' xs r =>
        split at h
        case h_2 => exact h.elim
        case h_1 hn =>
          have hn := Nat.eq_of_beq_eq_true hn
          subst hn
          have hok := hm b c hc
          have hokq : SegsOk (.ints kd n xs :: r) := (segsOk_append.1 (h1 ▸ hok)).2
          have hxs : xs.length = n := hokq.1
          have hi : i.toNat < xs.length := by have := hp.1; have := hp.2; omega
          refine ⟨_, h, rfl, fun ad w hw => ?_⟩
          have hcell : w.cell? ⟨ad b, off + i.toNat, none⟩ = some (.int kd (xs.getD i.toNat 0)) := by
            have := cell_of_block (hw.bx b c hc) off i.toNat
            rw [Addr.add_mid] at this
            rw [this, h1, flat_append]
            have hl := hl1 hok
            rw [List.getElem?_append_right (by omega), hl, show off + i.toNat - off = i.toNat by omega]
            simp [flat, Seg.cells, List.getElem?_append_left, hi]
          have hag := (hT t ti ht).run_agg w
          rw [ha] at hag
          simp [Instr.loadAt, SV.den, Instr.sureAddr, loadVar, hag, hcell]
  | xptr A n =>
    obtain ⟨x, hk, hx, a, rfl, hr⟩ := h.prf
    exact ⟨x, hk, hx, fun ad w hw => by
      simp only [Instr.loadAt, SV.den, Option.map_some, Instr.sureAddr, Sem.run_bind, Sem.run_pure, Result.andThen_ok]
      exact hr ad w hw.pl⟩
  | _ => exact (h : False).elim

theorem places_get : ∀ {l : List Field} {fl : List (Nat × Nat)}, l.mapM (fun f => (P.info? f.type).map fun i => (f.offset, i.size)) = some fl → ∀ (j : Nat) (p : Nat × Nat), fl[j]? = some p → ∃ f : Field, l[j]? = some f ∧ f.offset = p.1 ∧ (P.info? f.type).map (·.size) = some p.2
  | [], fl, h => fun j p hj => by simp at h; subst h; simp at hj
  | f :: r, fl, h => fun j p hj => by
    simp only [List.mapM_cons, Option.bind_eq_bind, Option.pure_def] at h
    cases hi : P.info? f.type with
    | none => simp [hi] at h
    | some i =>
      cases hr : r.mapM (fun f => (P.info? f.type).map fun i => (f.offset, i.size)) with
      | none => simp [hi, hr] at h
      | some rest =>
        simp [hi, hr] at h
        subst h
        cases j with
        | zero => simp at hj; subst hj; exact ⟨f, rfl, rfl, by simp [hi]⟩
        | succ j => exact places_get hr j p (by simpa using hj)
theorem qfield_sound (hT : TabOK P T) {t : TypeId} {p : SV} {j : Nat} {k : SV → Prop} (hp : p.Ok) (h : qfield T t p j k) :
    ∃ x, k x ∧ x.Ok ∧ ∀ ad w, (Instr.fieldAt t (p.den ad) j).run P w = .ok (x.den ad) w := by
  obtain ⟨ti, ht, h⟩ := look_spec h
  have hd := (hT t ti ht).desc
  split at h
  case h_2 => exact h.elim
  case h_1 fl hfl =>
    rw [hfl] at hd
    obtain ⟨fs, hu, hfs, hall⟩ := hd
    obtain ⟨f, hf, h⟩ := nthK_spec h
    obtain ⟨g, hg, ho, hz⟩ := places_get hfs j f hf
    rw [Array.getElem?_toList] at hg
    have hne : f.2 ≠ 0 := by simpa using List.all_eq_true.1 hall f (List.mem_of_getElem? hf)
    have hpl : ∀ (a : Addr) (w : World), (fieldPlace a g).run P w = .ok (a.add f.1) w := fun a w => by
      have := run_size_of hz w
      simp [fieldPlace, this, hne, ho]
    cases p with
    | ptr b off => exact ⟨_, h, trivial, fun ad w => by simp [Instr.fieldAt, run_underlying hu, hg, SV.den, Instr.sureAddr, hpl, Addr.add_mid]⟩
    | xptr A n =>
      obtain ⟨a, rfl⟩ := Option.ne_none_iff_exists'.1 hp
      exact ⟨_, h, by simp [SV.Ok], fun ad w => by simp [Instr.fieldAt, run_underlying hu, hg, SV.den, Instr.sureAddr, hpl, addr_add_add]⟩
    | _ => exact (h : False).elim

theorem qindexAddr_sound (hT : TabOK P T) {t : TypeId} {p i : SV} {k : SV → Prop} (hp : p.Ok) (h : qindexAddr T t p i k) :
    ∃ x, k x ∧ x.Ok ∧ ∀ ad w, (Instr.indexAt t (p.den ad) (i.den ad)).run P w = .ok (x.den ad) w := by
  obtain ⟨ti, ht, h⟩ := look_spec h
  have hd := (hT t ti ht).desc
  split at h
  case h_3 => exact h.elim
  case h_1 e esz A n c kd i hfl _ =>
    rw [hfl] at hd
    obtain ⟨hu, hz⟩ := hd
    obtain ⟨⟨h0, h1, hA⟩, h⟩ := h
    obtain ⟨a, rfl⟩ := Option.ne_none_iff_exists'.1 hA
    refine ⟨_, h, by simp [SV.Ok], fun ad w => ?_⟩
    simp [Instr.indexAt, asIntOf, SV.den, run_underlying hu, h0, h1, run_size_of hz]
  case h_2 len e esz b off kd i hfl _ =>
    rw [hfl] at hd
    obtain ⟨hu, hz⟩ := hd
    obtain ⟨⟨h0, h1⟩, h⟩ := h
    split at h
    case h_1 he =>
      have he := Nat.eq_of_beq_eq_true he
      subst he
      refine ⟨_, h, ⟨h0, h1⟩, fun ad w => ?_⟩
      simp [Instr.indexAt, asIntOf, SV.den, run_underlying hu, h0, h1, run_size_of hz, Instr.sureAddr, Addr.add_mid]
    case h_2 =>
      refine ⟨_, h, trivial, fun ad w => ?_⟩
      simp [Instr.indexAt, asIntOf, SV.den, run_underlying hu, h0, h1, run_size_of hz, Instr.sureAddr, Addr.add_mid]

theorem qindex_sound (hT : TabOK P T) {t : TypeId} {p i : SV} {k : SV → Prop} (hp : p.Ok) (h : qindex T t p i k) :
    ∃ x, k x ∧ x.Ok ∧ ∀ ad w, (Instr.index t (p.den ad) (i.den ad)).run P w = .ok (x.den ad) w := by
  obtain ⟨ti, ht, h⟩ := look_spec h
  have hd := (hT t ti ht).desc
  split at h
  case h_3 => exact h.elim
  case h_1 len e esz kd n xs kd' i hfl _ =>
    rw [hfl] at hd
    obtain ⟨hu, hz⟩ := hd
    obtain ⟨te, hte, h'⟩ := look_spec h
    clear h
    split at h'
    case h_2 => exact h'.elim
    case h_1 ha he hn =>
      have he := Nat.eq_of_beq_eq_true he
      have hn := Nat.eq_of_beq_eq_true hn
      subst he
      subst hn
      obtain ⟨⟨h0, h1⟩, h⟩ := h'
      have hxs : xs.length = n := hp.1
      refine ⟨_, h, rfl, fun ad w => ?_⟩
      have hag := (hT e te hte).run_agg w
      rw [ha] at hag
      have hi : i.toNat < xs.length := by omega
      simp [Instr.index, asIntOf, SV.den, run_underlying hu, h0, h1, run_size_of hz, part, hag, flat, Seg.cells, hi]
  case h_2 s kd i hfl _ =>
    rw [hfl] at hd
    obtain ⟨⟨h0, h1⟩, h⟩ := h
    refine ⟨_, h, rfl, fun ad w => ?_⟩
    have hi : i.toNat < s.size := by omega
    have he : s[i.toNat]? = some (s.data.toList.getD i.toNat 0) := by
      have hi' : i.toNat < s.data.toList.length := by simpa using hi
      rw [getElem?_pos s i.toNat hi]
      simp only [List.getD_eq_getElem?_getD, List.getElem?_eq_getElem hi', Option.getD_some]
      rfl
    simp [Instr.index, asIntOf, SV.den, run_underlying (show P.underlying t = some .string from hd), h0, he, bAt]

theorem evs_spec {n : Nat} {w0 : Base} {ad : Nat → Nat} {s : St} {a : Act} {w : World} (h : Inv n w0 ad s a w) {l : List Operand} {k : List SV → Prop} (he : evs s l k) :
    ∃ ys, k ys ∧ l.map a.eval = SV.dens ad ys ∧ SV.Oks ys := by
  induction l generalizing k with
  | nil => exact ⟨[], he, rfl, trivial⟩
  | cons x r ih =>
    obtain ⟨y, hy, hv, ho⟩ := ev_spec h he
    obtain ⟨ys, hys, hvs, hos⟩ := ih hy
    exact ⟨y :: ys, hys, by simp [SV.dens, hv, hvs], ho, hos⟩
theorem oks_get {l : List SV} (h : SV.Oks l) {i : Nat} {x : SV} (hx : l[i]? = some x) : x.Ok := by
  induction l generalizing i with
  | nil => simp at hx
  | cons y r ih =>
    cases i with
    | zero => simp at hx; subst hx; exact h.1
    | succ i => exact ih h.2 (by simpa using hx)
theorem dens_get (ad : Nat → Nat) {l : List SV} {i : Nat} {x : SV} (hx : l[i]? = some x) : (SV.dens ad l)[i]? = some (x.den ad) := by
  rw [SV.dens_map]; simp [hx]

theorem nilBin_spec {op : BinOp} {z : Bool} {k : SV → Prop} (h : nilBin op z k) : ∃ b, k (.v (.bool b)) ∧ ((op = .eql ∧ b = z) ∨ (op = .neq ∧ b = !z)) := by
  cases op <;> first | exact ⟨_, h, .inl ⟨rfl, rfl⟩⟩ | exact ⟨_, h, .inr ⟨rfl, rfl⟩⟩ | exact (h : False).elim
theorem boolBin_spec {op : BinOp} {a b : Bool} {k : SV → Prop} (h : boolBin op a b k) : ∃ c, k (.v (.bool c)) ∧ ((op = .eql ∧ c = decide (a = b)) ∨ (op = .neq ∧ c = !decide (a = b))) := by
  cases op <;> first | exact ⟨_, h, .inl ⟨rfl, rfl⟩⟩ | exact ⟨_, h, .inr ⟨rfl, rfl⟩⟩ | exact (h : False).elim

theorem run_guard_plain (op : BinOp) (t : TypeId) (x y : Operand) (a b : Value) (h : (∀ c, a ≠ .agg c) ∧ a ≠ .nilIface) (w : World) : (eqGuard op t x y a b).run P w = .ok () w := by
  cases op <;> cases a <;> first | rfl | exact absurd rfl h.2 | exact absurd rfl (h.1 _)

theorem bool_run {t : TypeId} {op : BinOp} {a b c : Bool} (hu : P.underlying t = some .bool) (h : (op = .eql ∧ c = decide (a = b)) ∨ (op = .neq ∧ c = !decide (a = b))) (w : World) :
    (binOp op t (.bool a) (.bool b)).run P w = .ok (.bool c) w := by
  have he : (Op.equal t (.bool a) (.bool b)).run P w = .ok (decide (a = b)) w := by
    unfold Op.equal
    rw [show Op.maxDepth = 9999 + 1 from rfl, Op.equalIn]
    simp [run_underlying hu]
    cases a <;> cases b <;> rfl
  rcases h with ⟨rfl, rfl⟩ | ⟨rfl, rfl⟩ <;> simp [binOp, he]

theorem nil_run {t e : TypeId} {op : BinOp} {A : Option Addr} {n c n' c' : Nat} {b : Bool} (hu : P.underlying t = some (.slice e)) (h : (op = .eql ∧ b = A.isNone) ∨ (op = .neq ∧ b = !A.isNone)) (w : World) :
    (binOp op t (.slice A n c) (.slice none n' c')).run P w = .ok (.bool b) w := by
  have he : (Op.equal t (.slice A n c) (.slice none n' c')).run P w = .ok A.isNone w := by
    unfold Op.equal
    rw [show Op.maxDepth = 9999 + 1 from rfl, Op.equalIn]
    cases A <;> simp [run_underlying hu]
  rcases h with ⟨rfl, rfl⟩ | ⟨rfl, rfl⟩ <;> simp [binOp, he]

theorem qbin_sound (hT : TabOK P T) {op : BinOp} {t : TypeId} {x y : SV} {k : SV → Prop} (hx : x.Ok) (hy : y.Ok) (h : qbin P T op t x y k) :
    ∃ z, k z ∧ z.Ok ∧ ∀ ad w ox oy, (do eqGuard op t ox oy (x.den ad) (y.den ad); binOp op t (x.den ad) (y.den ad)).run P w = .ok (z.den ad) w := by
  unfold qbin at h
  split at h
  case h_1 kd a kd' b =>
    obtain ⟨z, hz, hok, hr⟩ := intBin_spec (P := P) t h
    refine ⟨.v z, hz, hok, fun ad w ox oy => ?_⟩
    simp only [SV.den, Sem.run_bind]
    rw [run_guard_plain _ _ _ _ _ _ ⟨by simp, by simp⟩]
    simpa using hr w
  case h_2 a b =>
    obtain ⟨z, hz, hok, hr⟩ := strBin_spec (P := P) t h
    refine ⟨.v z, hz, hok, fun ad w ox oy => ?_⟩
    simp only [SV.den, Sem.run_bind]
    rw [run_guard_plain _ _ _ _ _ _ ⟨by simp, by simp⟩]
    simpa using hr w
  case h_3 l l' =>
    split at h
    case h_3 => exact h.elim
    case h_1 =>
      obtain ⟨b, hr, hk⟩ := h.prf
      refine ⟨_, hk, rfl, fun ad w ox oy => ?_⟩
      have := hr w ox oy
      simp only [Sem.run_bind] at this
      simp only [SV.den, binOp, Sem.run_bind]
      revert this
      generalize (eqGuard .eql t ox oy (.agg (flat l).toArray) (.agg (flat l').toArray)).run P w = g
      cases g with
      | ok u w' => intro this; simp only [Result.andThen_ok] at this ⊢; rw [this]; rfl
      | halt h w' => intro this; cases this
    case h_2 =>
      obtain ⟨b, hr, hk⟩ := h.prf
      refine ⟨_, hk, rfl, fun ad w ox oy => ?_⟩
      have := hr w ox oy
      simp only [Sem.run_bind] at this
      have hg : ∀ a b, eqGuard .neq t ox oy a b = eqGuard .eql t ox oy a b := fun a b => by simp [eqGuard]
      simp only [SV.den, binOp, Sem.run_bind, hg]
      revert this
      generalize (eqGuard .eql t ox oy (.agg (flat l).toArray) (.agg (flat l').toArray)).run P w = g
      cases g with
      | ok u w' => intro this; simp only [Result.andThen_ok] at this ⊢; rw [this]; rfl
      | halt h w' => intro this; cases this
  case h_4 A n c n' c' =>
    obtain ⟨ti, ht, h⟩ := look_spec h
    have hd := (hT t ti ht).desc
    split at h
    case h_2 => exact h.elim
    case h_1 e esz hfl =>
      rw [hfl] at hd
      obtain ⟨b, hk, hb⟩ := nilBin_spec h
      refine ⟨_, hk, rfl, fun ad w ox oy => ?_⟩
      simp only [SV.den, Sem.run_bind]
      rw [run_guard_plain _ _ _ _ _ _ ⟨by simp, by simp⟩]
      simpa using nil_run hd.1 hb w
  case h_5 =>
    obtain ⟨ti, ht, h⟩ := look_spec h
    have hd := (hT t ti ht).desc
    split at h
    case h_2 => exact h.elim
    case h_1 hfl =>
      rw [hfl] at hd
      obtain ⟨a, h, ha⟩ := asB_spec h
      obtain ⟨b, h, hb⟩ := asB_spec h
      obtain ⟨c, hk, hc⟩ := boolBin_spec h
      refine ⟨_, hk, rfl, fun ad w ox oy => ?_⟩
      rw [ha, hb]
      simp only [SV.den, Sem.run_bind]
      rw [run_guard_plain _ _ _ _ _ _ ⟨by simp, by simp⟩]
      simpa using bool_run hd hc w
end Go.Sx
