/-
  The quiet operations of the symbolic machine are sound: the rest, and all of them together.
-/
import Derived.Test.YteogjiadmgbmbaaDoorSxC
set_option linter.unusedVariables false
set_option linter.unusedSimpArgs false
namespace Go.Sx
open Go Go.RowKit
variable {P : Program} {T : Tab}

theorem foldl_set (off : Nat) : ∀ (vs : List Value) (k : Nat) (cells : Array Value), off + k + vs.length ≤ cells.size →
    ((vs.zipIdx k).foldl (fun (cs : Array Value) (p : Value × Nat) => cs.setIfInBounds (off + p.2) p.1) cells).toList = cells.toList.take (off + k) ++ vs ++ cells.toList.drop (off + k + vs.length)
  | [], k, cells, h => by simp
  | v :: r, k, cells, h => by
    simp only [List.zipIdx_cons, List.foldl_cons]
    rw [foldl_set off r (k + 1) (cells.setIfInBounds (off + k) v) (by simp at h ⊢; omega)]
    have := list_seg_step cells.toList (off + k) v r (by simp at h ⊢; omega)
    simpa [Array.toList_setIfInBounds, Nat.add_assoc] using this
theorem fill_one {place : Nat → Option (Nat × Nat)} {cells : Array Value} {j : Nat} {v : Value} {rest : List (Nat × Value)} {off sz : Nat} (hp : place j = some (off, sz)) (hs : v.cells.size = sz) (hb : off + sz ≤ cells.size) :
    Instr.fill place cells ((j, v) :: rest) = Instr.fill place (cells.toList.take off ++ v.cells.toList ++ cells.toList.drop (off + sz)).toArray rest := by
  have h1 : ¬ (v.cells.size ≠ sz ∨ off + v.cells.size > cells.size) := by rw [hs]; omega
  have h2 : (v.cells.zipIdx.foldl (fun cs (c, j) => cs.setIfInBounds (off + j) c) cells) = (cells.toList.take off ++ v.cells.toList ++ cells.toList.drop (off + sz)).toArray := by
    apply Array.ext'
    have := foldl_set off v.cells.toList 0 cells (by simp; omega)
    simp only [Nat.add_zero, Array.length_toList, hs] at this
    rw [← this, ← Array.foldl_toList]
    simp [Array.toList_zipIdx]
  simp only [Instr.fill, hp]
  rw [if_neg (by simpa using h1), h2]
theorem ints_set {kd : IntKind} {xs : List Int} {i : Nat} {z : Int} (hi : i < xs.length) (p r : List Value) :
    p ++ (xs.set i z).map (Value.int kd) ++ r = (p ++ xs.map (Value.int kd) ++ r).take (p.length + i) ++ [Value.int kd z] ++ (p ++ xs.map (Value.int kd) ++ r).drop (p.length + i + 1) := by
  apply List.ext_getElem?
  intro j
  simp only [List.append_assoc]
  by_cases h1 : j < p.length
  · rw [List.getElem?_append_left h1, List.getElem?_append_left (by simp; omega)]
    rw [List.getElem?_take, if_pos (by omega), List.getElem?_append_left h1]
  · rw [List.getElem?_append_right (by omega)]
    by_cases h2 : j - p.length < xs.length
    · rw [List.getElem?_append_left (by simpa using h2)]
      by_cases h3 : j - p.length = i
      · rw [List.getElem?_append_right (by simp; omega)]
        have : j - (List.take (p.length + i) (p ++ (xs.map (Value.int kd) ++ r))).length = 0 := by simp; omega
        rw [this]
        simp [h3, hi]
      · by_cases h4 : j - p.length < i
        · rw [List.getElem?_append_left (by simp; omega), List.getElem?_take, if_pos (by omega), List.getElem?_append_right (by omega), List.getElem?_append_left (by simpa using h2)]
          simp [Ne.symm h3]
        · rw [List.getElem?_append_right (by simp; omega)]
          have e : j - (List.take (p.length + i) (p ++ (xs.map (Value.int kd) ++ r))).length = (j - p.length - i - 1) + 1 := by simp; omega
          rw [e]
          simp only [List.cons_append, List.nil_append, List.getElem?_cons_succ, List.getElem?_drop]
          rw [List.getElem?_append_right (by omega), show p.length + i + 1 + (j - p.length - i - 1) - p.length = j - p.length by omega, List.getElem?_append_left (by simpa using h2)]
          simp [Ne.symm h3]
    · rw [List.getElem?_append_right (by simp; omega)]
      rw [List.getElem?_append_right (by simp; omega)]
      have e : j - (List.take (p.length + i) (p ++ (xs.map (Value.int kd) ++ r))).length = (j - p.length - i - 1) + 1 := by simp; omega
      rw [e]
      simp only [List.cons_append, List.nil_append, List.getElem?_cons_succ, List.getElem?_drop]
      rw [List.getElem?_append_right (by omega), show p.length + i + 1 + (j - p.length - i - 1) - p.length = j - p.length by omega, List.getElem?_append_right (by simp; omega)]
      simp

theorem fillK_spec {n : Nat} {w0 : Base} {ad : Nat → Nat} {s : St} {a : Act} {w : World} (hI : Inv n w0 ad s a w) {place : Nat → (Nat × Nat → Prop) → Prop} {pl : Nat → Option (Nat × Nat)}
    (hpl : ∀ j k, place j k → ∃ f, pl j = some f ∧ k f) : ∀ (parts : List (Nat × Operand)) (l : List Seg) (k : List Seg → Prop), SegsOk l → fillK s place l parts k →
      ∃ l', k l' ∧ SegsOk l' ∧ Instr.fill pl (flat l).toArray (parts.map fun p => (p.1, a.eval p.2)) = some (flat l').toArray
  | [], l, k, hok, h => ⟨l, h, hok, rfl⟩
  | (j, x) :: r, l, k, hok, h => by
    obtain ⟨f, hf, h⟩ := hpl _ _ h
    obtain ⟨y, h, hy, hyo⟩ := ev_spec hI h
    obtain ⟨ns, h, hns, hc⟩ := segsOf_spec h hyo
    split at h
    case h_2 => exact h.elim
    case h_1 hsz =>
     have hsz := Nat.eq_of_beq_eq_true hsz
     split at h
     case h_1 kd m xs kd' z g1 g2 g3 g4 =>
      split at h
      case h_2 => exact h.elim
      case h_1 hk hlt =>
        have hk := keq_spec hk
        subst hk
        have hlt : f.1 < m := Nat.lt_of_succ_le (Nat.le_of_ble_eq_true hlt)
        have hxs : xs.length = m := hok.1
        obtain ⟨l', hk, hl', hfill⟩ := fillK_spec hI hpl r [.ints kd m (xs.set f.1 z)] k ⟨by simp [Seg.Ok, hxs], trivial⟩ h
        refine ⟨l', hk, hl', ?_⟩
        have hs1 : f.2 = 1 := by rw [← hsz]; rfl
        have hcl : (a.eval x).cells.size = f.2 := by
          rw [hy, ← Array.length_toList, hc ad, flat_length hns, hsz]
        simp only [List.map_cons]
        rw [fill_one (off := f.1) (sz := f.2) (by rw [hf]) hcl (by simp [flat, Seg.cells, hxs, hs1]; omega), ← hfill]
        congr 2
        rw [hy, hc ad]
        have e := ints_set (kd := kd) (z := z) (xs := xs) (i := f.1) (by omega) [] []
        simp only [flat, Seg.cells, List.append_nil, List.nil_append, List.length_nil, Nat.zero_add, hs1] at e ⊢
        rw [e]
     case h_2 =>
      obtain ⟨p, q, h, h1, hl1⟩ := cutAt_spec h
      obtain ⟨mid, post, h, h2, hl2⟩ := cutAt_spec h
      have h := appK_spec h
      have h := appK_spec h
      have hpq := segsOk_append.1 (h1 ▸ hok)
      have hmp := segsOk_append.1 (h2 ▸ hpq.2)
      have hok' : SegsOk (p ++ (ns ++ post)) := segsOk_append.2 ⟨hpq.1, segsOk_append.2 ⟨hns, hmp.2⟩⟩
      obtain ⟨l', hk, hl', hfill⟩ := fillK_spec hI hpl r _ k hok' h
      refine ⟨l', hk, hl', ?_⟩
      have hlen : (flat p).length = f.1 := hl1 hok
      have hmid : (flat mid).length = f.2 := hl2 hpq.2
      have hcl : (a.eval x).cells.size = f.2 := by
        rw [hy, ← Array.length_toList, hc ad, flat_length hns, hsz]
      have hfl : flat l = flat p ++ (flat mid ++ flat post) := by rw [h1, flat_append, h2, flat_append]
      simp only [List.map_cons]
      rw [fill_one (off := f.1) (sz := f.2) (by rw [hf]) hcl (by simp [hfl, hlen, hmid]), ← hfill]
      congr 2
      rw [hy, hc ad]
      simp only [hfl, flat_append]
      rw [List.take_left' hlen, List.drop_append, List.drop_append, hlen, hmid]
      have e1 : (flat p).drop (f.1 + f.2) = [] := List.drop_eq_nil_of_le (by omega)
      have e2 : (flat mid).drop (f.1 + f.2 - f.1) = [] := List.drop_eq_nil_of_le (by omega)
      rw [e1, e2, show f.1 + f.2 - f.1 - f.2 = 0 by omega]
      simp

theorem build_sound (hT : TabOK P T) {n : Nat} {w0 : Base} {ad : Nat → Nat} {s : St} {a : Act} {w : World} (hI : Inv n w0 ad s a w) {t : TypeId} {parts : Array (Nat × Operand)} {k : SV → Prop}
    (h : look t T fun ti => match ti.agg, isRowD ti.d with
    | true, true => fillK s (placeK ti.d) ti.zero parts.toList fun l => k (.agg l)
    | _, _ => False) : ∃ x, k x ∧ x.Ok ∧ ∀ w', (Instr.build t (parts.map fun (i, x) => (i, a.eval x))).run P w' = .ok (x.den ad) w' := by
  obtain ⟨ti, ht, h⟩ := look_spec h
  have hO := hT t ti ht
  split at h
  case h_2 => exact h.elim
  case h_1 ha hrow =>
    obtain ⟨it, hit, hz⟩ : ∃ it, P.info? t = some it ∧ it.zero = some (.agg (flat ti.zero).toArray) := by
      have h1 := hO.zero
      have h2 := hO.zagg
      cases hq : P.info? t with
      | none => simp [hq] at h1
      | some it =>
        refine ⟨it, rfl, ?_⟩
        cases hz : it.zero with
        | none => simp [hq, hz] at h1
        | some z =>
          simp only [hq, hz, Option.map_some, Option.some.injEq] at h1 h2
          rw [ha] at h2
          cases z with
          | agg cs => simp only [Value.cells] at h1; rw [← h1]
          | _ => simp at h2
    have hd := hO.desc
    have fin : ∀ (pl : Nat → Option (Nat × Nat)), (∀ j k, placeK ti.d j k → ∃ f, pl j = some f ∧ k f) →
        (∀ z, P.built t z = Instr.fill pl (flat ti.zero).toArray z) → ∃ x, k x ∧ x.Ok ∧ ∀ w', (Instr.build t (parts.map fun (i, x) => (i, a.eval x))).run P w' = .ok (x.den ad) w' := by
      intro pl hpl hb
      obtain ⟨l', hk, hl', hf⟩ := fillK_spec hI hpl parts.toList ti.zero _ hO.zok h
      refine ⟨_, hk, hl', fun w' => run_build w' t _ _ ?_⟩
      rw [hb, ← hf]
      congr 1
      simp
    cases hdd : ti.d with
    | struct fl =>
      rw [hdd] at hd
      obtain ⟨fs, hu, hfs, _⟩ := hd
      refine fin (fun j => fl[j]?) (fun j k hk => ?_) (fun z => ?_)
      · rw [hdd] at hk
        obtain ⟨f, hf, hk⟩ := nthK_spec hk
        exact ⟨f, hf, hk⟩
      · simp [Program.built, hit, hu, hz, hfs, Value.cells]
    | array len e esz =>
      rw [hdd] at hd
      obtain ⟨hu, hsz⟩ := hd
      refine fin (fun j => some (j * esz, esz)) (fun j k hk => ⟨_, rfl, by rw [hdd] at hk; exact hk⟩) (fun z => ?_)
      cases hie : P.info? e with
      | none => simp [hie] at hsz
      | some ie =>
        simp [hie] at hsz
        subst hsz
        simp [Program.built, hit, hu, hz, hie, Value.cells]
    | _ => rw [hdd] at hrow; cases hrow

theorem optK_spec {n : Nat} {w0 : Base} {ad : Nat → Nat} {s : St} {a : Act} {w : World} (hI : Inv n w0 ad s a w) {o : Option Operand} {d : Int} {k : Int → Prop} (h : optK s o d k) :
    ∃ i, k i ∧ ((o = none ∧ i = d) ∨ ∃ x kd, o = some x ∧ a.eval x = .int kd i) := by
  cases o with
  | none => exact ⟨d, h, .inl ⟨rfl, rfl⟩⟩
  | some x =>
    obtain ⟨y, h, hy, _⟩ := ev_spec hI h
    cases y with
    | v z => cases z with
      | int kd i => exact ⟨i, h, .inr ⟨x, kd, rfl, hy⟩⟩
      | _ => exact (h : False).elim
    | _ => exact (h : False).elim

theorem run_sliceBound (kd : IntKind) (i : Int) (y : Nat) (c : BoundsCode) (h0 : 0 ≤ i) (h1 : i ≤ y) (w : World) : (Instr.sliceBound (.int kd i) y c).run P w = .ok i.toNat w := by
  simp [Instr.sliceBound, asIntOf, h0, h1]
theorem run_sliceBounds (isS : Bool) (m c : Nat) (lo hi : Option Value) (l r : Int) (hl : (lo = none ∧ l = 0) ∨ ∃ kd, lo = some (.int kd l)) (hr : (hi = none ∧ r = m) ∨ ((∃ kd, hi = some (.int kd r)) ∧ r ≤ c)) (h0 : 0 ≤ l) (h1 : l ≤ r) (w : World) :
    (Instr.sliceBounds isS m c lo hi none).run P w = .ok (l.toNat, r.toNat, c) w := by
  rcases hl with ⟨rfl, rfl⟩ | ⟨kd, rfl⟩ <;> rcases hr with ⟨rfl, rfl⟩ | ⟨⟨kd', rfl⟩, h2⟩
  · simp [Instr.sliceBounds]
  · simp [Instr.sliceBounds, run_sliceBound kd' r c _ (by omega) h2]
  · have := run_sliceBound (P := P) kd l m .sliceB h0 (by omega) w
    simp [Instr.sliceBounds, this]
  · have := run_sliceBound (P := P) kd l r.toNat .sliceB h0 (by omega) w
    simp [Instr.sliceBounds, run_sliceBound kd' r c _ (by omega) h2, this]
theorem qslice_sound (hT : TabOK P T) {n : Nat} {w0 : Base} {ad : Nat → Nat} {s : St} {a : Act} {w : World} (hI : Inv n w0 ad s a w) {t : TypeId} {x : SV} {lo hi : Option Operand} {k : SV → Prop} (hx : x.Ok)
    (h : qslice T s t x lo hi k) : ∃ y, k y ∧ y.Ok ∧ ∀ w', (Instr.sliceAt t (x.den ad) (lo.map a.eval) (hi.map a.eval) none).run P w' = .ok (y.den ad) w' := by
  obtain ⟨ti, ht, h⟩ := look_spec h
  have hd := (hT t ti ht).desc
  split at h
  case h_3 => exact h.elim
  case h_1 e esz A m c hfl _ =>
    rw [hfl] at hd
    obtain ⟨hu, hsz⟩ := hd
    obtain ⟨l, h, hl⟩ := optK_spec hI h
    obtain ⟨r, h, hr⟩ := optK_spec hI h
    obtain ⟨⟨h0, h1, h2⟩, hk⟩ := h
    refine ⟨_, hk, rfl, fun w' => ?_⟩
    have hb := run_sliceBounds (P := P) true m c (lo.map a.eval) (hi.map a.eval) l r (by rcases hl with ⟨rfl, rfl⟩ | ⟨y, kd, rfl, hy⟩; exact .inl ⟨rfl, rfl⟩; exact .inr ⟨kd, by simp [hy]⟩)
      (by rcases hr with ⟨rfl, rfl⟩ | ⟨y, kd, rfl, hy⟩; exact .inl ⟨rfl, rfl⟩; exact .inr ⟨⟨kd, by simp [hy]⟩, h2 rfl⟩) h0 h1 w'
    simp only [SV.den, Instr.sliceAt, Sem.run_bind, run_underlying hu, Result.andThen_ok, Instr.slice, hb, run_size_of hsz, Sem.run_pure, cutA]
  case h_2 z hfl _ =>
    rw [hfl] at hd
    obtain ⟨l, h, hl⟩ := optK_spec hI h
    obtain ⟨r, h, hr⟩ := optK_spec hI h
    obtain ⟨⟨h0, h1, h2⟩, hk⟩ := h
    refine ⟨_, hk, rfl, fun w' => ?_⟩
    have hb := run_sliceBounds (P := P) false z.size z.size (lo.map a.eval) (hi.map a.eval) l r (by rcases hl with ⟨rfl, rfl⟩ | ⟨y, kd, rfl, hy⟩; exact .inl ⟨rfl, rfl⟩; exact .inr ⟨kd, by simp [hy]⟩)
      (by rcases hr with ⟨rfl, rfl⟩ | ⟨y, kd, rfl, hy⟩; exact .inl ⟨rfl, rfl⟩; exact .inr ⟨⟨kd, by simp [hy]⟩, h2⟩) h0 h1 w'
    simp only [SV.den, Instr.sliceAt, Sem.run_bind, run_underlying (show P.underlying t = some .string from hd), Result.andThen_ok, Instr.slice, hb, Sem.run_pure]
    simp [hb]

theorem qlen_sound (hT : TabOK P T) {t ty : TypeId} {x : SV} {k : SV → Prop} (h : qlen T t x k) :
    ∃ y, k y ∧ y.Ok ∧ ∀ ad w', (Builtin.len_ #[t] ty #[x.den ad]).run P w' = .ok (y.den ad) w' := by
  obtain ⟨ti, ht, h⟩ := look_spec h
  have hd := (hT t ti ht).desc
  split at h
  case h_4 => exact h.elim
  case h_1 e esz A n c hfl _ =>
    rw [hfl] at hd
    exact ⟨_, h, rfl, fun ad w' => by simp [Builtin.len_, run_underlying hd.1, SV.den, goInt]⟩
  case h_2 s hfl _ =>
    rw [hfl] at hd
    exact ⟨_, h, rfl, fun ad w' => by simp [Builtin.len_, run_underlying (show P.underlying t = some .string from hd), SV.den, goInt]⟩
  case h_3 n e esz hfl _ =>
    rw [hfl] at hd
    exact ⟨_, h, rfl, fun ad w' => by simp [Builtin.len_, run_underlying hd.1, SV.den, goInt]⟩
theorem qcap_sound (hT : TabOK P T) {t ty : TypeId} {x : SV} {k : SV → Prop} (h : qcap T t x k) :
    ∃ y, k y ∧ y.Ok ∧ ∀ ad w', (Builtin.cap_ #[t] ty #[x.den ad]).run P w' = .ok (y.den ad) w' := by
  obtain ⟨ti, ht, h⟩ := look_spec h
  have hd := (hT t ti ht).desc
  split at h
  case h_2 => exact h.elim
  case h_1 e esz A n c hfl _ =>
    rw [hfl] at hd
    exact ⟨_, h, rfl, fun ad w' => by simp [Builtin.cap_, run_underlying hd.1, SV.den, goInt]⟩
theorem qmm_sound {mx : Bool} {ty : TypeId} {x y : SV} {k : SV → Prop} {ts : Array TypeId} (h : qmm mx x y k) :
    ∃ z, k z ∧ z.Ok ∧ ∀ ad w', ((if mx = true then Builtin.max_ ts ty #[x.den ad, y.den ad] else Builtin.min_ ts ty #[x.den ad, y.den ad] : Sem Value)).run P w' = .ok (z.den ad) w' := by
  unfold qmm at h
  split at h
  case h_2 => exact h.elim
  case h_1 =>
    cases mx
    · exact ⟨_, h, rfl, fun ad w' => by simp [Builtin.min_, Builtin.min2, SV.den]⟩
    · exact ⟨_, h, rfl, fun ad w' => by simp [Builtin.max_, Builtin.max2, SV.den]⟩
theorem qun_sound {op : UnOp} {x : SV} {k : SV → Prop} (h : qun op x k) : ∃ z, k z ∧ z.Ok ∧ ∀ ad w', (Op.unary op (x.den ad)).run P w' = .ok (z.den ad) w' := by
  unfold qun at h
  split at h
  · exact ⟨_, h, trivial, fun ad w' => rfl⟩
  · exact ⟨_, h, trivial, fun ad w' => rfl⟩
  · exact ⟨_, h, rfl, fun ad w' => rfl⟩
  · exact ⟨_, h, rfl, fun ad w' => rfl⟩
  · exact h.elim
theorem qconv_sound (hT : TabOK P T) {src dst : TypeId} {x : SV} {k : SV → Prop} (h : qconv T src dst x k) : ∃ z, k z ∧ z.Ok ∧ ∀ ad w', (convert src dst (x.den ad)).run P w' = .ok (z.den ad) w' := by
  obtain ⟨ts, hs, h⟩ := look_spec h
  obtain ⟨td, ht, h⟩ := look_spec h
  have hd := (hT dst td ht).desc
  have hc := (hT src ts hs).desc
  split at h
  case h_3 => exact h.elim
  case h_1 k1 kd k2 i h1 h2 _ _ =>
    rw [h1] at hc
    rw [h2] at hd
    exact ⟨_, h, rfl, fun ad w' => by simp [convert, run_underlying (show P.underlying src = some (.int k1) from hc), run_underlying (show P.underlying dst = some (.int kd) from hd), SV.den, Conv.intToInt]⟩
  case h_2 s h1 h2 _ _ =>
    rw [h1] at hc
    rw [h2] at hd
    exact ⟨_, h, rfl, fun ad w' => by simp [convert, run_underlying (show P.underlying src = some .string from hc), run_underlying (show P.underlying dst = some .string from hd), SV.den]⟩

theorem qcall_sound (hT : TabOK P T) {n : Nat} {w0 : Base} {ad : Nat → Nat} {s : St} {a : Act} {w : World} (hI : Inv n w0 ad s a w) {c : Call} {ty : TypeId} {k : SV → Prop} (h : qcall T s c k) :
    ∃ x, k x ∧ x.Ok ∧ ∀ w', (do let d ← resolve a.eval c ty; invoke d.target d.args : Sem Next).run P w' = .ok (.value (x.den ad)) w' := by
  obtain ⟨cl, args, tys⟩ := c
  obtain ⟨args⟩ := args
  obtain ⟨tys⟩ := tys
  unfold qcall at h
  split at h
  case h_1 hc =>
    simp only at hc
    subst hc
    split at h
    case h_2 => exact h.elim
    case h_1 x t hx ht =>
      simp only at hx ht
      subst hx; subst ht
      obtain ⟨y, h, hy, hyo⟩ := ev_spec hI h
      obtain ⟨z, hz, hzo, hr⟩ := qlen_sound hT (ty := ty) h
      refine ⟨z, hz, hzo, fun w' => ?_⟩
      simp [resolve, invoke, builtin, hy, hr]
  case h_2 hc =>
    simp only at hc
    subst hc
    split at h
    case h_2 => exact h.elim
    case h_1 x t hx ht =>
      simp only at hx ht
      subst hx; subst ht
      obtain ⟨y, h, hy, hyo⟩ := ev_spec hI h
      obtain ⟨z, hz, hzo, hr⟩ := qcap_sound hT (ty := ty) h
      refine ⟨z, hz, hzo, fun w' => ?_⟩
      simp [resolve, invoke, builtin, hy, hr]
  case h_3 hc =>
    simp only at hc
    subst hc
    split at h
    case h_2 => exact h.elim
    case h_1 x x' hx =>
      simp only at hx
      subst hx
      obtain ⟨y, h, hy, hyo⟩ := ev_spec hI h
      obtain ⟨y', h, hy', hyo'⟩ := ev_spec hI h
      obtain ⟨z, hz, hzo, hr⟩ := qmm_sound (P := P) (ty := ty) (ts := ⟨tys⟩) h
      refine ⟨z, hz, hzo, fun w' => ?_⟩
      have := hr ad w'
      rw [if_pos rfl] at this
      simp [resolve, invoke, builtin, hy, hy', this]
  case h_4 hc =>
    simp only at hc
    subst hc
    split at h
    case h_2 => exact h.elim
    case h_1 x x' hx =>
      simp only at hx
      subst hx
      obtain ⟨y, h, hy, hyo⟩ := ev_spec hI h
      obtain ⟨y', h, hy', hyo'⟩ := ev_spec hI h
      obtain ⟨z, hz, hzo, hr⟩ := qmm_sound (P := P) (ty := ty) (ts := ⟨tys⟩) h
      refine ⟨z, hz, hzo, fun w' => ?_⟩
      have := hr ad w'
      rw [if_neg (by simp)] at this
      simp [resolve, invoke, builtin, hy, hy', this]
  case h_5 => exact h.elim

/-- All of them. -/
theorem qop_sound (hT : TabOK P T) {n : Nat} {w0 : Base} {ad : Nat → Nat} {m s : St} {a : Act} {w : World} (hI : Inv n w0 ad s a w) (hm : ∀ b c, lk b m.boxes = some c → SegsOk c.1) {o : Oper} {k : SV → Prop} (h : qop P T m s o.op k) :
    ∃ x, k x ∧ x.Ok ∧ ∀ w', SM ad m w' → (execOp a.eval o).run P w' = .ok (.value (x.den ad)) w' := by
  unfold qop at h
  unfold execOp
  split at h
  case h_1 x ho =>
    obtain ⟨y, h, hy, hyo⟩ := ev_spec hI h
    exact ⟨y, h, hyo, fun w' _ => by rw [ho]; simp [hy]⟩
  case h_2 x ho =>
    obtain ⟨y, h, hy, hyo⟩ := ev_spec hI h
    exact ⟨y, h, hyo, fun w' _ => by rw [ho]; simp [hy]⟩
  case h_3 c x y ho =>
    obtain ⟨z, h, hz, hzo⟩ := ev_spec hI h
    split at h
    case h_4 => exact h.elim
    case h_1 =>
      obtain ⟨y, h, hy, hyo⟩ := ev_spec hI h
      exact ⟨y, h, hyo, fun w' _ => by rw [ho]; simp [hz, SV.den, asBool, hy]⟩
    case h_2 =>
      obtain ⟨y, h, hy, hyo⟩ := ev_spec hI h
      exact ⟨y, h, hyo, fun w' _ => by rw [ho]; simp [hz, SV.den, asBool, hy]⟩
    case h_3 c =>
      obtain ⟨u, h, hu, huo⟩ := ev_spec hI h
      obtain ⟨v, h, hv, hvo⟩ := ev_spec hI h
      obtain ⟨p, h, hp⟩ := asB_spec h
      obtain ⟨q, h, hq⟩ := asB_spec h
      exact ⟨_, h, rfl, fun w' _ => by rw [ho]; cases c <;> simp [hz, SV.den, asBool, hu, hv, hp, hq]⟩
  case h_4 t p ho =>
    obtain ⟨y, h, hy, hyo⟩ := ev_spec hI h
    obtain ⟨x, hk, hx, hr⟩ := qload_sound hT hm hyo h
    exact ⟨x, hk, hx, fun w' hw => by rw [ho]; simp [hy, hr ad w' hw]⟩
  case h_5 t p j ho =>
    obtain ⟨y, h, hy, hyo⟩ := ev_spec hI h
    obtain ⟨x, hk, hx, hr⟩ := qfield_sound hT hyo h
    exact ⟨x, hk, hx, fun w' hw => by rw [ho]; simp [hy, hr ad w']⟩
  case h_6 t p i ho =>
    obtain ⟨y, h, hy, hyo⟩ := ev_spec hI h
    obtain ⟨z, h, hz, hzo⟩ := ev_spec hI h
    obtain ⟨x, hk, hx, hr⟩ := qindexAddr_sound hT hyo h
    exact ⟨x, hk, hx, fun w' hw => by rw [ho]; simp [hy, hz, hr ad w']⟩
  case h_7 t p i ho =>
    obtain ⟨y, h, hy, hyo⟩ := ev_spec hI h
    obtain ⟨z, h, hz, hzo⟩ := ev_spec hI h
    obtain ⟨x, hk, hx, hr⟩ := qindex_sound hT hyo h
    exact ⟨x, hk, hx, fun w' hw => by rw [ho]; simp [hy, hz, hr ad w']⟩
  case h_8 p i ho =>
    obtain ⟨y, h, hy, hyo⟩ := ev_spec hI h
    split at h
    case h_2 => exact h.elim
    case h_1 l =>
      obtain ⟨x, hx, hk⟩ := nthK_spec h
      refine ⟨x, hk, oks_get hyo hx, fun w' hw => ?_⟩
      rw [ho]
      have := dens_get ad hx
      simp [hy, SV.den, Instr.extract, this]
  case h_9 op t x y _ ho =>
    obtain ⟨u, h, hu, huo⟩ := ev_spec hI h
    obtain ⟨v, h, hv, hvo⟩ := ev_spec hI h
    obtain ⟨z, hk, hz, hr⟩ := qbin_sound hT huo hvo h
    refine ⟨z, hk, hz, fun w' hw => ?_⟩
    rw [ho]
    have := hr ad w' x y
    simp only [Sem.run_bind, hu, hv] at this ⊢
    rw [this]
    rfl
  case h_10 op t x ho =>
    obtain ⟨u, h, hu, huo⟩ := ev_spec hI h
    obtain ⟨z, hk, hz, hr⟩ := qun_sound (P := P) h
    exact ⟨z, hk, hz, fun w' hw => by rw [ho]; simp [hu, hr ad w']⟩
  case h_11 src dst x ho =>
    obtain ⟨u, h, hu, huo⟩ := ev_spec hI h
    obtain ⟨z, hk, hz, hr⟩ := qconv_sound hT h
    exact ⟨z, hk, hz, fun w' hw => by rw [ho]; simp [hu, hr ad w']⟩
  case h_12 t x lo hi mx ho =>
    split at h
    case h_2 => exact h.elim
    case h_1 =>
      obtain ⟨u, h, hu, huo⟩ := ev_spec hI h
      obtain ⟨z, hk, hz, hr⟩ := qslice_sound hT hI huo h
      exact ⟨z, hk, hz, fun w' hw => by rw [ho]; simp [hu, hr w']⟩
  case h_13 t parts ho =>
    obtain ⟨z, hk, hz, hr⟩ := build_sound hT hI h
    exact ⟨z, hk, hz, fun w' hw => by rw [ho]; simp only [Sem.run_bind, hr w', Result.andThen_ok, Sem.run_pure]⟩
  case h_14 fn first caps ho =>
    split at h
    case h_2 => exact h.elim
    case h_1 f hf =>
      obtain ⟨ys, hk, hys, hyo⟩ := evs_spec hI h
      refine ⟨_, hk, hyo, fun w' hw => ?_⟩
      rw [ho]
      obtain ⟨first⟩ := first
      obtain ⟨caps⟩ := caps
      simp only at hf hys
      subst hf
      simp [Instr.makeFunc, SV.den, ← hys]
  case h_15 x ho =>
    obtain ⟨y, h, hy, hyo⟩ := ev_spec hI h
    split at h
    case h_5 => exact h.elim
    case h_1 b off => exact ⟨_, h, hyo, fun w' hw => by rw [ho]; simp [hy, SV.den]⟩
    case h_2 b off m i => exact ⟨_, h, hyo, fun w' hw => by rw [ho]; simp [hy, SV.den]⟩
    case h_3 A m =>
      refine ⟨_, h, hyo, fun w' hw => ?_⟩
      obtain ⟨a', rfl⟩ := Option.ne_none_iff_exists'.1 (show A ≠ none from hyo)
      rw [ho]; simp [hy, SV.den]
    case h_4 f l => exact ⟨_, h, hyo, fun w' hw => by rw [ho]; simp [hy, SV.den]⟩
  case h_16 c ho =>
    obtain ⟨x, hk, hx, hr⟩ := qcall_sound hT hI (ty := o.type) h
    exact ⟨x, hk, hx, fun w' hw => by rw [ho]; exact hr w'⟩
  case h_17 => exact h.elim
end Go.Sx
