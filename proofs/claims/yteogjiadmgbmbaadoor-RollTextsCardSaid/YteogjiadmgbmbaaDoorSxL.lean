/-
  The rules of the symbolic machine: copies into rows, rows that grow by cells of nothing, calls that write what they are given.
-/
import Derived.Test.YteogjiadmgbmbaaDoorSxK
import Derived.Lib.Overlaps
set_option linter.unusedVariables false
set_option linter.unusedSimpArgs false
namespace Go.Sx
open Go Go.RowKit
variable {P : Program} {T : Tab}

theorem Own.base {w : World} {b b' : Nat} {e : TypeId} {size : Nat} {A : Option Addr} {n c : Nat} {xs : List Value} (h : Own w b e size A n c xs) (hb : b' ≤ b) : Own w b' e size A n c xs := by
  rcases h with ⟨⟨hl, h | ⟨g', cap, cur, h, h1, h2⟩⟩, hc⟩ | h
  · exact .inl ⟨⟨hl, .inl h⟩, hc⟩
  · exact .inl ⟨⟨hl, .inr ⟨g', cap, cur, h, Nat.le_trans hb h1, h2⟩⟩, hc⟩
  · exact .inr h
theorem cutA_own {g c l sz : Nat} (h : l ≠ c) : cutA (some ⟨g, 0, none⟩) c l sz = some ⟨g, l * sz, none⟩ := by
  unfold cutA
  rw [if_neg (Ne.symm h), Option.map_some, Addr.add_lit, Nat.zero_add]
theorem run_firstCells_rd (w : World) {size m k : Nat} {B : Option Addr} {cs : List Value} (hl : cs.length = m * size) (h : ∀ j u, cs[j]? = some u → ∃ a, B = some a ∧ w.cell? (a.add j) = some u) :
    (Builtin.firstCells size m (.slice B m k)).run P w = .ok cs.toArray w := by
  cases B with
  | none =>
    have : cs = [] := by
      cases cs with
      | nil => rfl
      | cons x r => obtain ⟨a, ha, _⟩ := h 0 x rfl; cases ha
    subst this
    simp [Builtin.firstCells]
  | some a =>
    exact run_firstCells_some w size m a m k cs hl fun j v hj => by
      obtain ⟨a', ha, hc⟩ := h j v hj
      cases ha; exact hc
section
variable {n : Nat} {w0 : Base} {d : Nat} {ts : List (Nat × SV)} {bs : List (Nat × (List Seg × TypeId))} {ds : List (FuncId × List SV)} {pr : Nat → Prop} {sw : World} {K : St → Prop} {Q : Exit → St → Prop}
/-- The world is one in which one protected block g of the call's own has been written. -/
theorem WI.wrote {ad : Nat → Nat} {w : World} (h : WI w0 ad ⟨ts, bs, ds, pr, sw⟩ w) {g : Nat} (hg : pr g) (ho : w0.own g) (row : Array Value) : WI w0 ad ⟨ts, bs, ds, pr, w.setRow g row⟩ (w.setRow g row) := by
  have hb : ∀ b c, lk b bs = some c → ad b ≠ g := fun b c hb e => h.np b c hb (by rw [e]; exact hg)
  have hsn : sw.heap.size ≤ w.heap.size := h.sn
  refine ⟨⟨h.bel.os, h.bel.tape, h.bel.output, by rw [setRow_size]; exact h.bel.size, fun k hk hx => ?_⟩, fun b c hc => ?_, h.ok, h.lo, h.inj, h.np, Nat.le_refl _, fun q hq => ⟨?_, rfl⟩⟩
  · rw [setRow_other _ _ _ _ (fun e => by
      rcases ho with h | h
      · omega
      · exact hx (by rw [e]; exact h))]
    exact h.bel.block k hk hx
  · rw [setRow_other _ _ _ _ (hb b c hc)]; exact h.bx b c hc
  · have h1 : q < sw.heap.size := (h.pl q hq).1
    show q < (w.setRow g row).heap.size
    rw [setRow_size]; omega
theorem copy_rule {dt st ty e e' : TypeId} {size bytes : Nat} (ht : P.underlying dt = some (.slice e)) (he : elemB P e size bytes = true) {g o dl dc : Nat} {cur : Array Value} (hg : sw.heap[g]? = some (.cells cur e' (0, 0))) (hpg : pr g) (hog : w0.own g)
    {B : Option Addr} {sl sc : Nat} {cs : List Value} (hr : Rd pr sw B cs) (hl : cs.length = min sl dl * size) (hfit : o + cs.length ≤ cur.size) (h1 : ∀ v ∈ cs, v.oneCell' = true)
    (hk : ∀ w', w'.heap[g]? = some (.cells (cur.toList.take o ++ cs ++ cur.toList.drop (o + cs.length)).toArray e' (0, 0)) → (∀ q, pr q → q ≠ g → w'.heap[q]? = sw.heap[q]?) → sw.heap.size ≤ w'.heap.size → K ⟨(d, .v (.int .i64 (min sl dl : Nat))) :: ts, bs, ds, pr, w'⟩) :
    BltVC P n w0 false (some d) .copy #[dt, st] ty [.v (.slice (some ⟨g, o, none⟩) dl dc), .v (.slice B sl sc)] ⟨ts, bs, ds, pr, sw⟩ K Q := by
  refine ⟨fun ad a w hI hd op next Q' cb ho hn hpn => ?_⟩
  have hsn : sw.heap.size ≤ w.heap.size := hI.wi.sn
  have hpl : ∀ g, pr g → g < sw.heap.size ∧ w.heap[g]? = sw.heap[g]? := hI.wi.pl
  unfold elemB at he
  split at he
  case h_2 => cases he
  case h_1 i hi =>
  split at he
  case h_2 => cases he
  case h_1 z hz =>
  simp only [Bool.and_eq_true] at he
  have e1 := Nat.eq_of_beq_eq_true he.1.1
  have hgw : w.heap[g]? = some (.cells cur e' (0, 0)) := by rw [(hpl g hpg).2]; exact hg
  have hcs : ∀ j u, cs[j]? = some u → ∃ a, B = some a ∧ w.cell? (a.add j) = some u := fun j u hj => by
    obtain ⟨a, ha, hpa, hc⟩ := hr j u hj
    exact ⟨a, ha, (cell_same (by rw [add_block]; exact (hpl _ hpa).2)).trans hc⟩
  have hfc : (Builtin.firstCells size (min sl dl) (.slice B sl sc)).run P w = .ok cs.toArray w := by
    have := run_firstCells_rd (P := P) w (m := min sl dl) (k := sc) hl hcs
    cases B <;> simpa [Builtin.firstCells] using this
  have hst := run_storeCells_at P g o e' cs 0 cur w hgw (by simpa using hfit) h1
  simp only [Nat.add_zero] at hst
  have hrun : (Builtin.copy_ #[dt, st] ty #[.slice (some ⟨g, o, none⟩) dl dc, .slice B sl sc]).run P w = .ok (goInt ((min sl dl : Nat) : Int)) (w.setRow g (cur.toList.take o ++ cs ++ cur.toList.drop (o + cs.length)).toArray) := by
    have hfc' : (Builtin.firstCells i.size (Nat.min sl dl) (.slice B sl sc)).run P w = .ok cs.toArray w := by rw [e1]; exact hfc
    simp [Builtin.copy_, run_underlying ht, Builtin.lenOf, sizeOf, typeInfo, hi, hfc', hst]
  simp only [SV.dens, SV.den, builtin, Sem.run_bind, hrun, Result.andThen_ok, Sem.run_pure]
  rw [Oper.upon_value, ho]
  have hw := hI.wi.wrote hpg hog (cur.toList.take o ++ cs ++ cur.toList.drop (o + cs.length)).toArray
  have hI' : Inv n w0 ad ⟨ts, bs, ds, pr, w.setRow g (cur.toList.take o ++ cs ++ cur.toList.drop (o + cs.length)).toArray⟩ a (w.setRow g (cur.toList.take o ++ cs ++ cur.toList.drop (o + cs.length)).toArray) := ⟨hI.tn, hI.tm, hI.df, hw⟩
  refine hn _ _ _ (hI'.put (some d) (.v (.int .i64 (min sl dl : Nat))) hd rfl) ?_ (fun h => by cases h) (hk _ (setRow_heap w g _ _ _ _ hgw) (fun q hq hne => by rw [setRow_other _ _ _ _ hne]; exact (hpl q hq).2) (by rw [setRow_size]; exact hsn))
  exact ⟨by rw [setRow_size]; exact Nat.le_refl _, fun q hq _ hnp => setRow_other _ _ _ _ (fun e => hnp (by rw [e]; exact hpg)), fun t ht => actput_ne a _ _ t ht, fun q hq => .inl hq, fun b c hb => .inl ⟨c, hb, rfl⟩, fun t ht hs => put_fresh ⟨ts, bs, ds, pr, sw⟩ (d := some d) _ ht hs⟩
theorem run_append_zeros (w : World) {t it ty e : TypeId} {size bytes : Nat} (ht : P.underlying t = some (.slice e)) (hit : P.underlying it = some (.int .i64)) (he : elemB P e size bytes = true) (hsz : 0 < size)
    {A : Option Addr} {l c m : Nat} {xs : List Value} (hl : xs.length = l * size) (hx : ∀ j u, xs[j]? = some u → ∃ a, A = some a ∧ w.cell? (a.add j) = some u) (hgr : c < l + m) (h63 : l + m ≤ maxLen) (hbytes : (l + m) * bytes ≤ 140737488355328) :
    ∃ c' ys, (Builtin.append_ #[t, it] ty #[.slice A l c, .int .i64 m]).run P w = .ok (.slice (some ⟨w.heap.size, 0, none⟩) (l + m) c') (w.drew.alloc (.cells (xs ++ ys).toArray e)) ∧ l + m ≤ c' ∧ c' ≤ maxLen ∧ (xs ++ ys).length = c' * size := by
  unfold elemB at he
  split at he
  case h_2 => cases he
  case h_1 i hi =>
  split at he
  case h_2 => cases he
  case h_1 z hz =>
  simp only [Bool.and_eq_true] at he
  have e1 := Nat.eq_of_beq_eq_true he.1.1
  have e2 := Nat.eq_of_beq_eq_true he.1.2
  have e3 := Nat.le_of_ble_eq_true he.2
  have hb' : (l + m) * i.bytes ≤ 140737488355328 := Nat.le_trans (Nat.mul_le_mul_left _ e3) hbytes
  have hm0 : m * i.bytes ≤ 140737488355328 := Nat.le_trans (Nat.mul_le_mul_right _ (by omega)) hb'
  have hsmall : l + m ≤ 9223372036854775807 := by simp only [maxLen] at h63; omega
  have hw : IntKind.i64.wrap (m : Int) = m := i64_in (by omega)
  have hneg : ¬ ((m : Int) < 0) := by omega
  have h48 := growslice_fits hgr hb'
  have hfc : (Builtin.firstCells i.size l (.slice A l c)).run P w.drew = .ok xs.toArray w.drew := by
    rw [e1]
    exact run_firstCells_rd (P := P) w.drew hl (fun j u hj => by simpa using hx j u hj)
  have hge := grownCap_ge w (l + m) c e
  have hcm : grownCap w (l + m) c e ≤ maxLen := grownCap_le_maxLen w (l + m) c e h63
  have hr : ¬ (l + m ≤ c) := by omega
  have hi63 : ¬ (9223372036854775807 < ((l : Int) + (m : Int))) := by omega
  have hib : ¬ (281474976710656 < (m : Int) * (i.bytes : Int)) := by
    have : ((m * i.bytes : Nat) : Int) ≤ 140737488355328 := by omega
    rw [Int.natCast_mul] at this
    omega
  have h48' : ¬ (281474976710656 < Builtin.nextslicecap (l + m) c * i.bytes) := by omega
  refine ⟨grownCap w (l + m) c e, ((if m * i.size = 0 then #[] else Builtin.zeroCells z.cells m) ++ Builtin.zeroCells z.cells (grownCap w (l + m) c e - (l + m))).toList, ?_, hge, hcm, ?_⟩
  · simp [Builtin.append_, run_underlying ht, run_underlying hit, sizeOf, typeInfo, zeroValue, hi, hz, hr, hi63, h48', hib, hw, asInt, asIntOf, hneg, Question.forced, hfc, newRow, grownCap, run_newObj]
    split <;> (rename_i h; congr 3; apply Array.ext'; simp [h])
  · have hz0 : (if m * i.size = 0 then (#[] : Array Value) else Builtin.zeroCells z.cells m).size = m * size := by
      split
      · rename_i h; rw [e1] at h; simp [h]
      · rw [size_zeroCells, e2]
    have e5 : (xs ++ ((if m * i.size = 0 then (#[] : Array Value) else Builtin.zeroCells z.cells m) ++ Builtin.zeroCells z.cells (grownCap w (l + m) c e - (l + m))).toList).length = l * size + (m * size + (grownCap w (l + m) c e - (l + m)) * size) := by
      rw [List.length_append, hl, Array.length_toList, Array.size_append, hz0, size_zeroCells, e2]
    rw [e5, ← Nat.add_mul, ← Nat.add_mul]
    congr 1; omega
/-- append of cells of nothing, where there is no room. -/
theorem appendz_rule {t it ty e : TypeId} {size bytes : Nat} (ht : P.underlying t = some (.slice e)) (hit : P.underlying it = some (.int .i64)) (he : elemB P e size bytes = true) (hsz : 0 < size)
    {A : Option Addr} {l c m : Nat} {z : Int} {xs : List Value} (hz : z = m) (hl : xs.length = l * size) (hr : Rd pr sw A xs) (hgr : c < l + m) (h63 : l + m ≤ maxLen) (hbytes : (l + m) * bytes ≤ 140737488355328)
    (hk : ∀ g' c' ys w' pr', w'.heap[g']? = some (.cells (xs ++ ys).toArray e (0, 0)) → l + m ≤ c' → c' ≤ maxLen → (xs ++ ys).length = c' * size → sw.heap.size ≤ g' → (∀ q, pr q → w'.heap[q]? = sw.heap[q]? ∧ pr' q) → pr' g' → w0.own g' → sw.heap.size ≤ w'.heap.size →
      K ⟨(d, .v (.slice (some ⟨g', 0, none⟩) (l + m) c')) :: ts, bs, ds, pr', w'⟩) :
    BltVC P n w0 false (some d) .append #[t, it] ty [.v (.slice A l c), .v (.int .i64 z)] ⟨ts, bs, ds, pr, sw⟩ K Q := by
  subst hz
  refine ⟨fun ad a w hI hd o next Q' cs ho hn hpn => ?_⟩
  have hsn : sw.heap.size ≤ w.heap.size := hI.wi.sn
  have hpl : ∀ g, pr g → g < sw.heap.size ∧ w.heap[g]? = sw.heap[g]? := hI.wi.pl
  obtain ⟨c', ys, hrun, h2, h3, h4⟩ := run_append_zeros (P := P) w (ty := ty) ht hit he hsz hl (fun j u hj => by
    obtain ⟨a, ha, hpa, hc⟩ := hr j u hj
    exact ⟨a, ha, (cell_same (by rw [add_block]; exact (hpl _ hpa).2)).trans hc⟩) hgr h63 hbytes
  simp only [SV.dens, SV.den, builtin, Sem.run_bind, hrun, Result.andThen_ok, Sem.run_pure]
  rw [Oper.upon_value, ho]
  have hnew : (w.drew.alloc (.cells (xs ++ ys).toArray e)).heap[w.heap.size]? = some (.cells (xs ++ ys).toArray e (0, 0)) := heap_alloc_new w.drew _
  have hbl : Below w.heap.size w (w.drew.alloc (.cells (xs ++ ys).toArray e)) := ((Below.refl _ w).drew).alloc (Nat.le_refl _) _
  have hsz2 : (w.drew.alloc (.cells (xs ++ ys).toArray e)).heap.size = w.heap.size + 1 := by rw [World.size_alloc]; rfl
  have hk := hk w.heap.size c' ys _ (fun q => pr q ∨ q = w.heap.size) hnew h2 h3 h4 hsn (fun q hq => ⟨by have := hpl q hq; rw [hbl.block q (by omega)]; exact this.2, .inl hq⟩) (.inr rfl) (.inl hI.wi.bel.size) (by omega)
  have hw := hI.wi.anew hbl (fun q => pr q ∨ q = w.heap.size) (fun q hq => hq.imp id (fun h => by omega))
  have hI' : Inv n w0 ad ⟨ts, bs, ds, fun q => pr q ∨ q = w.heap.size, w.drew.alloc (.cells (xs ++ ys).toArray e)⟩ a (w.drew.alloc (.cells (xs ++ ys).toArray e)) := ⟨hI.tn, hI.tm, hI.df, hw⟩
  refine hn _ _ _ (hI'.put (some d) (.v (.slice (some ⟨w.heap.size, 0, none⟩) (l + m) c')) hd rfl) ?_ (fun h => by cases h) hk
  exact ⟨hbl.size, fun q hq _ _ => hbl.block q hq, fun t ht => actput_ne a _ _ t ht, fun q hq => hq.imp id (fun h => by omega), fun b c hb => .inl ⟨c, hb, rfl⟩, fun t ht hs => put_fresh ⟨ts, bs, ds, pr, sw⟩ (d := some d) _ ht hs⟩
/-- A call that may write some of the call's own rows (X); the snapshot is taken anew behind it. -/
theorem call_mod (X : Nat → Prop) {kp : Bool} (hkp : kp = false) {g : Nat} {args : List SV} (R : World → Ending → World → Prop) (hent : Ent P g) (hX : ∀ q, X q → pr q ∧ w0.own q) (hc : ∀ ad w, WI w0 ad ⟨ts, bs, ds, pr, sw⟩ w → Calls P g (SV.dens ad args).toArray w (R w))
    (hk : ∀ ad w e w', WI w0 ad ⟨ts, bs, ds, pr, sw⟩ w → R w e w' → ∃ x : SV, e = .returned (x.den ad) ∧ x.Ok ∧ BelX ⟨w, X⟩ w' ∧
      ∀ pr' : Nat → Prop, (∀ q, pr q → ¬ X q → w'.heap[q]? = sw.heap[q]?) → sw.heap.size ≤ w.heap.size → (∀ q, pr q → pr' q) → (∀ q, w.heap.size ≤ q → q < w'.heap.size → pr' q) → (∀ q, pr' q → pr q ∨ w.heap.size ≤ q) → K ⟨(d, x) :: ts, bs, ds, pr', w'⟩) :
    CallVC P n w0 kp (some d) g args ⟨ts, bs, ds, pr, sw⟩ K Q := by
  refine ⟨fun ad a w hI hd o next Q' ho hn hp => ?_⟩
  rw [hent.run, Oper.upon_enter]
  refine (hc ad w hI.wi).mono ?_
  intro e w' hR
  obtain ⟨x, rfl, hx, hb, hk⟩ := hk ad w e w' hI.wi hR
  rw [ho]
  have hsn : sw.heap.size ≤ w.heap.size := hI.wi.sn
  have hpl : ∀ g, pr g → g < sw.heap.size ∧ w.heap[g]? = sw.heap[g]? := hI.wi.pl
  have hlt : ∀ b c, lk b bs = some c → ad b < w.heap.size := fun b c hb => (Array.getElem?_eq_some_iff.1 (hI.wi.bx b c hb)).1
  have hsize : w.heap.size ≤ w'.heap.size := hb.size
  have hI' : Inv n w0 ad ⟨ts, bs, ds, fun q => pr q ∨ (w.heap.size ≤ q ∧ q < w'.heap.size), w'⟩ a w' := by
    refine ⟨hI.tn, hI.tm, hI.df, ⟨⟨hb.os.trans hI.wi.bel.os, hb.tape.trans hI.wi.bel.tape, hb.output.trans hI.wi.bel.output, Nat.le_trans hI.wi.bel.size hb.size, fun k hk hx => ?_⟩, fun b c hc => ?_, hI.wi.ok, hI.wi.lo, hI.wi.inj, fun b c hc hq => ?_, Nat.le_refl _, fun q hq => ⟨?_, rfl⟩⟩⟩
    · rw [hb.block k (Nat.lt_of_lt_of_le hk hI.wi.bel.size) (fun h => by
        rcases (hX k h).2 with h | h
        · omega
        · exact hx h)]
      exact hI.wi.bel.block k hk hx
    · rw [hb.block _ (hlt b c hc) (fun h => hI.wi.np b c hc (hX _ h).1)]; exact hI.wi.bx b c hc
    · rcases hq with hq | hq
      · exact hI.wi.np b c hc hq
      · have := hlt b c hc; omega
    · rcases hq with hq | hq
      · have := hpl q hq
        show q < w'.heap.size
        omega
      · exact hq.2
  refine hn _ _ _ (hI'.put (some d) x hd hx) ?_ (fun h => by rw [hkp] at h; cases h) (hk _ (fun q hq hnx => by
    have := hpl q hq
    rw [hb.block q (by show q < w.heap.size; omega) hnx]; exact this.2) hsn (fun _ h => .inl h) (fun q h1 h2 => .inr ⟨h1, h2⟩) (fun q hq => hq.imp id (fun h => h.1)))
  exact ⟨hsize, fun q hq _ hnp => hb.block q hq (fun h => hnp (hX q h).1), fun t ht => actput_ne a _ _ t ht, fun q hq => hq.imp id (fun h => h.1), fun b c hb => .inl ⟨c, hb, rfl⟩, fun t ht hs => put_fresh ⟨ts, bs, ds, pr, sw⟩ (d := some d) _ ht hs⟩
/-- A call of whose result something is known and that leaves all alone that was there. -/
theorem call_ex (X : SV → Prop) {kp : Bool} {g : Nat} {args : List SV} (hent : Ent P g) (hc : ∀ ad w, WI w0 ad ⟨ts, bs, ds, pr, sw⟩ w → Calls P g (SV.dens ad args).toArray w fun e w' => (∃ x : SV, e = .returned (x.den ad) ∧ x.Ok ∧ X x) ∧ Below w.heap.size w w')
    (hk : ∀ x, X x → K ⟨(d, x) :: ts, bs, ds, pr, sw⟩) : CallVC P n w0 kp (some d) g args ⟨ts, bs, ds, pr, sw⟩ K Q := by
  refine ⟨fun ad a w hI hd o next Q' ho hn hp => ?_⟩
  rw [hent.run, Oper.upon_enter]
  refine (hc ad w hI.wi).mono ?_
  rintro e w' ⟨⟨x, rfl, hx, hX⟩, hb⟩
  rw [ho]
  have hw := hI.wi.below hb
  refine hn _ _ _ ((hI.world hw).put (some d) x hd hx) ?_ ?_ (hk x hX)
  · exact ⟨hb.size, fun q hq _ _ => hb.block q hq, fun t ht => actput_ne a _ _ t ht, fun q hq => .inl hq, fun b c hb => .inl ⟨c, hb, rfl⟩, fun t ht hs => put_fresh ⟨ts, bs, ds, pr, sw⟩ (d := some d) x ht hs⟩
  · refine fun _ => ⟨fun b c hb => ⟨hb, rfl⟩, fun q hq => ⟨hq, ?_⟩⟩
    have h1 := (hI.wi.pl q hq).1
    have h2 := hI.wi.sn
    exact hb.block q (Nat.lt_of_lt_of_le h1 h2)
/-- A call that is answered at once. -/
theorem call_now (x : SV) {kp : Bool} {g : Nat} {args : List SV} (hx : x.Ok) (hc : ∀ ad w, WI w0 ad ⟨ts, bs, ds, pr, sw⟩ w → (callFunc g (SV.dens ad args).toArray).run P w = .ok (.value (x.den ad)) w) (hk : K ⟨(d, x) :: ts, bs, ds, pr, sw⟩) :
    CallVC P n w0 kp (some d) g args ⟨ts, bs, ds, pr, sw⟩ K Q := by
  refine ⟨fun ad a w hI hd o next Q' ho hn hp => ?_⟩
  rw [hc ad w hI.wi, Oper.upon_value, ho]
  exact hn _ _ _ (hI.put (some d) x hd hx) (Fr.put ⟨ts, bs, ds, pr, sw⟩ ad (some d) a w x _) (fun _ => Kp.put ⟨ts, bs, ds, pr, sw⟩ ad (some d) w x) hk
end
end Go.Sx
