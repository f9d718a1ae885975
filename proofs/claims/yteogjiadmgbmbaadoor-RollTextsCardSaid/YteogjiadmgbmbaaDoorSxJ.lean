/-
  The rules of the symbolic machine: slices that a call owns: append.
-/
import Derived.Test.YteogjiadmgbmbaaDoorSxI
import Derived.ArgAppend
import Derived.Laws.OwnMore
set_option linter.unusedVariables false
set_option linter.unusedSimpArgs false
namespace Go.Sx
open Go Go.RowKit
variable {P : Program} {T : Tab}

/-- The slice owns its row from block 'base' on, or has no capacity. -/
def Own (w : World) (base : Nat) (e : TypeId) (size : Nat) (A : Option Addr) (n c : Nat) (xs : List Value) : Prop :=
  (w.ownsRow base e size (.slice A n c) n xs ∧ (A = none ∨ 0 < c)) ∨ (n = 0 ∧ c = 0 ∧ xs = [])
/-- The block that an append onto the slice may write. -/
def wblk (A : Option Addr) (c : Nat) : Option Nat := match A with
  | some a => if c = 0 then none else some a.block
  | none => none
def elemB (P : Program) (e : TypeId) (size bytes : Nat) : Bool := match P.info? e with
  | some i => match i.zero with
    | some z => Nat.beq i.size size && Nat.beq z.cells.size size && Nat.ble i.bytes bytes
    | none => false
  | none => false
theorem Own.len {w : World} {base : Nat} {e : TypeId} {size : Nat} {A : Option Addr} {n c : Nat} {xs : List Value} (h : Own w base e size A n c xs) : xs.length = n * size := by
  rcases h with ⟨h, _⟩ | ⟨rfl, rfl, rfl⟩
  · exact h.1
  · simp
theorem Own.le {w : World} {base : Nat} {e : TypeId} {size : Nat} {A : Option Addr} {n c : Nat} {xs : List Value} (h : Own w base e size A n c xs) : n ≤ c := by
  rcases h with ⟨⟨_, h | ⟨g, cap, cur, h, _, _, h1, _⟩⟩, _⟩ | ⟨rfl, rfl, rfl⟩
  · cases h.1; exact Nat.le_refl _
  · cases h; exact h1
  · exact Nat.le_refl _
theorem Own.block {w : World} {base : Nat} {e : TypeId} {size : Nat} {A : Option Addr} {n c : Nat} {xs : List Value} (h : Own w base e size A n c xs) {g : Nat} (hg : wblk A c = some g) : base ≤ g ∧ g < w.heap.size ∧ A = some ⟨g, 0, none⟩ := by
  rcases h with ⟨⟨_, h | ⟨g', cap, cur, h, h1, h2, _⟩⟩, _⟩ | ⟨rfl, rfl, rfl⟩
  · cases h.1; cases hg
  · cases h
    simp only [wblk] at hg
    split at hg
    · cases hg
    · cases hg
      exact ⟨h1, (Array.getElem?_eq_some_iff.1 h2).1, rfl⟩
  · cases A <;> simp [wblk] at hg
theorem Own.world {w w' : World} {base : Nat} {e : TypeId} {size : Nat} {A : Option Addr} {n c : Nat} {xs : List Value} (h : Own w base e size A n c xs) (hw : ∀ g, wblk A c = some g → w'.heap[g]? = w.heap[g]?) : Own w' base e size A n c xs := by
  rcases h with ⟨⟨hl, h | ⟨g', cap, cur, h, h1, h2, h3⟩⟩, hc⟩ | h
  · exact .inl ⟨⟨hl, .inl h⟩, hc⟩
  · cases h
    have hc' : 0 < c := by rcases hc with hc | hc; cases hc; exact hc
    refine .inl ⟨⟨hl, .inr ⟨g', c, cur, rfl, h1, ?_, h3⟩⟩, hc⟩
    rw [hw g' (by simp [wblk]; omega)]; exact h2
  · exact .inr h
theorem Own.nil (w : World) (base : Nat) (e : TypeId) (size : Nat) (A : Option Addr) : Own w base e size A 0 0 [] := .inr ⟨rfl, rfl, rfl⟩
theorem Own.rd {w : World} {base : Nat} {e : TypeId} {size : Nat} {A : Option Addr} {n c : Nat} {xs : List Value} (h : Own w base e size A n c xs) {pr : Nat → Prop} (hp : ∀ g, wblk A c = some g → pr g) : Rd pr w A xs := by
  intro j v hj
  rcases h with ⟨h, hc⟩ | ⟨_, _, rfl⟩
  · rcases h.2 with h' | ⟨g, cap, cur, h', _, _⟩
    · have := h.1; rw [h'.2] at this; simp at this; subst this; simp at hj
    · cases h'
      have hc' : 0 < c := by rcases hc with hc | hc; cases hc; exact hc
      exact ⟨_, rfl, hp g (by simp [wblk]; omega), h.cells (g := g) rfl j v hj⟩
  · simp at hj
theorem run_append_none (w : World) (t ty e : TypeId) (i : TypeInfo) (ht : P.underlying t = some (.slice e)) (hi : P.info? e = some i) (A B : Option Addr) (n c k : Nat) (hnc : n ≤ c) :
    (Builtin.append_ #[t, t] ty #[.slice A n c, .slice B 0 k]).run P w = .ok (.slice A n c) w := by
  cases A <;> cases B <;> simp [Builtin.append_, run_underlying ht, sizeOf, typeInfo, hi, Builtin.lenOf, Builtin.firstCells, hnc, storeCells, loadCells, loadCellsFrom]
/-- append, whatever it may be. -/
theorem run_append (w : World) {base : Nat} {t ty e : TypeId} {size bytes : Nat} (ht : P.underlying t = some (.slice e)) (he : elemB P e size bytes = true) (hsz : 0 < size) {A : Option Addr} {n c : Nat} {xs : List Value} (hown : Own w base e size A n c xs)
    {B : Option Addr} {m k : Nat} {news : List Value} (hl : news.length = m * size) (hnews : ∀ j u, news[j]? = some u → ∃ a, B = some a ∧ w.cell? (a.add j) = some u) (h1 : ∀ u ∈ news, u.oneCell' = true)
    (h63 : n + m ≤ maxLen) (hbytes : (n + m) * bytes ≤ 140737488355328) (hbase : base ≤ w.heap.size) :
    ∃ A' c' w', (Builtin.append_ #[t, t] ty #[.slice A n c, .slice B m k]).run P w = .ok (.slice A' (n + m) c') w' ∧ Own w' base e size A' (n + m) c' (xs ++ news) ∧ w.grownBy w' (wblk A c) ∧ (∀ g, wblk A' c' = some g → wblk A c = some g ∨ w.heap.size ≤ g) := by
  unfold elemB at he
  split at he
  case h_2 => cases he
  case h_1 i hi =>
  split at he
  case h_2 => cases he
  case h_1 z hz =>
  simp only [Bool.and_eq_true] at he
  have e1 := Nat.eq_of_beq_eq_true he.1.1
  have e2 := Nat.eq_of_beq_eq_true he.1.2
  have e3 := Nat.le_of_ble_eq_true he.2
  have hb' : (n + m) * i.bytes ≤ 140737488355328 := Nat.le_trans (Nat.mul_le_mul_left _ e3) hbytes
  by_cases hm : m = 0
  · subst hm
    have hn : news = [] := List.eq_nil_of_length_eq_zero (by simpa using hl)
    subst hn
    exact ⟨A, c, w, run_append_none w t ty e i ht hi A B n c k hown.le, by simpa using hown, ⟨rfl, rfl, rfl, Nat.le_refl _, fun _ _ _ => rfl⟩, fun g hg => .inl hg⟩
  · obtain ⟨a, rfl⟩ : ∃ a, B = some a := by
      have hpos : 0 < news.length := by rw [hl]; exact Nat.mul_pos (by omega) hsz
      obtain ⟨a, ha, _⟩ := hnews 0 _ (List.getElem?_eq_getElem hpos)
      exact ⟨a, ha⟩
    have hnews' : ∀ j u, news[j]? = some u → w.cell? (a.add j) = some u := fun j u hj => by
      obtain ⟨a', ha, hc⟩ := hnews j u hj
      cases ha; exact hc
    -- what is new
    have fin : ∀ {v' : Value} {w' : World}, (Builtin.append_ #[t, t] ty #[.slice A n c, .slice (some a) m k]).run P w = .ok v' w' → w'.ownsRow w.heap.size e size v' (n + m) (xs ++ news) → w.grownBy w' none →
        ∃ A' c' w', (Builtin.append_ #[t, t] ty #[.slice A n c, .slice (some a) m k]).run P w = .ok (.slice A' (n + m) c') w' ∧ Own w' base e size A' (n + m) c' (xs ++ news) ∧ w.grownBy w' (wblk A c) ∧ (∀ g, wblk A' c' = some g → wblk A c = some g ∨ w.heap.size ≤ g) := by
      intro v' w' hr ho hg
      rcases ho.2 with ⟨_, h⟩ | ⟨g, cap, cur, rfl, hbg, hg2, h3, h4, h5, h6⟩
      · omega
      · have hcap : 0 < cap := by omega
        refine ⟨_, _, w', hr, .inl ⟨⟨ho.1, .inr ⟨g, cap, cur, rfl, Nat.le_trans hbase hbg, hg2, h3, h4, h5, h6⟩⟩, .inr hcap⟩, ⟨hg.os, hg.tape, hg.output, hg.size, fun k hk _ => hg.block k hk (by simp)⟩, fun g' hg' => ?_⟩
        simp only [wblk] at hg'
        split at hg'
        · cases hg'
        · cases hg'; exact .inr hbg
    rcases hown with ⟨⟨hlx, h | ⟨g, cap, cur, h, hbg, hg, hnc, hcm, hcs, htake⟩⟩, hc⟩ | ⟨rfl, rfl, rfl⟩
    · cases h.1
      obtain ⟨v', w', hr, h2, h3, _⟩ := run_append_own (P := P) w w.heap.size t ty e i z size i.bytes ht hi hz e1 rfl e2 hsz (.slice none 0 0) 0 xs ⟨hlx, .inl ⟨rfl, rfl⟩⟩ a m k news hl hnews' h1 h63 hb' (Nat.le_refl _)
      exact fin hr h2 (by simpa [Value.ownBlock] using h3)
    · cases h
      have hc' : 0 < c := by rcases hc with hc | hc; cases hc; exact hc
      have hown : w.ownsRow base e size (.slice (some ⟨g, 0, none⟩) n c) n xs := ⟨hlx, .inr ⟨g, c, cur, rfl, hbg, hg, hnc, hcm, hcs, htake⟩⟩
      by_cases hroom : n + m ≤ c
      · obtain ⟨w', hr, h2, h3⟩ := run_append_fits (P := P) w base t ty e i size ht hi e1 g n c xs hown a m k news hl hnews' h1 hroom
        exact ⟨_, _, w', hr, .inl ⟨h2, .inr hc'⟩, by simpa [wblk, Nat.ne_of_gt hc'] using h3, fun g' hg' => .inl hg'⟩
      · obtain ⟨v', w', hr, h2, h3⟩ := run_append_arg_grows (P := P) w t ty e i z size i.bytes ht hi hz e1 rfl e2 hsz ⟨g, 0, none⟩ n c xs hlx (hown.cells (g := g) rfl) a m k news hl hnews' (by omega) h63 hb'
        exact fin hr h2 h3
    · cases A with
      | none =>
        obtain ⟨v', w', hr, h2, h3, _⟩ := run_append_own (P := P) w w.heap.size t ty e i z size i.bytes ht hi hz e1 rfl e2 hsz (.slice none 0 0) 0 [] ⟨by simp, .inl ⟨rfl, rfl⟩⟩ a m k news hl hnews' h1 h63 hb' (Nat.le_refl _)
        exact fin hr h2 (by simpa [Value.ownBlock] using h3)
      | some b =>
        obtain ⟨v', w', hr, h2, h3⟩ := run_append_arg_grows (P := P) w t ty e i z size i.bytes ht hi hz e1 rfl e2 hsz b 0 0 [] (by simp) (by simp) a m k news hl hnews' (by omega) h63 hb'
        exact fin hr h2 h3
section
variable {n : Nat} {w0 : Base} {d : Nat} {ts : List (Nat × SV)} {bs : List (Nat × (List Seg × TypeId))} {ds : List (FuncId × List SV)} {pr : Nat → Prop} {sw : World} {K : St → Prop} {Q : Exit → St → Prop}
/-- append onto a slice of the call's own. -/
theorem append_rule {base : Nat} {t ty e : TypeId} {size bytes : Nat} (ht : P.underlying t = some (.slice e)) (he : elemB P e size bytes = true) (hsz : 0 < size) {A : Option Addr} {l c : Nat} {xs : List Value} (hown : Own sw base e size A l c xs) (hp : ∀ g, wblk A c = some g → pr g ∧ w0.own g)
    {B : Option Addr} {m k : Nat} {news : List Value} (hr : Rd pr sw B news) (hl : news.length = m * size) (h1 : ∀ u ∈ news, u.oneCell' = true)
    (h63 : l + m ≤ maxLen) (hbytes : (l + m) * bytes ≤ 140737488355328) (hbase : base ≤ sw.heap.size)
    (hk : ∀ A' c' w' pr', Own w' base e size A' (l + m) c' (xs ++ news) → (∀ q, pr q → some q ≠ wblk A c → w'.heap[q]? = sw.heap[q]? ∧ pr' q) → (∀ g, wblk A' c' = some g → pr' g ∧ (wblk A c = some g ∨ sw.heap.size ≤ g)) → sw.heap.size ≤ w'.heap.size → (∀ q, pr' q → pr q ∨ sw.heap.size ≤ q) →
      K ⟨(d, .v (.slice A' (l + m) c')) :: ts, bs, ds, pr', w'⟩) :
    BltVC P n w0 false (some d) .append #[t, t] ty [.v (.slice A l c), .v (.slice B m k)] ⟨ts, bs, ds, pr, sw⟩ K Q := by
  refine ⟨fun ad a w hI hd o next Q' cs ho hn hpn => ?_⟩
  have hsn : sw.heap.size ≤ w.heap.size := hI.wi.sn
  have hpl : ∀ g, pr g → g < sw.heap.size ∧ w.heap[g]? = sw.heap[g]? := hI.wi.pl
  obtain ⟨A', c', w', hrun, h2, h3, h4⟩ := run_append (P := P) w (ty := ty) ht he hsz (hown.world fun g hg => (hpl g (hp g hg).1).2) (B := B) (k := k) hl (fun j u hj => by
    obtain ⟨a, ha, hpa, hc⟩ := hr j u hj
    exact ⟨a, ha, (cell_same (by rw [add_block]; exact (hpl _ hpa).2)).trans hc⟩) h1 h63 hbytes (Nat.le_trans hbase hsn)
  simp only [SV.dens, SV.den, builtin, Sem.run_bind, hrun, Result.andThen_ok, Sem.run_pure]
  rw [Oper.upon_value, ho]
  have hnew : ∀ g, wblk A' c' = some g → g < w'.heap.size := fun g hg => (h2.block hg).2.1
  have hk := hk A' c' w' (fun q => (pr q ∧ some q ≠ wblk A c) ∨ wblk A' c' = some q) h2 (fun q hq hne => ⟨by
      have := hpl q hq
      rw [h3.block q (by omega) hne]; exact this.2, .inl ⟨hq, hne⟩⟩) (fun g hg => ⟨.inr hg, (h4 g hg).imp id (fun h => by omega)⟩) (Nat.le_trans hsn h3.size) (fun q hq => by
      rcases hq with hq | hq
      · exact .inl hq.1
      · rcases h4 q hq with h | h
        · exact .inl (hp q h).1
        · exact .inr (by omega))
  have hlt : ∀ b c, lk b bs = some c → ad b < w.heap.size := fun b c hb => (Array.getElem?_eq_some_iff.1 (hI.wi.bx b c hb)).1
  have hbne : ∀ b cc, lk b bs = some cc → some (ad b) ≠ wblk A c := fun b cc hb e => hI.wi.np b cc hb (hp _ e.symm).1
  have hI' : Inv n w0 ad ⟨ts, bs, ds, fun q => (pr q ∧ some q ≠ wblk A c) ∨ wblk A' c' = some q, w'⟩ a w' := by
    refine ⟨hI.tn, hI.tm, hI.df, ⟨⟨h3.os.trans hI.wi.bel.os, h3.tape.trans hI.wi.bel.tape, h3.output.trans hI.wi.bel.output, Nat.le_trans hI.wi.bel.size h3.size, fun q hq hx => ?_⟩, ?_, hI.wi.ok, hI.wi.lo, hI.wi.inj, ?_, Nat.le_refl _, ?_⟩⟩
    · rw [h3.block q (Nat.lt_of_lt_of_le hq hI.wi.bel.size) (fun e => by
        rcases (hp q e.symm).2 with h | h
        · omega
        · exact hx h)]
      exact hI.wi.bel.block q hq hx
    · intro b cc hb
      rw [h3.block _ (hlt b cc hb) (hbne b cc hb)]; exact hI.wi.bx b cc hb
    · intro b cc hb hq
      rcases hq with hq | hq
      · exact hI.wi.np b cc hb hq.1
      · rcases h4 _ hq with h | h
        · exact hbne b cc hb h.symm
        · have := hlt b cc hb; omega
    · intro q hq
      refine ⟨?_, rfl⟩
      rcases hq with hq | hq
      · have := hpl q hq.1
        have := h3.size
        show q < w'.heap.size
        omega
      · exact hnew q hq
  refine hn _ _ _ (hI'.put (some d) (.v (.slice A' (l + m) c')) hd rfl) ?_ (fun h => by cases h) hk
  refine ⟨h3.size, fun q hq _ hnp => h3.block q hq (fun e => hnp (hp q e.symm).1), fun t ht => actput_ne a _ _ t ht, fun q hq => ?_, fun b c hb => .inl ⟨c, hb, rfl⟩, fun t ht hs => put_fresh ⟨ts, bs, ds, pr, sw⟩ (d := some d) _ ht hs⟩
  rcases hq with hq | hq
  · exact .inl hq.1
  · rcases h4 q hq with h | h
    · exact .inl (hp q h).1
    · exact .inr h
end
end Go.Sx
