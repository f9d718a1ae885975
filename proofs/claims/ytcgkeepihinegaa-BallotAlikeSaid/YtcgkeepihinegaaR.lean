/-
  Plain laws of boxes: what is right, what a put adds, who wants what, and how many.
-/
import Derived.Test.YtcgkeepihinegaaO
set_option linter.unusedVariables false
set_option linter.unusedSimpArgs false
namespace Go.Proofs.Ytcgkeepihinegaa
open Go Go.Sx Go.RowKit
def whoB (ms : List Mk) (i : Nat) : Bool := ms.any fun m => decide (m.who = i)
theorem right_iff {v M : Int} {ms : List Mk} : rightB v M ms = true ↔ (∀ m ∈ ms, okc v M m = true) ∧ Sorted ms ∧ rollB v M = true := by
  constructor
  · intro h
    refine ⟨fun m hm => ?_, sorted_of h, ?_⟩
    · simp only [rightB, Bool.and_eq_true, List.all_eq_true, List.mem_range] at h
      obtain ⟨j, hj⟩ := List.mem_iff_getElem?.1 hm
      have := h.1 j (List.getElem?_eq_some_iff.1 hj).1
      simp only [at1, hj, Bool.and_eq_true] at this
      exact this.1
    · simp only [rightB, Bool.and_eq_true] at h
      exact h.2
  · rintro ⟨h1, h2, h3⟩
    simp only [rightB, Bool.and_eq_true]
    refine ⟨List.all_eq_true.2 fun j hj => ?_, h3⟩
    have hj := List.mem_range.1 hj
    have hm := List.getElem?_eq_getElem hj
    have g1 := h1 _ (List.mem_of_getElem? hm)
    simp only [at1, hm, g1, Bool.true_and]
    cases j with
    | zero => rfl
    | succ j =>
      have hp := List.getElem?_eq_getElem (show j < ms.length by omega)
      simp only [hp]
      exact decide_eq_true (h2 j (j + 1) _ _ (by omega) hp hm)
theorem sorted_cons {m : Mk} {l : List Mk} : Sorted (m :: l) ↔ (∀ x ∈ l, m.who < x.who) ∧ Sorted l := by
  constructor
  · intro h
    refine ⟨fun x hx => ?_, fun i j p q hij hp hq => h (i + 1) (j + 1) p q (by omega) (by simpa using hp) (by simpa using hq)⟩
    obtain ⟨j, hj⟩ := List.mem_iff_getElem?.1 hx
    exact h 0 (j + 1) m x (by omega) rfl (by simpa using hj)
  · rintro ⟨h1, h2⟩ i j p q hij hp hq
    cases j with
    | zero => omega
    | succ j =>
      cases i with
      | zero =>
        simp at hp hq
        rw [← hp]
        exact h1 q (List.mem_of_getElem? hq)
      | succ i => exact h2 i j p q (by omega) (by simpa using hp) (by simpa using hq)
theorem insS_mem {ms : List Mk} {t x : Mk} : x ∈ insS ms t ↔ x = t ∨ x ∈ ms := by
  unfold insS
  rw [List.mem_append, List.mem_cons]
  have := List.takeWhile_append_dropWhile (p := before t) (l := ms)
  have h : x ∈ ms ↔ x ∈ ms.takeWhile (before t) ∨ x ∈ ms.dropWhile (before t) := by rw [← List.mem_append, this]
  rw [h]
  constructor
  · rintro (h | h | h)
    · exact .inr (.inl h)
    · exact .inl h
    · exact .inr (.inr h)
  · rintro (h | h | h)
    · exact .inr (.inl h)
    · exact .inl h
    · exact .inr (.inr h)
theorem insS_sorted : ∀ {ms : List Mk} {t : Mk} (h : Sorted ms) (hne : ∀ m ∈ ms, m.who ≠ t.who), Sorted (insS ms t)
  | [], t, _, _ => sorted_cons.2 ⟨fun x hx => (by cases hx), fun i j p q _ hp => (by cases hp)⟩
  | m :: l, t, h, hne => by
    obtain ⟨h1, h2⟩ := sorted_cons.1 h
    by_cases hb : before t m = true
    · have e : insS (m :: l) t = m :: insS l t := by simp only [insS, List.takeWhile_cons, List.dropWhile_cons, hb, if_true, List.cons_append]
      rw [e]
      have hle : ¬ t.who < m.who := by simpa [before] using hb
      refine sorted_cons.2 ⟨fun x hx => ?_, insS_sorted h2 (fun x hx => hne x (List.mem_cons_of_mem _ hx))⟩
      rcases insS_mem.1 hx with rfl | hx
      · have := hne m (by simp)
        omega
      · exact h1 x hx
    · have hb : before t m = false := by simpa using hb
      have e : insS (m :: l) t = t :: m :: l := by simp only [insS, List.takeWhile_cons, List.dropWhile_cons, hb, Bool.false_eq_true, if_false, List.nil_append]
      rw [e]
      have hlt : t.who < m.who := by simpa [before] using hb
      refine sorted_cons.2 ⟨fun x hx => ?_, h⟩
      rcases List.mem_cons.1 hx with rfl | hx
      · exact hlt
      · have := h1 x hx; omega
theorem filter_one {q : Nat → Bool} {a : Nat} (hq : q a = false) : ∀ {r : List Nat}, r.Nodup → (r.filter fun i => q i || decide (a = i)).length = (r.filter q).length + if a ∈ r then 1 else 0
  | [], _ => by simp
  | x :: r, h => by
    obtain ⟨h1, h2⟩ := List.nodup_cons.1 h
    have ih := filter_one (q := q) (a := a) hq h2
    by_cases e : a = x
    · subst e
      rw [if_neg h1] at ih
      simp [List.filter_cons, hq, ih]
    · have e2 : (a ∈ x :: r) ↔ a ∈ r := by simp [e]
      cases hx : q x
      · simp [List.filter_cons, hx, e, ih]
      · simp [List.filter_cons, hx, e, ih]; omega
theorem who_count : ∀ {ms : List Mk}, Sorted ms → (∀ m ∈ ms, 0 ≤ m.who ∧ m.who < 16) → ms.length = ((List.range 16).filter (whoB ms)).length
  | [], _, _ => rfl
  | m :: l, hs, hw => by
    obtain ⟨h1, h2⟩ := sorted_cons.1 hs
    have ih := who_count h2 (fun x hx => hw x (List.mem_cons_of_mem _ hx))
    obtain ⟨g1, g2⟩ := hw m (by simp)
    obtain ⟨a, ha⟩ := Int.eq_ofNat_of_zero_le g1
    have hq : whoB l a = false := by
      unfold whoB
      rw [List.any_eq_false]
      intro x hx
      have := h1 x hx
      simp only [decide_eq_true_eq]; omega
    have e : (fun i => whoB l i || decide (a = i)) = whoB (m :: l) := by
      funext i
      unfold whoB
      rw [List.any_cons, Bool.or_comm]
      congr 1
      rw [decide_eq_decide]; omega
    have := filter_one hq (r := List.range 16) List.nodup_range
    rw [e, if_pos (List.mem_range.2 (by omega)), ← ih] at this
    rw [this, List.length_cons]
theorem filter_sub {p q : Nat → Bool} (h : ∀ i, p i = true → q i = true) : ∀ {r : List Nat}, (r.filter p).length ≤ (r.filter q).length ∧ ((r.filter q).length ≤ (r.filter p).length → ∀ i ∈ r, q i = true → p i = true)
  | [] => by simp
  | x :: r => by
    obtain ⟨h1, h2⟩ := filter_sub h (r := r)
    have hx := h x
    simp only [List.filter_cons]
    cases hp : p x <;> cases hqx : q x
    · refine ⟨by simpa using h1, fun hl i hi hqi => ?_⟩
      simp at hl
      rcases List.mem_cons.1 hi with rfl | hi
      · rw [hqx] at hqi; cases hqi
      · exact h2 hl i hi hqi
    · refine ⟨by simp; omega, fun hl => ?_⟩
      simp at hl; omega
    · rw [hp, hqx] at hx; exact absurd (hx rfl) (by simp)
    · refine ⟨by simpa using h1, fun hl i hi hqi => ?_⟩
      simp at hl
      rcases List.mem_cons.1 hi with rfl | hi
      · exact hp
      · exact h2 hl i hi hqi
theorem who_has {M : Int} {m : Mk} {v : Int} (h : okc v M m = true) : hasB M m.who = true ∧ (applyS v M m.add m.id).2 = 0 := by
  simp only [okc, Bool.and_eq_true, decide_eq_true_eq] at h
  exact ⟨h.2, h.1⟩
theorem has_lt {s x : Int} (h : hasB s x = true) : x < 16 := by
  simp only [hasB, Bool.and_eq_true, decide_eq_true_eq] at h
  exact h.1
theorem put_ok {v M : Int} {ms : List Mk} {t : Mk} (h : (putS v M ms t).2 = 0) : rightB v M ms = true ∧ okc v M t = true ∧ (ms.any fun m => decide (m.who = t.who)) = false ∧ (putS v M ms t).1 = insS ms t := by
  unfold putS at h ⊢
  cases h1 : rightB v M ms
  · simp [h1] at h
  · cases h2 : hasB M t.who
    · simp [h1, h2] at h
    · cases h3 : ms.any fun m => decide (m.who = t.who)
      · by_cases h4 : (applyS v M t.add t.id).2 = 0
        · exact ⟨rfl, by simp [okc, h2, h4], rfl, by simp [h1, h2, h3, h4]⟩
        · simp [h1, h2, h3, h4] at h
      · simp [h1, h2, h3] at h
theorem put_not {v M : Int} {ms : List Mk} {t : Mk} (h : (putS v M ms t).2 ≠ 0) : (putS v M ms t).1 = ms := by
  unfold putS at h ⊢
  cases h1 : rightB v M ms
  · simp
  · cases h2 : hasB M t.who
    · simp
    · cases h3 : ms.any fun m => decide (m.who = t.who)
      · by_cases h4 : (applyS v M t.add t.id).2 = 0
        · simp [h1, h2, h3, h4] at h
        · simp [h4]
      · simp
theorem put_right {v M : Int} {ms : List Mk} {t : Mk} (h : (putS v M ms t).2 = 0) : rightB v M (putS v M ms t).1 = true := by
  obtain ⟨h1, h2, h3, h5⟩ := put_ok h
  rw [h5]
  obtain ⟨g1, g2, g3⟩ := right_iff.1 h1
  refine right_iff.2 ⟨fun m hm => ?_, insS_sorted g2 fun m hm e => ?_, g3⟩
  · rcases insS_mem.1 hm with rfl | hm
    · exact h2
    · exact g1 m hm
  · rw [List.any_eq_false] at h3
    exact h3 m hm (by simpa using e)
/-- A box behind puts: right, or of a view that may not be, and empty. -/
def Fine (v M : Int) (ms : List Mk) : Prop := rightB v M ms = true ∨ (rollB v M = false ∧ ms = [])
theorem fine_start (v M : Int) : Fine v M [] := by
  cases h : rollB v M
  · exact .inr ⟨h, rfl⟩
  · exact .inl (right_iff.2 ⟨fun m hm => (by cases hm), fun i j p q _ hp => (by cases hp), h⟩)
theorem fine_put {v M : Int} {ms : List Mk} (t : Mk) (h : Fine v M ms) : Fine v M (putS v M ms t).1 := by
  by_cases hz : (putS v M ms t).2 = 0
  · exact .inl (put_right hz)
  · rw [put_not hz]; exact h
def rowS (v M : Int) (l : List Mk) (k : Nat) : List Mk := (l.take k).foldl (fun acc t => (putS v M acc t).1) []
theorem rowS_succ {v M : Int} {l : List Mk} {k : Nat} {m : Mk} (hm : l[k]? = some m) : rowS v M l (k + 1) = (putS v M (rowS v M l k) m).1 := by
  unfold rowS; rw [take_step hm, List.foldl_append]; rfl
theorem rowS_ok (v M : Int) {l : List Mk} (h : ∀ m ∈ l, m.Ok) : ∀ k, k ≤ l.length → (∀ m ∈ rowS v M l k, m.Ok) ∧ (rowS v M l k).length ≤ k ∧ Fine v M (rowS v M l k)
  | 0, _ => ⟨fun m hm => by simp [rowS] at hm, by simp [rowS], fine_start v M⟩
  | k + 1, hk => by
    obtain ⟨h1, h2, h3⟩ := rowS_ok v M h k (by omega)
    obtain ⟨m, hm⟩ : ∃ m, l[k]? = some m := ⟨_, List.getElem?_eq_getElem (by omega)⟩
    rw [rowS_succ hm]
    refine ⟨putS_ok h1 (h m (List.mem_of_getElem? hm)), ?_, fine_put m h3⟩
    have := putS_len v M (rowS v M l k) m
    omega
/-! ### Who wants a change, and how many -/
theorem with_bits {s x : Int} (h0 : 0 ≤ s ∧ s < 65536) (hx : 0 ≤ x) {i : Nat} (hi : i < 16) : hasB (withB s x) i = (hasB s i || decide (x = i)) := by
  obtain ⟨a, rfl⟩ := Int.eq_ofNat_of_zero_le h0.1
  obtain ⟨m, rfl⟩ := Int.eq_ofNat_of_zero_le hx
  by_cases hm : m < 16
  · have e : withB (a : Int) (m : Int) = ((a ||| 2 ^ m : Nat) : Int) := by
      have h1 := bor_with h0.1 h0.2 hx
      rw [← h1, bit_nat hm]
      have h4 : 2 ^ m < 2 ^ 16 := Nat.pow_lt_pow_right (by decide) hm
      have ha : a < 2 ^ 16 := by rw [p16]; omega
      have hor : a ||| 2 ^ m < 2 ^ 16 := Nat.or_lt_two_pow ha h4
      rw [p16] at hor
      rw [bor_nat (k := .u16) ha h4, wU16, Int.emod_eq_of_lt (by omega) (by omega)]
    rw [e, has_bit _ i hi, has_bit _ i hi, Nat.testBit_or, Nat.testBit_two_pow]
    congr 1
    rw [decide_eq_decide]; omega
  · unfold withB
    rw [has_big (s := (a : Int)) (x := (m : Int)) (by omega), if_neg (by decide), bit_big (by omega), Int.add_zero, decide_eq_false (by omega), Bool.or_false]
theorem fold_bits {add : Bool} {id : Int} {i : Nat} (hi : i < 16) : ∀ {ms : List Mk} {s : Int}, (∀ m ∈ ms, m.Ok) → 0 ≤ s ∧ s < 65536 → hasB (ms.foldl (forF add id) s) i = (hasB s i || whoB (ms.filter (wants add id)) i)
  | [], s, _, _ => by simp [whoB]
  | m :: r, s, hms, hs => by
    have hm := hms m (by simp)
    rw [List.foldl_cons, fold_bits hi (ms := r) (fun x hx => hms x (List.mem_cons_of_mem _ hx)) (forF_rng hm hs)]
    rw [List.filter_cons]
    unfold forF
    cases hw : wants add id m
    · simp
    · rw [if_pos rfl, if_pos rfl, with_bits hs hm.1.1 hi]
      simp [whoB, Bool.or_assoc]
theorem for_bits {ms : List Mk} (hms : ∀ m ∈ ms, m.Ok) (add : Bool) (id : Int) {i : Nat} (hi : i < 16) : hasB (forL ms add id) i = whoB (ms.filter (wants add id)) i := by
  unfold forL
  rw [fold_bits hi hms (by decide)]
  have : hasB 0 i = false := by
    have := has_bit 0 i hi
    simpa using this
  rw [this, Bool.false_or]
theorem sorted_filter : ∀ {ms : List Mk} (p : Mk → Bool), Sorted ms → Sorted (ms.filter p)
  | [], p, h => fun i j a b _ hp => (by cases hp)
  | m :: r, p, h => by
    obtain ⟨h1, h2⟩ := sorted_cons.1 h
    have ih := sorted_filter p h2
    rw [List.filter_cons]
    split
    · exact sorted_cons.2 ⟨fun x hx => h1 x ((List.mem_filter.1 hx).1), ih⟩
    · exact ih
theorem for_size {v M : Int} {ms : List Mk} (hms : ∀ m ∈ ms, m.Ok) (hr : rightB v M ms = true) (add : Bool) (id : Int) : sizeB (forS v M ms add id) = (ms.filter (wants add id)).length := by
  obtain ⟨g1, g2, g3⟩ := right_iff.1 hr
  have h1 := who_count (sorted_filter (wants add id) g2) fun m hm => ⟨(hms m (List.mem_filter.1 hm).1).1.1, has_lt (who_has (g1 m ((List.mem_filter.1 hm).1))).1⟩
  rw [h1]
  unfold sizeB forS
  rw [if_pos hr]
  congr 1
  exact List.filter_congr fun i hi => for_bits hms add id (List.mem_range.1 hi)
theorem right_len {v M : Int} {ms : List Mk} (hms : ∀ m ∈ ms, m.Ok) (hr : rightB v M ms = true) : ms.length ≤ sizeB M := by
  obtain ⟨g1, g2, g3⟩ := right_iff.1 hr
  rw [who_count g2 fun m hm => ⟨(hms m hm).1.1, has_lt (who_has (g1 m hm)).1⟩]
  refine (filter_sub fun i hi => ?_).1
  obtain ⟨m, hm, he⟩ := List.any_eq_true.1 hi
  rw [← of_decide_eq_true he]
  exact (who_has (g1 m hm)).1
theorem two_wants {a b : Bool} {x y : Int} (hne : ¬ (a = b ∧ x = y)) : ∀ ms : List Mk, (ms.filter (wants a x)).length + (ms.filter (wants b y)).length ≤ ms.length
  | [] => by simp
  | m :: r => by
    have ih := two_wants hne r
    rw [List.filter_cons, List.filter_cons]
    cases h1 : wants a x m <;> cases h2 : wants b y m
    · simp; omega
    · simp; omega
    · simp; omega
    · exfalso
      simp only [wants, Bool.and_eq_true, decide_eq_true_eq] at h1 h2
      exact hne ⟨h1.1.symm.trans h2.1, h1.2.symm.trans h2.2⟩
theorem size_le (M : Int) : sizeB M ≤ 16 := by
  unfold sizeB
  have := List.length_filter_le (fun i : Nat => hasB M i) (List.range 16)
  simpa using this
theorem echoes_big {n : Nat} (hn : n ≤ 16) : (n : Int) + faultyB n < 2 * echoesB n := by
  have : (n : Int) ≤ heldB n := by unfold heldB; split <;> split <;> omega
  have h2 : 0 ≤ faultyB (n : Int) := by have := held_rng (n : Int); unfold faultyB; omega
  unfold echoesB
  omega
theorem faulty_pos (n : Int) : 0 ≤ faultyB n := by have := held_rng n; unfold faultyB; omega
theorem enough_right {v M : Int} {ms : List Mk} {m : Mk} (h : enoughB v M ms m = true) : rightB v M ms = true := by
  cases hr : rightB v M ms
  · rw [forS_not hr m] at h; cases h
  · rfl
theorem enough_iff {v M : Int} {ms : List Mk} (hms : ∀ m ∈ ms, m.Ok) (hr : rightB v M ms = true) (m : Mk) : enoughB v M ms m = true ↔ echoesB (sizeB M) ≤ (ms.filter (wants m.add m.id)).length := by
  unfold enoughB
  rw [decide_eq_true_eq, for_size hms hr]
/-- No two unlike changes have enough. -/
theorem enough_one {v M : Int} {ms : List Mk} (hms : ∀ m ∈ ms, m.Ok) {a b : Mk} (ha : enoughB v M ms a = true) (hb : enoughB v M ms b = true) : a.add = b.add ∧ a.id = b.id := by
  have hr := enough_right ha
  have h1 := (enough_iff hms hr a).1 ha
  have h2 := (enough_iff hms hr b).1 hb
  have h3 := right_len hms hr
  have h4 := echoes_big (size_le M)
  have h5 := faulty_pos (sizeB M : Int)
  apply Classical.byContradiction
  intro hne
  have := two_wants hne ms
  omega
theorem ch_some {v M : Int} {ms : List Mk} (h : (chS v M ms).2 = true) : ∃ m ∈ ms, enoughB v M ms m = true ∧ (chS v M ms).1 = (m.add, m.id) := by
  unfold chS at h ⊢
  cases hf : ms.find? (enoughB v M ms) with
  | none => rw [hf] at h; cases h
  | some m => exact ⟨m, List.mem_of_find?_eq_some hf, List.find?_some hf, rfl⟩
theorem ch_is {v M : Int} {ms : List Mk} (hms : ∀ m ∈ ms, m.Ok) {m : Mk} (hm : m ∈ ms) (he : enoughB v M ms m = true) : chS v M ms = ((m.add, m.id), true) := by
  unfold chS
  cases hf : ms.find? (enoughB v M ms) with
  | none => exact absurd he (List.find?_eq_none.1 hf m hm)
  | some x =>
    obtain ⟨h1, h2⟩ := enough_one hms (List.find?_some hf) he
    simp only [h1, h2]
theorem ins_filter (p : Mk → Bool) (ms : List Mk) (t : Mk) : ((insS ms t).filter p).length = (ms.filter p).length + if p t = true then 1 else 0 := by
  have e := List.takeWhile_append_dropWhile (p := before t) (l := ms)
  have h : (ms.filter p).length = ((ms.takeWhile (before t)).filter p).length + ((ms.dropWhile (before t)).filter p).length := by
    rw [← List.length_append, ← List.filter_append, e]
  unfold insS
  rw [List.filter_append, List.length_append, List.filter_cons, h]
  split
  · simp; omega
  · simp
/-- What is chosen stays. -/
theorem ch_stays {v M : Int} {ms : List Mk} {t : Mk} (hms : ∀ m ∈ ms, m.Ok) (ht : t.Ok) (h : (chS v M ms).2 = true) : chS v M (putS v M ms t).1 = chS v M ms := by
  obtain ⟨m, hm, he, hc⟩ := ch_some h
  by_cases hz : (putS v M ms t).2 = 0
  · have hr := enough_right he
    have hr' := put_right hz
    have hms' := putS_ok (v := v) (M := M) hms ht
    obtain ⟨_, _, _, h5⟩ := put_ok hz
    have hm' : m ∈ (putS v M ms t).1 := by rw [h5]; exact insS_mem.2 (.inr hm)
    have he' : enoughB v M (putS v M ms t).1 m = true := by
      rw [enough_iff hms' hr', h5, ins_filter]
      have := (enough_iff hms hr m).1 he
      split <;> omega
    rw [ch_is hms' hm' he', ch_is hms hm he]
  · rw [put_not hz]
end Go.Proofs.Ytcgkeepihinegaa
