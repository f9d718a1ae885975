/-
  Plain laws of flushes: who has flushed, and when all have.
-/
import Derived.Test.YtcmooifiiakbdaaP
set_option linter.unusedVariables false
set_option linter.unusedSimpArgs false
namespace Go.Proofs.Ytcmooifiiakbdaa
open Go Go.Sx Go.RowKit
/-- The marks' members, as a set. -/
def whoB (ms : List Mk) (i : Nat) : Bool := ms.any fun m => decide (m.who = i)
theorem has_bit (a i : Nat) (hi : i < 16) : hasB (a : Int) i = a.testBit i := by
  unfold hasB
  rw [decide_eq_true (by omega), Bool.true_and, Nat.testBit_eq_decide_div_mod_eq, Int.toNat_natCast, pow_nat]
  rw [decide_eq_decide]
  omega
theorem bits_ext {x y : Int} (hx : 0 ≤ x ∧ x < 65536) (hy : 0 ≤ y ∧ y < 65536) (h : ∀ i : Nat, i < 16 → hasB x i = hasB y i) : x = y := by
  obtain ⟨a, rfl⟩ := Int.eq_ofNat_of_zero_le hx.1
  obtain ⟨b, rfl⟩ := Int.eq_ofNat_of_zero_le hy.1
  have key : ∀ (a i : Nat), i < 16 → hasB (a : Int) i = a.testBit i := fun a i hi => by
    unfold hasB
    rw [decide_eq_true (by omega), Bool.true_and, Nat.testBit_eq_decide_div_mod_eq, Int.toNat_natCast, pow_nat]
    rw [decide_eq_decide]
    omega
  congr 1
  apply Nat.eq_of_testBit_eq
  intro i
  by_cases hi : i < 16
  · rw [← key a i hi, ← key b i hi, h i hi]
  · have e : ∀ a : Nat, a < 65536 → a.testBit i = false := fun a ha => Nat.testBit_lt_two_pow (Nat.lt_of_lt_of_le ha (by
      have : 2 ^ 16 ≤ 2 ^ i := Nat.pow_le_pow_right (by decide) (by omega)
      simpa using this))
    rw [e a (by omega), e b (by omega)]
/-- Strictly rising, each a member, each fit: what is right, said by parts. -/
theorem right_iff {M : Int} {ms : List Mk} : rightB M ms = true ↔ (∀ m ∈ ms, hasB M m.who = true ∧ fitsB M m.past = true) ∧ Sorted ms ∧ M ≠ 0 := by
  constructor
  · intro h
    refine ⟨fun m hm => ?_, sorted_of h, ?_⟩
    · simp only [rightB, Bool.and_eq_true, List.all_eq_true, List.mem_range] at h
      obtain ⟨j, hj⟩ := List.mem_iff_getElem?.1 hm
      have := h.1 j (List.getElem?_eq_some_iff.1 hj).1
      simp only [at1, hj, Bool.and_eq_true] at this
      exact this.1
    · simp only [rightB, Bool.and_eq_true, Bool.not_eq_true', decide_eq_false_iff_not] at h
      exact h.2
  · rintro ⟨h1, h2, h3⟩
    simp only [rightB, Bool.and_eq_true, Bool.not_eq_true', decide_eq_false_iff_not]
    refine ⟨List.all_eq_true.2 fun j hj => ?_, h3⟩
    have hj := List.mem_range.1 hj
    have hm := List.getElem?_eq_getElem hj
    obtain ⟨g1, g2⟩ := h1 _ (List.mem_of_getElem? hm)
    simp only [at1, hm, g1, g2, Bool.true_and]
    cases j with
    | zero => rfl
    | succ j =>
      have hp := List.getElem?_eq_getElem (show j < ms.length by omega)
      simp only [hp]
      exact decide_eq_true (h2 j (j + 1) _ _ (by omega) hp hm)
theorem sorted_cons {m : Mk} {l : List Mk} : Sorted (m :: l) ↔ (∀ x ∈ l, m.who < x.who) ∧ Sorted l := by
  constructor
  · intro h
    refine ⟨fun x hx => ?_, fun i j p q hij hp hq => h (i + 1) (j + 1) p q (by omega) (by simpa using hp) (by simpa using hq)⟩
    obtain ⟨j, hj⟩ := List.mem_iff_getElem?.1 hx
    exact h 0 (j + 1) m x (by omega) rfl (by simpa using hj)
  · rintro ⟨h1, h2⟩ i j p q hij hp hq
    cases j with
    | zero => omega
    | succ j =>
      cases i with
      | zero =>
        simp at hp hq
        rw [← hp]
        exact h1 q (List.mem_of_getElem? hq)
      | succ i => exact h2 i j p q (by omega) (by simpa using hp) (by simpa using hq)
theorem insS_mem {ms : List Mk} {t x : Mk} : x ∈ insS ms t ↔ x = t ∨ x ∈ ms := by
  unfold insS
  rw [List.mem_append, List.mem_cons]
  have := List.takeWhile_append_dropWhile (p := before t) (l := ms)
  have h : x ∈ ms ↔ x ∈ ms.takeWhile (before t) ∨ x ∈ ms.dropWhile (before t) := by rw [← List.mem_append, this]
  rw [h]
  constructor
  · rintro (h | h | h)
    · exact .inr (.inl h)
    · exact .inl h
    · exact .inr (.inr h)
  · rintro (h | h | h)
    · exact .inr (.inl h)
    · exact .inl h
    · exact .inr (.inr h)
theorem insS_sorted : ∀ {ms : List Mk} {t : Mk} (h : Sorted ms) (hne : ∀ m ∈ ms, m.who ≠ t.who), Sorted (insS ms t)
  | [], t, _, _ => sorted_cons.2 ⟨fun x hx => (by cases hx), fun i j p q _ hp => (by cases hp)⟩
  | m :: l, t, h, hne => by
    obtain ⟨h1, h2⟩ := sorted_cons.1 h
    by_cases hb : before t m = true
    · have e : insS (m :: l) t = m :: insS l t := by simp only [insS, List.takeWhile_cons, List.dropWhile_cons, hb, if_true, List.cons_append]
      rw [e]
      have hle : ¬ t.who < m.who := by simpa [before] using hb
      refine sorted_cons.2 ⟨fun x hx => ?_, insS_sorted h2 (fun x hx => hne x (List.mem_cons_of_mem _ hx))⟩
      rcases insS_mem.1 hx with rfl | hx
      · have := hne m (by simp)
        omega
      · exact h1 x hx
    · have hb : before t m = false := by simpa using hb
      have e : insS (m :: l) t = t :: m :: l := by simp only [insS, List.takeWhile_cons, List.dropWhile_cons, hb, Bool.false_eq_true, if_false, List.nil_append]
      rw [e]
      have hlt : t.who < m.who := by simpa [before] using hb
      refine sorted_cons.2 ⟨fun x hx => ?_, h⟩
      rcases List.mem_cons.1 hx with rfl | hx
      · exact hlt
      · have := h1 x hx; omega
theorem put_ok {M : Int} {ms : List Mk} {t : Mk} (h : (putS M ms t).2 = 0) : rightB M ms = true ∧ hasB M t.who = true ∧ (ms.any fun m => decide (m.who = t.who)) = false ∧ fitsB M t.past = true ∧ (putS M ms t).1 = insS ms t := by
  unfold putS at h ⊢
  cases h1 : rightB M ms
  · simp [h1] at h
  · cases h2 : hasB M t.who
    · simp [h1, h2] at h
    · cases h3 : ms.any fun m => decide (m.who = t.who)
      · cases h4 : fitsB M t.past
        · simp [h1, h2, h3, h4] at h
        · exact ⟨rfl, rfl, rfl, rfl, by simp [h1, h2, h3, h4]⟩
      · simp [h1, h2, h3] at h
theorem put_not {M : Int} {ms : List Mk} {t : Mk} (h : (putS M ms t).2 ≠ 0) : (putS M ms t).1 = ms := by
  unfold putS at h ⊢
  cases h1 : rightB M ms
  · simp
  · cases h2 : hasB M t.who
    · simp
    · cases h3 : ms.any fun m => decide (m.who = t.who)
      · cases h4 : fitsB M t.past
        · simp
        · simp [h1, h2, h3, h4] at h
      · simp
theorem put_right {M : Int} {ms : List Mk} {t : Mk} (h : (putS M ms t).2 = 0) : rightB M (putS M ms t).1 = true := by
  obtain ⟨h1, h2, h3, h4, h5⟩ := put_ok h
  rw [h5]
  obtain ⟨g1, g2, g3⟩ := right_iff.1 h1
  refine right_iff.2 ⟨fun m hm => ?_, insS_sorted g2 fun m hm e => ?_, g3⟩
  · rcases insS_mem.1 hm with rfl | hm
    · exact ⟨h2, h4⟩
    · exact g1 m hm
  · rw [List.any_eq_false] at h3
    exact h3 m hm (by simpa using e)
theorem whoB_ins {ms : List Mk} {t : Mk} (i : Nat) : whoB (insS ms t) i = (whoB ms i || decide (t.who = i)) := by
  unfold whoB
  rw [Bool.eq_iff_iff]
  simp only [List.any_eq_true, Bool.or_eq_true, decide_eq_true_eq, insS_mem]
  constructor
  · rintro ⟨x, rfl | hx, h⟩
    · exact .inr h
    · exact .inl ⟨x, hx, h⟩
  · rintro (⟨x, hx, h⟩ | h)
    · exact ⟨x, .inr hx, h⟩
    · exact ⟨t, .inl rfl, h⟩
theorem filter_one {q : Nat → Bool} {a : Nat} (hq : q a = false) : ∀ {r : List Nat}, r.Nodup → (r.filter fun i => q i || decide (a = i)).length = (r.filter q).length + if a ∈ r then 1 else 0
  | [], _ => by simp
  | x :: r, h => by
    obtain ⟨h1, h2⟩ := List.nodup_cons.1 h
    have ih := filter_one (q := q) (a := a) hq h2
    by_cases e : a = x
    · subst e
      rw [if_neg h1] at ih
      simp [List.filter_cons, hq, ih]
    · have e2 : (a ∈ x :: r) ↔ a ∈ r := by simp [e]
      cases hx : q x
      · simp [List.filter_cons, hx, e, ih]
      · simp [List.filter_cons, hx, e, ih]; omega
theorem who_count : ∀ {ms : List Mk}, Sorted ms → (∀ m ∈ ms, 0 ≤ m.who ∧ m.who < 16) → ms.length = ((List.range 16).filter (whoB ms)).length
  | [], _, _ => rfl
  | m :: l, hs, hw => by
    obtain ⟨h1, h2⟩ := sorted_cons.1 hs
    have ih := who_count h2 (fun x hx => hw x (List.mem_cons_of_mem _ hx))
    obtain ⟨g1, g2⟩ := hw m (by simp)
    obtain ⟨a, ha⟩ := Int.eq_ofNat_of_zero_le g1
    have hq : whoB l a = false := by
      unfold whoB
      rw [List.any_eq_false]
      intro x hx
      have := h1 x hx
      simp only [decide_eq_true_eq]; omega
    have e : (fun i => whoB l i || decide (a = i)) = whoB (m :: l) := by
      funext i
      unfold whoB
      rw [List.any_cons, Bool.or_comm]
      congr 1
      rw [decide_eq_decide]; omega
    have := filter_one hq (r := List.range 16) List.nodup_range
    rw [e, if_pos (List.mem_range.2 (by omega)), ← ih] at this
    rw [this, List.length_cons]
theorem filter_sub {p q : Nat → Bool} (h : ∀ i, p i = true → q i = true) : ∀ {r : List Nat}, (r.filter p).length ≤ (r.filter q).length ∧ ((r.filter q).length ≤ (r.filter p).length → ∀ i ∈ r, q i = true → p i = true)
  | [] => by simp
  | x :: r => by
    obtain ⟨h1, h2⟩ := filter_sub h (r := r)
    have hx := h x
    simp only [List.filter_cons]
    cases hp : p x <;> cases hqx : q x
    · refine ⟨by simpa using h1, fun hl i hi hqi => ?_⟩
      simp at hl
      rcases List.mem_cons.1 hi with rfl | hi
      · rw [hqx] at hqi; cases hqi
      · exact h2 hl i hi hqi
    · refine ⟨by simp; omega, fun hl => ?_⟩
      simp at hl; omega
    · rw [hp, hqx] at hx; exact absurd (hx rfl) (by simp)
    · refine ⟨by simpa using h1, fun hl i hi hqi => ?_⟩
      simp at hl
      rcases List.mem_cons.1 hi with rfl | hi
      · exact hp
      · exact h2 hl i hi hqi
theorem bor_nat {k : IntKind} {x y : Nat} (hx : x < 2 ^ k.bits) (hy : y < 2 ^ k.bits) : bor k x y = k.wrap ((x ||| y : Nat) : Int) := by
  unfold bor
  congr 1
  have e : ∀ z : Nat, BitVec.ofInt k.bits (z : Int) = BitVec.ofNat k.bits z := fun z => BitVec.ofInt_natCast _ _
  rw [e, e, BitVec.toNat_or, BitVec.toNat_ofNat, BitVec.toNat_ofNat, Nat.mod_eq_of_lt hx, Nat.mod_eq_of_lt hy]
theorem bor_bit {x n : Int} (hx : 0 ≤ x ∧ x < 65536) (hn : 0 ≤ n ∧ n < 16) : (0 ≤ bor .u16 x (bshl .u16 1 n) ∧ bor .u16 x (bshl .u16 1 n) < 65536) ∧ ∀ i : Nat, i < 16 → hasB (bor .u16 x (bshl .u16 1 n)) i = (hasB x i || decide (n = i)) := by
  obtain ⟨a, rfl⟩ := Int.eq_ofNat_of_zero_le hx.1
  obtain ⟨m, rfl⟩ := Int.eq_ofNat_of_zero_le hn.1
  have hm : m < 16 := by omega
  have h4 : 2 ^ m < 2 ^ 16 := Nat.pow_lt_pow_right (by decide) hm
  have ha : a < 2 ^ 16 := by have : (2 : Nat) ^ 16 = 65536 := rfl; omega
  have e1 : bshl .u16 1 (m : Int) = ((2 ^ m : Nat) : Int) := by
    unfold bshl
    rw [Int.one_mul, Int.toNat_natCast, Nat.min_eq_left (by show m ≤ 16; omega), pow_nat, wU16]
    have : (2 : Nat) ^ 16 = 65536 := rfl
    generalize 2 ^ m = q at *
    omega
  have hor : a ||| 2 ^ m < 2 ^ 16 := Nat.or_lt_two_pow ha h4
  have e2 : bor .u16 (a : Int) ((2 ^ m : Nat) : Int) = ((a ||| 2 ^ m : Nat) : Int) := by
    rw [bor_nat (k := .u16) ha h4, wU16]
    have : (2 : Nat) ^ 16 = 65536 := rfl
    generalize a ||| 2 ^ m = q at *
    omega
  rw [e1, e2]
  refine ⟨⟨Int.natCast_nonneg _, by have : (2 : Nat) ^ 16 = 65536 := rfl; generalize a ||| 2 ^ m = q at *; omega⟩, fun i hi => ?_⟩
  rw [has_bit _ i hi, has_bit _ i hi, Nat.testBit_or, Nat.testBit_two_pow]
  congr 1
  rw [decide_eq_decide]; omega
theorem tgt_had {M had : Int} {ms : List Mk} (hM : 0 ≤ M ∧ M < 65536) (hh : 0 ≤ had ∧ had < 65536) (hb : ∀ i : Nat, i < 16 → hasB had i = whoB ms i) (hok : ∀ m ∈ ms, m.Ok) (hr : rightB M ms = true ∨ (M = 0 ∧ ms = [])) : tgtB M ms = (decide (had = M) && !decide (M = 0)) := by
  rcases hr with hr | ⟨rfl, rfl⟩
  · obtain ⟨g1, g2, g3⟩ := right_iff.1 hr
    have hwho : ∀ m ∈ ms, 0 ≤ m.who ∧ m.who < 16 := fun m hm => ⟨(hok m hm).1.1, who_lt hr hm⟩
    have hsub : ∀ i : Nat, whoB ms i = true → hasB M i = true := fun i hi => by
      obtain ⟨m, hm, he⟩ := List.any_eq_true.1 hi
      have := (g1 m hm).1
      rw [of_decide_eq_true he] at this
      exact this
    have hcnt := who_count g2 hwho
    obtain ⟨f1, f2⟩ := filter_sub (p := whoB ms) (q := fun i : Nat => hasB M i) hsub (r := List.range 16)
    simp only [tgtB, hr, Bool.true_and, decide_eq_false g3, Bool.not_false, Bool.and_true]
    by_cases he : had = M
    · subst he
      have : ((List.range 16).filter fun i : Nat => hasB had i) = (List.range 16).filter (whoB ms) := List.filter_congr fun i hi => hb i (List.mem_range.1 hi)
      rw [decide_eq_true rfl, decide_eq_false]; rfl
      unfold sizeB
      rw [this]; omega
    · rw [decide_eq_false he, decide_eq_true]; rfl
      rcases Nat.lt_or_ge ms.length (sizeB M) with h | h
      · omega
      · exfalso
        apply he
        refine bits_ext hh hM fun i hi => ?_
        rw [hb i hi, Bool.eq_iff_iff]
        exact ⟨hsub i, fun h' => f2 (by unfold sizeB at h; omega) i (List.mem_range.2 hi) h'⟩
  · have : rightB 0 [] = false := by rfl
    simp [tgtB, this]
end Go.Proofs.Ytcmooifiiakbdaa
