/-
  RollApplies and RollMembers: walked.
-/
import Derived.Test.YteogjiadmgbmbaaDoorG
set_option linter.unusedVariables false
set_option linter.unusedSimpArgs false
namespace Go.Proofs.YteogjiadmgbmbaaDoor
open Go Go.Sx Go.RowKit
set_option maxHeartbeats 1000000
set_option maxRecDepth 20000
theorem bxor_nat {k : IntKind} {x y : Nat} (hx : x < 2 ^ k.bits) (hy : y < 2 ^ k.bits) : bxor k x y = k.wrap ((x ^^^ y : Nat) : Int) := by
  unfold bxor
  congr 1
  have e : ∀ z : Nat, BitVec.ofInt k.bits (z : Int) = BitVec.ofNat k.bits z := fun z => BitVec.ofInt_natCast _ _
  rw [e, e, BitVec.toNat_xor, BitVec.toNat_ofNat, BitVec.toNat_ofNat, Nat.mod_eq_of_lt hx, Nat.mod_eq_of_lt hy]
theorem xor_or {a m : Nat} (h : a.testBit m = false) : (a ||| 2 ^ m) ^^^ a = 2 ^ m := by
  apply Nat.eq_of_testBit_eq
  intro i
  rw [Nat.testBit_xor, Nat.testBit_or, Nat.testBit_two_pow]
  by_cases e : m = i
  · subst e; simp [h]
  · simp [e]
theorem clear_bit {a m : Nat} (h : a.testBit m = true) : (a ^^^ 2 ^ m).testBit m = false ∧ (a ^^^ 2 ^ m) ||| 2 ^ m = a := by
  refine ⟨by rw [Nat.testBit_xor, Nat.testBit_two_pow]; simp [h], ?_⟩
  apply Nat.eq_of_testBit_eq
  intro i
  rw [Nat.testBit_or, Nat.testBit_xor, Nat.testBit_two_pow]
  by_cases e : m = i
  · subst e; simp [h]
  · simp [e]
theorem next_nat {M id : Int} {add : Bool} (h0 : 0 ≤ M) (h1 : M < 65536) (i0 : 0 ≤ id) (i1 : id < 16) (hb : hasB M id = !add) :
    ∃ a b m : Nat, M = a ∧ id = m ∧ nextB M add id = b ∧ a < 65536 ∧ b < 65536 ∧ m < 16 ∧ b ^^^ a = 2 ^ m ∧ b.testBit m = add := by
  obtain ⟨a, rfl⟩ := Int.eq_ofNat_of_zero_le h0
  obtain ⟨m, rfl⟩ := Int.eq_ofNat_of_zero_le i0
  have hm : m < 16 := by omega
  have h4 : 2 ^ m < 2 ^ 16 := Nat.pow_lt_pow_right (by decide) hm
  have hb' := hb
  rw [has_bit a m hm] at hb'
  cases add
  · have hc := clear_bit (a := a) (m := m) (by simpa using hb')
    have hlt : a ^^^ 2 ^ m < 2 ^ 16 := Nat.xor_lt_two_pow (by rw [p16]; omega) h4
    have := or_pow (a := a ^^^ 2 ^ m) (by rw [p16] at hlt; omega) hm
    rw [hc.1, hc.2] at this
    refine ⟨a, a ^^^ 2 ^ m, m, rfl, rfl, ?_, by omega, by rw [p16] at hlt; omega, hm, ?_, hc.1⟩
    · simp only [nextB, withoutB, hb, Bool.false_eq_true, if_false, Bool.not_false, if_true]
      rw [bit_nat hm]
      simp only [Bool.false_eq_true, if_false] at this
      omega
    · rw [Nat.xor_comm (a ^^^ 2 ^ m) a, ← Nat.xor_assoc, Nat.xor_self, Nat.zero_xor]
  · have hb2 : a.testBit m = false := by simpa using hb'
    have hlt : a ||| 2 ^ m < 2 ^ 16 := Nat.or_lt_two_pow (by rw [p16]; omega) h4
    have := or_pow (a := a) (by omega) hm
    rw [hb2] at this
    refine ⟨a, a ||| 2 ^ m, m, rfl, rfl, ?_, by omega, by rw [p16] at hlt; omega, hm, xor_or hb2, by rw [Nat.testBit_or, Nat.testBit_two_pow]; simp⟩
    simp only [nextB, withB, hb, Bool.not_true, Bool.false_eq_true, if_false, if_true]
    rw [bit_nat hm]
    simp only [Bool.false_eq_true, if_false] at this
    omega
theorem has_next {M id : Int} {add : Bool} (h0 : 0 ≤ M) (h1 : M < 65536) (i0 : 0 ≤ id) (i1 : id < 16) (hb : hasB M id = !add) : hasB (nextB M add id) id = add := by
  obtain ⟨a, b, m, rfl, rfl, hn, ha, hb', hm, hx, ht⟩ := next_nat h0 h1 i0 i1 hb
  rw [hn, has_bit b m hm, ht]
theorem xor_next {M id : Int} {add : Bool} (h0 : 0 ≤ M) (h1 : M < 65536) (i0 : 0 ≤ id) (i1 : id < 16) (hb : hasB M id = !add) : bxor .u16 (nextB M add id) M = bshl .u16 1 id := by
  obtain ⟨a, b, m, rfl, rfl, hn, ha, hb', hm, hx, ht⟩ := next_nat h0 h1 i0 i1 hb
  rw [hn, bxor_nat (k := .u16) (by show b < 2 ^ 16; rw [p16]; omega) (by show a < 2 ^ 16; rw [p16]; omega), hx]
  have : ∀ m : Nat, m < 16 → IntKind.u16.wrap (((2 ^ m : Nat)) : Int) = bshl .u16 1 (m : Int) := by decide +kernel
  exact this m hm
/-- Either nothing but an error comes back, or what the law asks for. -/
theorem applyS_cases {v M : Int} {add : Bool} {id : Int} (h0 : 0 ≤ M) (h1 : M < 65536) (i0 : 0 ≤ id) :
    ((applyS v M add id).2 ≠ 0 ∧ (applyS v M add id).1 = (0, 0)) ∨ ((applyS v M add id).2 = 0 ∧ (applyS v M add id).1 = (v + 1, nextB M add id) ∧ id < 16 ∧ hasB M id = (!add) ∧ 0 ≤ v ∧ v < 1000 ∧ nextB M add id ≠ 0) := by
  unfold applyS
  split
  · exact .inl ⟨by decide, rfl⟩
  · rename_i g1
    split
    · exact .inl ⟨by decide, rfl⟩
    · rename_i g2
      split
      · exact .inl ⟨by decide, rfl⟩
      · rename_i g3
        split
        · exact .inl ⟨by decide, rfl⟩
        · rename_i g4
          split
          · exact .inl ⟨by decide, rfl⟩
          · rename_i g5
            have hr : rollB v M = true ∧ ¬ 16 ≤ id := by simpa using g1
            have hv : (0 ≤ v ∧ v ≤ 1000) ∧ M ≠ 0 := by simpa only [rollB, Bool.and_eq_true, decide_eq_true_eq, Bool.not_eq_true', decide_eq_false_iff_not] using hr.1
            refine .inr ⟨rfl, rfl, by omega, ?_, by omega, by omega, g5⟩
            cases add <;> cases hh : hasB M id <;> simp_all
theorem ent6 : Ent Tryd.prog 6 := by unfold Ent; kernel_rfl
theorem ent7 : Ent Tryd.prog 7 := by unfold Ent; kernel_rfl
theorem rollApplies_calls {v M : Int} {add : Bool} {id : Int} (h0 : 0 ≤ M) (h1 : M < 65536) (i0 : 0 ≤ id) (i1 : id < 256) (w0 : World) : ∀ ad, Calls Tryd.prog 3 (SV.dens ad [rol v M, chg add id]).toArray w0 (Ret w0 (.bool true)) := by
  refine calls_sound tabOK Tryd.func3 rfl (by kernel_rfl) (Nat.le_of_ble_eq_true rfl) ⟨⟨rfl, rfl, trivial⟩, ⟨rfl, rfl, trivial⟩, trivial⟩ ?_
  conv => whnf
  refine call_det (.lit true) ent6 (fun ad w _ => alive_calls w ad) trivial ?_
  conv => whnf
  have hA := fun w ad => apply_calls (v := v) (M := M) (add := add) (id := id) h0 h1 i0 i1 w ad
  have hB := fun w ad => applyR_calls (v := v) (M := M) (add := add) (id := id) h0 h1 i0 i1 w ad
  generalize applyS v M add id = r at hA hB
  obtain ⟨⟨v', M'⟩, e⟩ := r
  refine call_det (.tup [rol v' M', .v (.int .i64 e)]) ent7 (fun ad w _ => hA w ad) ⟨⟨rfl, rfl, trivial⟩, rfl, trivial⟩ ?_
  conv => whnf
  refine call_det (.tup [rol v' M', .v (.int .i64 e)]) (show Ent Tryd.prog 8 by unfold Ent; kernel_rfl) (fun ad w _ => hB w ad) ⟨⟨rfl, rfl, trivial⟩, rfl, trivial⟩ ?_
  conv => whnf
  refine draw_rule tabOK mixed [] [] pP3_5 [] (by kernel_rfl) (by kernel_rfl) ?_
  conv => whnf
  refine call_det (.v (.bool (rollB v M))) ent9 (fun ad w _ => rollRight_calls v M w ad) rfl ?_
  conv => whnf
  refine call_det (.v (.bool (rollB v M))) (show Ent Tryd.prog 10 by unfold Ent; kernel_rfl) (fun ad w _ => rollRightR_calls v M w ad) rfl ?_
  conv => whnf
  refine ⟨fun _ => ?_, fun h => absurd h (by simp)⟩
  conv => whnf
  refine eq_plain (ks := ksRoll) (by kernel_rfl) rfl rfl rfl (by exact ⟨rfl, rfl, trivial⟩) (by exact ⟨rfl, rfl, trivial⟩) ?_
  conv => whnf
  refine ⟨fun _ => ?_, fun h => absurd h (by simp [eqS, eq1])⟩
  conv => whnf
  exact fin_ret fun ad => by simp [retV, SV.dens, SV.den]
theorem rollMembers_calls {v M : Int} {add : Bool} {id : Int} (h0 : 0 ≤ M) (h1 : M < 65536) (i0 : 0 ≤ id) (i1 : id < 256) (w0 : World) : ∀ ad, Calls Tryd.prog 5 (SV.dens ad [rol v M, chg add id]).toArray w0 (Ret w0 (.bool true)) := by
  refine calls_sound tabOK Tryd.func5 rfl (by kernel_rfl) (Nat.le_of_ble_eq_true rfl) ⟨⟨rfl, rfl, trivial⟩, ⟨rfl, rfl, trivial⟩, trivial⟩ ?_
  conv => whnf
  refine call_det (.lit true) ent6 (fun ad w _ => alive_calls w ad) trivial ?_
  conv => whnf
  have hA := fun w ad => apply_calls (v := v) (M := M) (add := add) (id := id) h0 h1 i0 i1 w ad
  have hcases := applyS_cases (v := v) (add := add) h0 h1 i0
  generalize applyS v M add id = r at hA hcases
  obtain ⟨⟨v', M'⟩, e⟩ := r
  refine call_det (.tup [rol v' M', .v (.int .i64 e)]) ent7 (fun ad w _ => hA w ad) ⟨⟨rfl, rfl, trivial⟩, rfl, trivial⟩ ?_
  conv => whnf
  refine ⟨fun hc => ?_, fun hc => ?_⟩
  · conv => whnf
    obtain ⟨_, h⟩ | ⟨h, _⟩ := hcases
    · cases h
      refine eq_plain (ks := ksRoll) (by kernel_rfl) rfl rfl rfl (by exact ⟨rfl, rfl, trivial⟩) (by exact ⟨rfl, rfl, trivial⟩) ?_
      conv => whnf
      exact fin_ret fun ad => rfl
    · rw [show e = 0 from h] at hc; exact absurd hc (by decide)
  · have he : e = 0 := by simpa using hc
    obtain ⟨h, _⟩ | ⟨_, hr, hid, hb, hv0, hv1, hz⟩ := hcases
    · exact absurd he h
    cases hr
    have hn := has_next h0 h1 i0 hid hb
    have hx := xor_next h0 h1 i0 hid hb
    have hrng : 0 ≤ nextB M add id ∧ nextB M add id < 65536 := by
      unfold nextB; split
      · exact with_rng h0 h1 i0
      · exact without_rng h0 h1 i0
    conv => whnf
    refine draw_rule tabOK mixed [] [] pP5_6 [] (by kernel_rfl) (by kernel_rfl) ?_
    conv => whnf
    rw [i64_in (k := v + 1) (by omega)]
    refine ⟨fun _ => ?_, fun h => absurd h (by simp)⟩
    conv => whnf
    refine call_det (.v (.bool add)) ent15 (fun ad w _ => by have := hasR_calls hrng.1 hrng.2 i0 i1 w ad; rw [hn] at this; exact this) rfl ?_
    conv => whnf
    refine ⟨fun _ => ?_, fun h => absurd h (by simp)⟩
    conv => whnf
    refine call_det (.v (.bool (!add))) ent15 (fun ad w _ => by have := hasR_calls h0 h1 i0 i1 w ad; rw [hb] at this; exact this) rfl ?_
    conv => whnf
    refine ⟨fun _ => ?_, fun h => absurd h (by cases add <;> decide)⟩
    conv => whnf
    refine ⟨i0, ?_⟩
    conv => whnf
    rw [← hx]
    refine ⟨fun _ => ?_, fun h => absurd h (by simp)⟩
    conv => whnf
    have hrb : rollB (v + 1) (nextB M add id) = true := by
      unfold rollB
      rw [decide_eq_true (by omega), decide_eq_true (by omega), decide_eq_false hz]; rfl
    refine call_det (.v (.bool true)) ent9 (fun ad w _ => by have := rollRight_calls (v + 1) (nextB M add id) w ad; rw [hrb] at this; exact this) rfl ?_
    conv => whnf
    exact fin_ret fun ad => rfl
end Go.Proofs.YteogjiadmgbmbaaDoor
