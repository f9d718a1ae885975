/-
  Sets with a member more, and one less: what the bits say; walked. How many are enough: walked.
-/
import Derived.Test.YteogjiadmgbmbaaDoorF
set_option linter.unusedVariables false
set_option linter.unusedSimpArgs false
namespace Go.Proofs.YteogjiadmgbmbaaDoor
open Go Go.Sx Go.RowKit
def withB (s id : Int) : Int := if hasB s id = true then s else s + bitB id
def withoutB (s id : Int) : Int := if hasB s id = true then s - bitB id else s
theorem has_bit (a i : Nat) (hi : i < 16) : hasB (a : Int) i = a.testBit i := by
  unfold hasB
  rw [decide_eq_true (by omega), Bool.true_and, Nat.testBit_eq_decide_div_mod_eq, Int.toNat_natCast, pow_nat]
  rw [decide_eq_decide]
  omega
theorem or_pow {a m : Nat} (ha : a < 65536) (hm : m < 16) : a ||| 2 ^ m = if a.testBit m then a else a + 2 ^ m := by
  cases h : a.testBit m
  · rw [if_neg (by simp)]
    have e : BitVec.ofNat 16 a &&& BitVec.ofNat 16 (2 ^ m) = 0#16 := by
      apply BitVec.eq_of_toNat_eq
      rw [BitVec.toNat_and, BitVec.toNat_ofNat, BitVec.toNat_ofNat, Nat.mod_eq_of_lt (by simpa using ha), Nat.mod_eq_of_lt (Nat.pow_lt_pow_right (by decide) hm), and_pow, h]
      rfl
    have e2 := congrArg BitVec.toNat (BitVec.add_eq_or_of_and_eq_zero _ _ e)
    have h4 : 2 ^ m < 2 ^ 16 := Nat.pow_lt_pow_right (by decide) hm
    rw [BitVec.toNat_or, BitVec.toNat_add, BitVec.toNat_ofNat, BitVec.toNat_ofNat, Nat.mod_eq_of_lt (a := a) (show a < 2 ^ 16 from ha), Nat.mod_eq_of_lt h4] at e2
    have h5 : a ≤ a ||| 2 ^ m := Nat.left_le_or
    have h6 : (2 : Nat) ^ 16 = 65536 := rfl
    rw [h6] at e2 h4
    clear e
    generalize 2 ^ m = q at *
    omega
  · rw [if_pos rfl]
    apply Nat.eq_of_testBit_eq
    intro i
    rw [Nat.testBit_or, Nat.testBit_two_pow]
    by_cases e : m = i
    · subst e; simp [h]
    · simp [e]
theorem bor_nat {k : IntKind} {x y : Nat} (hx : x < 2 ^ k.bits) (hy : y < 2 ^ k.bits) : bor k x y = k.wrap ((x ||| y : Nat) : Int) := by
  unfold bor
  congr 1
  have e : ∀ z : Nat, BitVec.ofInt k.bits (z : Int) = BitVec.ofNat k.bits z := fun z => BitVec.ofInt_natCast _ _
  rw [e, e, BitVec.toNat_or, BitVec.toNat_ofNat, BitVec.toNat_ofNat, Nat.mod_eq_of_lt hx, Nat.mod_eq_of_lt hy]
theorem bit_nat {m : Nat} (hm : m < 16) : bitB (m : Int) = ((2 ^ m : Nat) : Int) := by
  unfold bitB; rw [if_pos (by omega), Int.toNat_natCast, pow_nat]
theorem bit_big {x : Int} (h : 16 ≤ x) : bitB x = 0 := by unfold bitB; rw [if_neg (by omega)]
theorem has_big {s x : Int} (h : 16 ≤ x) : hasB s x = false := by unfold hasB; rw [decide_eq_false (by omega)]; rfl
theorem p16 : (2 : Nat) ^ 16 = 65536 := rfl
theorem bor_with {s x : Int} (h0 : 0 ≤ s) (h1 : s < 65536) (hx : 0 ≤ x) : bor .u16 s (bitB x) = withB s x := by
  obtain ⟨a, rfl⟩ := Int.eq_ofNat_of_zero_le h0
  obtain ⟨m, rfl⟩ := Int.eq_ofNat_of_zero_le hx
  unfold withB
  by_cases hm : m < 16
  · have h4 : 2 ^ m < 2 ^ 16 := Nat.pow_lt_pow_right (by decide) hm
    have hor : a ||| 2 ^ m < 2 ^ 16 := Nat.or_lt_two_pow (by rw [p16]; omega) h4
    rw [bit_nat hm, bor_nat (k := .u16) (by show a < 2 ^ 16; rw [p16]; omega) h4, has_bit a m hm, wU16]
    have := or_pow (a := a) (by omega) hm
    rw [p16] at hor
    rw [Int.emod_eq_of_lt (by omega) (by omega), this]
    split <;> simp_all
  · rw [bit_big (by omega), has_big (by omega)]
    have : bor .u16 (a : Int) ((0 : Nat) : Int) = (a : Int) := by
      rw [bor_nat (k := .u16) (by show a < 2 ^ 16; rw [p16]; omega) (by decide), wU16, Nat.or_zero]; omega
    simpa using this
theorem bandn_without {s x : Int} (h0 : 0 ≤ s) (h1 : s < 65536) (hx : 0 ≤ x) : bandn .u16 s (bitB x) = withoutB s x := by
  obtain ⟨a, rfl⟩ := Int.eq_ofNat_of_zero_le h0
  obtain ⟨m, rfl⟩ := Int.eq_ofNat_of_zero_le hx
  have ha : a < 2 ^ 16 := by rw [p16]; omega
  unfold withoutB bandn
  by_cases hm : m < 16
  · have h4 : 2 ^ m < 2 ^ 16 := Nat.pow_lt_pow_right (by decide) hm
    rw [bit_nat hm, has_bit a m hm]
    show IntKind.wrap .u16 (BitVec.ofInt 16 (a : Int) &&& ~~~BitVec.ofInt 16 ((2 ^ m : Nat) : Int)).toNat = _
    rw [BitVec.ofInt_natCast, BitVec.ofInt_natCast]
    generalize hz : BitVec.ofNat 16 a &&& ~~~BitVec.ofNat 16 (2 ^ m) = z
    have gx : ∀ i, (BitVec.ofNat 16 a).getLsbD i = a.testBit i := fun i => by
      rw [BitVec.getLsbD, BitVec.toNat_ofNat, Nat.mod_eq_of_lt ha]
    have gy : ∀ i, (BitVec.ofNat 16 (2 ^ m)).getLsbD i = decide (m = i) := fun i => by
      rw [BitVec.getLsbD, BitVec.toNat_ofNat, Nat.mod_eq_of_lt h4, Nat.testBit_two_pow]
    have hzb : ∀ i, i < 16 → z.getLsbD i = (a.testBit i && !decide (m = i)) := fun i hi => by
      rw [← hz, BitVec.getLsbD_and, BitVec.getLsbD_not, gx, gy]; simp [hi]
    have hzl := z.isLt
    rw [p16] at hzl
    cases h : a.testBit m
    · rw [if_neg (by simp)]
      have : z = BitVec.ofNat 16 a := by
        apply BitVec.eq_of_getLsbD_eq
        intro i hi
        rw [hzb i hi, gx]
        by_cases e : m = i
        · subst e; simp [h]
        · simp [e]
      rw [this, BitVec.toNat_ofNat, Nat.mod_eq_of_lt ha, wU16]; omega
    · rw [if_pos rfl]
      have e0 : z &&& BitVec.ofNat 16 (2 ^ m) = 0#16 := by
        apply BitVec.eq_of_getLsbD_eq
        intro i hi
        rw [BitVec.getLsbD_and, hzb i hi, gy]
        by_cases e : m = i
        · subst e; simp
        · simp [e]
      have e1 : z ||| BitVec.ofNat 16 (2 ^ m) = BitVec.ofNat 16 a := by
        apply BitVec.eq_of_getLsbD_eq
        intro i hi
        rw [BitVec.getLsbD_or, hzb i hi, gy, gx]
        by_cases e : m = i
        · subst e; simp [h]
        · simp [e]
      have e2 := congrArg BitVec.toNat ((BitVec.add_eq_or_of_and_eq_zero _ _ e0).trans e1)
      have e3 : z.toNat ≤ a := by
        rw [← hz, BitVec.toNat_and, BitVec.toNat_ofNat, Nat.mod_eq_of_lt ha]; exact Nat.and_le_left
      rw [BitVec.toNat_add, BitVec.toNat_ofNat, BitVec.toNat_ofNat, Nat.mod_eq_of_lt ha, Nat.mod_eq_of_lt h4] at e2
      rw [p16] at e2 h4
      rw [wU16]
      generalize 2 ^ m = q at *
      omega
  · rw [bit_big (by omega), has_big (by omega)]
    show IntKind.wrap .u16 (BitVec.ofInt 16 (a : Int) &&& ~~~BitVec.ofInt 16 (0 : Int)).toNat = _
    have : BitVec.ofInt 16 (a : Int) &&& ~~~BitVec.ofInt 16 (0 : Int) = BitVec.ofNat 16 a := by
      rw [BitVec.ofInt_natCast]; exact BitVec.and_allOnes
    rw [this, BitVec.toNat_ofNat, Nat.mod_eq_of_lt ha, wU16]
    simp; omega
theorem with_rng {s x : Int} (h0 : 0 ≤ s) (h1 : s < 65536) (hx : 0 ≤ x) : 0 ≤ withB s x ∧ withB s x < 65536 := by
  rw [← bor_with h0 h1 hx]
  unfold bor
  rw [wU16]; omega
theorem without_rng {s x : Int} (h0 : 0 ≤ s) (h1 : s < 65536) (hx : 0 ≤ x) : 0 ≤ withoutB s x ∧ withoutB s x < 65536 := by
  rw [← bandn_without h0 h1 hx]
  unfold bandn
  rw [wU16]; omega
theorem bit_rng (x : Int) : 0 ≤ bitB x ∧ bitB x ≤ 32768 := by
  unfold bitB
  split
  · rename_i h
    rw [pow_nat]
    have : 2 ^ x.toNat ≤ 2 ^ 15 := Nat.pow_le_pow_right (by decide) (by omega)
    have e : (2 : Nat) ^ 15 = 32768 := rfl
    generalize 2 ^ x.toNat = q at *
    omega
  · omega
theorem with_calls {s x : Int} (h0 : 0 ≤ s) (h1 : s < 65536) (hx : 0 ≤ x) (w0 : World) : ∀ ad, Calls Tryd.prog 18 (SV.dens ad [.v (.int .u16 s), .v (.int .u8 x)]).toArray w0 (Ret w0 (.int .u16 (withB s x))) := by
  refine calls_sound tabOK Tryd.func18 rfl (by kernel_rfl) (Nat.le_of_ble_eq_true rfl) ⟨rfl, rfl, trivial⟩ ?_
  conv => whnf
  refine call_det (.v (.int .u16 (bitB x))) ent27 (fun ad w _ => bit_calls hx w ad) rfl ?_
  conv => whnf
  exact fin_ret fun ad => by simp only [retV, SV.dens, SV.den, bor_with h0 h1 hx]
theorem without_calls {s x : Int} (h0 : 0 ≤ s) (h1 : s < 65536) (hx : 0 ≤ x) (w0 : World) : ∀ ad, Calls Tryd.prog 17 (SV.dens ad [.v (.int .u16 s), .v (.int .u8 x)]).toArray w0 (Ret w0 (.int .u16 (withoutB s x))) := by
  refine calls_sound tabOK Tryd.func17 rfl (by kernel_rfl) (Nat.le_of_ble_eq_true rfl) ⟨rfl, rfl, trivial⟩ ?_
  conv => whnf
  refine call_det (.v (.int .u16 (bitB x))) ent27 (fun ad w _ => bit_calls hx w ad) rfl ?_
  conv => whnf
  exact fin_ret fun ad => by simp only [retV, SV.dens, SV.den, bandn_without h0 h1 hx]
theorem withR_calls {s x : Int} (h0 : 0 ≤ s) (h1 : s < 65536) (h2 : 0 ≤ x) (h3 : x < 256) (w0 : World) : ∀ ad, Calls Tryd.prog 20 (SV.dens ad [.v (.int .u16 s), .v (.int .u8 x)]).toArray w0 (Ret w0 (.int .u16 (withB s x))) := by
  refine calls_sound tabOK Tryd.func20 rfl (by kernel_rfl) (Nat.le_of_ble_eq_true rfl) ⟨rfl, rfl, trivial⟩ ?_
  conv => whnf
  refine call_det (.v (.bool (hasB s x))) ent15 (fun ad w _ => hasR_calls h0 h1 h2 h3 w ad) rfl ?_
  conv => whnf
  refine ⟨fun hc => ?_, fun hc => ?_⟩
  · conv => whnf
    exact fin_ret fun ad => by simp only [retV, SV.dens, SV.den, withB, hc, if_true]
  · conv => whnf
    refine call_det (.v (.int .u16 (bitB x))) ent26 (fun ad w _ => value_calls h2 h3 w ad) rfl ?_
    conv => whnf
    have hr := with_rng h0 h1 h2
    simp only [withB, hc, Bool.false_eq_true, if_false] at hr
    exact fin_ret fun ad => by simp only [retV, SV.dens, SV.den, withB, hc, Bool.false_eq_true, if_false]; rw [u16_in hr]
theorem withoutR_calls {s x : Int} (h0 : 0 ≤ s) (h1 : s < 65536) (h2 : 0 ≤ x) (h3 : x < 256) (w0 : World) : ∀ ad, Calls Tryd.prog 21 (SV.dens ad [.v (.int .u16 s), .v (.int .u8 x)]).toArray w0 (Ret w0 (.int .u16 (withoutB s x))) := by
  refine calls_sound tabOK Tryd.func21 rfl (by kernel_rfl) (Nat.le_of_ble_eq_true rfl) ⟨rfl, rfl, trivial⟩ ?_
  conv => whnf
  refine call_det (.v (.bool (hasB s x))) ent15 (fun ad w _ => hasR_calls h0 h1 h2 h3 w ad) rfl ?_
  conv => whnf
  refine ⟨fun hc => ?_, fun hc => ?_⟩
  · conv => whnf
    have hc : hasB s x = false := by simpa using hc
    exact fin_ret fun ad => by simp only [retV, SV.dens, SV.den, withoutB, hc, Bool.false_eq_true, if_false]
  · conv => whnf
    have hc : hasB s x = true := by simpa using hc
    refine call_det (.v (.int .u16 (bitB x))) ent26 (fun ad w _ => value_calls h2 h3 w ad) rfl ?_
    conv => whnf
    have hr := without_rng h0 h1 h2
    simp only [withoutB, hc, if_true] at hr
    exact fin_ret fun ad => by simp only [retV, SV.dens, SV.den, withoutB, hc, if_true]; rw [u16_in hr]
end Go.Proofs.YteogjiadmgbmbaaDoor
