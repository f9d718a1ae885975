/-
  Plain laws of numbers for the symbolic machine; how a call's end is told.
-/
import Derived.Test.YteogjiadmgbmbaaDoorSxJ
set_option linter.unusedVariables false
set_option linter.unusedSimpArgs false
namespace Go.Sx
open Go Go.RowKit

/-- The call returns v and leaves all alone that was there. -/
def Ret (w : World) (v : Value) (e : Ending) (w' : World) : Prop := e = .returned v ∧ Below w.heap.size w w'
theorem fin_ret {w0 : World} {s : St} {l : List SV} {v : Value} (h : ∀ ad, retV (SV.dens ad l) = v) : FinVC (.of w0) (Ret w0 v) s l := ⟨fun ad w hw => ⟨by rw [h ad], hw.bel.below⟩⟩
theorem wU8 (n : Int) : IntKind.u8.wrap n = n % 256 := by simp [IntKind.wrap, IntKind.bits, IntKind.signed]
theorem wU16 (n : Int) : IntKind.u16.wrap n = n % 65536 := by simp [IntKind.wrap, IntKind.bits, IntKind.signed]
theorem wU32 (n : Int) : IntKind.u32.wrap n = n % 4294967296 := by simp [IntKind.wrap, IntKind.bits, IntKind.signed]
theorem wU64 (n : Int) : IntKind.u64.wrap n = n % 18446744073709551616 := by simp [IntKind.wrap, IntKind.bits, IntKind.signed]
theorem wI32 (n : Int) : IntKind.i32.wrap n = (n + 2147483648) % 4294967296 - 2147483648 := by
  simp only [IntKind.wrap, IntKind.bits, IntKind.signed]
  simp
  split <;> omega
theorem wI64 (n : Int) : IntKind.i64.wrap n = (n + 9223372036854775808) % 18446744073709551616 - 9223372036854775808 := by
  simp only [IntKind.wrap, IntKind.bits, IntKind.signed]
  simp
  split <;> omega
def bitB (id : Int) : Int := if id < 16 then 2 ^ id.toNat else 0
def hasB (s id : Int) : Bool := decide (id < 16) && decide (s / 2 ^ id.toNat % 2 = 1)
theorem pow_nat (n : Nat) : (2 : Int) ^ n = ((2 ^ n : Nat) : Int) := by simp
theorem bit_eq {id : Int} (h : 0 ≤ id) : IntKind.u16.wrap (bshl .u64 1 id) = bitB id := by
  unfold bshl bitB
  rw [wU64, wU16, Int.one_mul]
  obtain ⟨n, rfl⟩ := Int.eq_ofNat_of_zero_le h
  simp only [Int.toNat_natCast]
  by_cases h1 : n < 16
  · have h2 : 2 ^ n < 2 ^ 16 := Nat.pow_lt_pow_right (by decide) h1
    simp only [pow_nat]
    rw [if_pos (by omega), Nat.min_eq_left (by show n ≤ 64; omega)]
    generalize 2 ^ n = q at *
    have h3 : (2 : Nat) ^ 16 = 65536 := rfl
    omega
  · rw [if_neg (by omega), pow_nat]
    by_cases h2 : n < 64
    · rw [Nat.min_eq_left (by show n ≤ 64; omega)]
      have h3 : 2 ^ n = 2 ^ (n - 16) * 65536 := by rw [show (65536 : Nat) = 2 ^ 16 from rfl, ← Nat.pow_add]; congr 1; omega
      have h4 : 2 ^ n < 2 ^ 64 := Nat.pow_lt_pow_right (by decide) h2
      have h5 : (2 : Nat) ^ 64 = 18446744073709551616 := rfl
      omega
    · rw [Nat.min_eq_right (by show 64 ≤ n; omega)]
      have h5 : (2 : Nat) ^ IntKind.u64.bits = 18446744073709551616 := rfl
      omega
theorem band_nat {k : IntKind} {x y : Nat} (hx : x < 2 ^ k.bits) (hy : y < 2 ^ k.bits) : band k x y = k.wrap ((x &&& y : Nat) : Int) := by
  unfold band
  congr 1
  have e : ∀ z : Nat, BitVec.ofInt k.bits (z : Int) = BitVec.ofNat k.bits z := fun z => BitVec.ofInt_natCast _ _
  rw [e, e, BitVec.toNat_and, BitVec.toNat_ofNat, BitVec.toNat_ofNat, Nat.mod_eq_of_lt hx, Nat.mod_eq_of_lt hy]
theorem and_pow (x n : Nat) : x &&& 2 ^ n = if x.testBit n then 2 ^ n else 0 := by
  apply Nat.eq_of_testBit_eq
  intro i
  rw [Nat.testBit_and, Nat.testBit_two_pow]
  by_cases h : n = i
  · subst h
    cases hb : x.testBit n <;> simp [hb]
  · cases hb : x.testBit n <;> simp [h, Nat.testBit_two_pow]
theorem has_eq {s id : Int} (h0 : 0 ≤ s) (h1 : s < 65536) (h2 : 0 ≤ id) : (!decide (band .u16 s (bitB id) = 0)) = hasB s id := by
  obtain ⟨a, rfl⟩ := Int.eq_ofNat_of_zero_le h0
  obtain ⟨n, rfl⟩ := Int.eq_ofNat_of_zero_le h2
  unfold bitB hasB
  simp only [Int.toNat_natCast]
  by_cases h3 : n < 16
  · have h4 : 2 ^ n < 2 ^ 16 := Nat.pow_lt_pow_right (by decide) h3
    simp only [pow_nat]
    rw [if_pos (by omega), band_nat (k := .u16) (by show a < 65536; omega) h4, and_pow, wU16]
    have e : ((a : Int) / ((2 ^ n : Nat) : Int) % 2 = 1) ↔ a.testBit n = true := by
      rw [Nat.testBit_eq_decide_div_mod_eq, decide_eq_true_eq]
      omega
    have hlt : (n : Int) < 16 := by omega
    have hpos : 0 < 2 ^ n := Nat.pow_pos (by decide)
    cases hb : a.testBit n
    · have : ¬ ((a : Int) / ((2 ^ n : Nat) : Int) % 2 = 1) := by rw [e, hb]; simp
      simp only [hlt, this, decide_false, Bool.and_false, if_false, Bool.false_eq_true, if_neg]
      rfl
    · have : ((a : Int) / ((2 ^ n : Nat) : Int) % 2 = 1) := by rw [e, hb]
      have h5 : (2 : Nat) ^ 16 = 65536 := rfl
      simp only [hlt, this, decide_true, Bool.and_true, if_true]
      have : ¬ (((2 ^ n : Nat) : Int) % 65536 = 0) := by omega
      simpa using this
  · rw [if_neg (by omega)]
    have : band .u16 a 0 = 0 := by
      have := band_nat (k := .u16) (x := a) (y := 0) (by show a < 65536; omega) (by decide)
      rw [show ((0 : Nat) : Int) = 0 from rfl] at this
      rw [this, Nat.and_zero]; rfl
    rw [this]
    have : ¬ ((n : Int) < 16) := by omega
    simp [this]
theorem i64_step {k m : Nat} (h : k < m) (hm : m ≤ 140737488355328) : SV.v (.int .i64 (IntKind.i64.wrap ((k : Int) + 1))) = .v (.int .i64 ((k + 1 : Nat) : Int)) := by
  rw [wI64, show ((k : Int) + 1 + 9223372036854775808) % 18446744073709551616 - 9223372036854775808 = ((k + 1 : Nat) : Int) by omega]
theorem u8_nat {k : Nat} (h : k < 256) : IntKind.u8.wrap (k : Int) = k := by rw [wU8]; omega
theorem u8_in {k : Int} (h : 0 ≤ k ∧ k < 256) : IntKind.u8.wrap k = k := by rw [wU8]; omega
theorem u16_in {k : Int} (h : 0 ≤ k ∧ k < 65536) : IntKind.u16.wrap k = k := by rw [wU16]; omega
theorem i64_in {k : Int} (h : -9223372036854775808 ≤ k ∧ k < 9223372036854775808) : IntKind.i64.wrap k = k := by rw [wI64]; omega
theorem all_range {p : Nat → Bool} {n : Nat} (h : ∀ j, j < n → p j = true) : (List.range n).all p = true := List.all_eq_true.2 fun j hj => h j (List.mem_range.1 hj)
theorem not_all_range {p : Nat → Bool} {n k : Nat} (hk : k < n) (h : p k = false) : (List.range n).all p = false := by
  rw [List.all_eq_false]; exact ⟨k, List.mem_range.2 hk, by simp [h]⟩
theorem ints_mem {xs : List Int} {b : Int} (h : ∀ x ∈ xs, 0 ≤ x ∧ x < b) (hb : 0 < b) (k : Nat) : 0 ≤ xs.getD k 0 ∧ xs.getD k 0 < b := by
  rw [List.getD_eq_getElem?_getD]
  cases hk : xs[k]? with
  | none => simp; exact hb
  | some x => simpa using h x (List.mem_of_getElem? hk)
theorem rd_row {w : World} {g : Nat} {cs : List Value} {e : TypeId} {fr : Nat × Nat} (h : w.heap[g]? = some (.cells cs.toArray e fr)) {pr : Nat → Prop} (hp : pr g) : Rd pr w (some ⟨g, 0, none⟩) cs := by
  intro j v hj
  refine ⟨_, rfl, hp, ?_⟩
  rw [Addr.add_lit]
  simp [World.cell?, h, hj]
end Go.Sx
