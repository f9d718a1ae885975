/-
  Functions of the flush, walked: those that go through one vector.
-/
import Derived.Test.YtcmooifiiakbdaaA
set_option linter.unusedVariables false
namespace Go.Proofs.Ytcmooifiiakbdaa
open Go Go.Sx Go.RowKit
def vec (xs : List Int) : SV := .agg [.ints .u16 16 xs]
def flu (M : Int) (A : Option Addr) (n c : Nat) : SV := .agg [.one (.int .u16 M), .one (.slice A n c)]
/-- The entry k of a vector may be there. -/
def fit1 (M : Int) (xs : List Int) (k : Nat) : Bool := !(decide (1000 ≤ xs.getD k 0) || decide (0 < xs.getD k 0) && !hasB M k)
def fitsB (M : Int) (xs : List Int) : Bool := (List.range 16).all (fit1 M xs)
theorem ent23 : Ent Try.prog 23 := by unfold Ent; kernel_rfl
theorem fits_calls {M : Int} (h0 : 0 ≤ M) (h1 : M < 65536) (A : Option Addr) (n c : Nat) {xs : List Int} (hx : xs.length = 16) (w0 : World) : ∀ ad, Calls Try.prog 24 (SV.dens ad [flu M A n c, vec xs]).toArray w0 (Ret w0 (.bool (fitsB M xs))) := by
  refine calls_sound tabOK Try.func24 rfl (by kernel_rfl) (show 2 ≤ 27 by decide) ⟨⟨rfl, rfl, trivial⟩, ⟨hx, trivial⟩, trivial⟩ ?_
  conv => whnf
  refine loop_rule tabOK (by kernel_rfl) (fun k : Nat => ⟨[(8, .v (.int .i64 k)), (7, vec xs), (3, .ptr 3 0), (2, .ptr 2 0)], [(2, ([.one (.int .u16 M), .one (.slice A n c)], 34))], [], fun g => g < w0.heap.size, w0⟩) (fun k => k ≤ 16 ∧ ∀ j, j < k → fit1 M xs j = true) (fun k => 16 - k) 0 ⟨by omega, fun j hj => by omega⟩ ⟨⟨rfl, rfl, rfl, rfl, trivial⟩, ⟨rfl, trivial⟩, rfl, fun _ h => h, rfl⟩ ?_
  intro k ⟨hk, hfit⟩
  conv => whnf
  refine ⟨fun hc => ?_, fun hc => ?_⟩
  · conv => whnf
    have hk' : k < 16 := by have := of_decide_eq_true hc; omega
    refine ⟨⟨by omega, by omega⟩, ?_⟩
    conv => whnf
    refine ⟨fun ha => ?_, fun ha => ?_⟩
    · conv => whnf
      rw [Int.toNat_natCast] at ha
      exact fin_ret fun ad => by simp only [retV, SV.dens, SV.den, fitsB]; rw [not_all_range hk' (by simp only [fit1, ha]; rfl)]
    · conv => whnf
      rw [Int.toNat_natCast] at ha
      refine ⟨fun hb => ?_, fun hb => ?_⟩
      · conv => whnf
        rw [Int.toNat_natCast] at hb
        rw [u8_nat (k := k) (by omega)]
        refine call_det (.v (.bool (hasB M k))) ent23 (fun ad w _ => has_calls h0 h1 (by omega) w ad) rfl ?_
        conv => whnf
        refine ⟨fun hd => ?_, fun hd => ?_⟩
        · conv => whnf
          exact fin_ret fun ad => by simp only [retV, SV.dens, SV.den, fitsB]; rw [not_all_range hk' (by simp only [fit1, ha, hb, hd]; rfl)]
        · conv => whnf
          refine ⟨k + 1, ⟨by omega, fun j hj => ?_⟩, by omega, ⟨i64_step hk' (by omega), rfl, rfl, rfl, trivial⟩, ⟨rfl, trivial⟩, rfl, fun _ h => h, rfl⟩
          rcases Nat.lt_succ_iff_lt_or_eq.1 hj with h | h
          · exact hfit j h
          · subst h; simp only [fit1, ha, hb, hd]; rfl
      · conv => whnf
        rw [Int.toNat_natCast] at hb
        refine ⟨k + 1, ⟨by omega, fun j hj => ?_⟩, by omega, ⟨i64_step hk' (by omega), rfl, rfl, rfl, trivial⟩, ⟨rfl, trivial⟩, rfl, fun _ h => h, rfl⟩
        rcases Nat.lt_succ_iff_lt_or_eq.1 hj with h | h
        · exact hfit j h
        · subst h; simp only [fit1, ha, hb]; rfl
  · conv => whnf
    have hk' : k = 16 := by have := of_decide_eq_false hc; omega
    subst hk'
    exact fin_ret fun ad => by simp only [retV, SV.dens, SV.den, fitsB]; rw [all_range hfit]
def vmax (xs ys : List Int) : List Int := List.zipWith (fun x y => if y > x then y else x) xs ys
theorem vmax_len {xs ys : List Int} (hx : xs.length = 16) (hy : ys.length = 16) : (vmax xs ys).length = 16 := by simp [vmax, hx, hy]
theorem vmax_get {xs ys : List Int} (hx : xs.length = 16) (hy : ys.length = 16) {k : Nat} (hk : k < 16) : (vmax xs ys).getD k 0 = if ys.getD k 0 > xs.getD k 0 then ys.getD k 0 else xs.getD k 0 := by
  simp only [List.getD_eq_getElem?_getD, vmax, List.getElem?_zipWith]
  rw [List.getElem?_eq_getElem (by omega), List.getElem?_eq_getElem (by omega)]; rfl
theorem vec_step {xs zs : List Int} (hx : xs.length = 16) (hz : zs.length = 16) {k : Nat} (hk : k < 16) {v : Int} (hv : v = zs.getD k 0) : (zs.take k ++ xs.drop k).set k v = zs.take (k + 1) ++ xs.drop (k + 1) := by
  subst hv
  apply List.ext_getElem?
  intro j
  rw [List.getElem?_set]
  simp only [List.getElem?_append, List.length_append, List.length_take, List.length_drop, hx, hz, List.getElem?_take, List.getElem?_drop, Nat.min_eq_left (Nat.le_of_lt hk), Nat.min_eq_left (show k + 1 ≤ 16 from hk)]
  by_cases h1 : k = j
  · subst h1
    rw [if_pos rfl, if_pos (by omega), if_pos (by omega), if_pos (by omega), List.getD_eq_getElem?_getD, List.getElem?_eq_getElem (by omega)]; rfl
  · rw [if_neg h1]
    by_cases h2 : j < k
    · simp only [h2, show j < k + 1 by omega, if_true]
    · rw [if_neg h2, if_neg (by omega)]
      congr 1; omega
theorem mix_get {xs zs : List Int} (hx : xs.length = 16) (hz : zs.length = 16) {k : Nat} (hk : k < 16) : (zs.take k ++ xs.drop k).getD k 0 = xs.getD k 0 := by
  simp only [List.getD_eq_getElem?_getD, List.getElem?_append, List.length_take, hz, Nat.min_eq_left (Nat.le_of_lt hk), Nat.lt_irrefl, if_false, Nat.sub_self, List.getElem?_drop, Nat.add_zero]
theorem join_calls {xs ys : List Int} (hx : xs.length = 16) (hy : ys.length = 16) (w0 : World) : ∀ ad, Calls Try.prog 30 (SV.dens ad [vec xs, vec ys]).toArray w0 (Ret w0 ((vec (vmax xs ys)).den id)) := by
  refine calls_sound tabOK Try.func30 rfl (by kernel_rfl) (show 2 ≤ 21 by decide) ⟨⟨hx, trivial⟩, ⟨hy, trivial⟩, trivial⟩ ?_
  conv => whnf
  refine loop_rule tabOK (by kernel_rfl) (fun k : Nat => ⟨[(8, .v (.int .i64 k)), (7, vec ys), (4, .ptr 4 0), (2, .ptr 2 0)], [(2, ([.ints .u16 16 ((vmax xs ys).take k ++ xs.drop k)], 28)), (4, ([.ints .u16 16 (List.replicate 16 0)], 28))], [], fun g => g < w0.heap.size, w0⟩) (fun k => k ≤ 16) (fun k => 16 - k) 0 (by omega) ⟨⟨rfl, rfl, rfl, rfl, trivial⟩, ⟨rfl, rfl, trivial⟩, rfl, fun _ h => h, rfl⟩ ?_
  intro k hk
  conv => whnf
  refine ⟨fun hc => ?_, fun hc => ?_⟩
  · conv => whnf
    have hk' : k < 16 := by have := of_decide_eq_true hc; omega
    refine ⟨⟨by omega, by omega⟩, ?_⟩
    conv => whnf
    refine ⟨⟨by omega, by omega⟩, ?_⟩
    conv => whnf
    refine ⟨⟨by omega, by omega⟩, ?_⟩
    conv => whnf
    refine ⟨k + 1, by omega, by omega, ⟨i64_step hk' (by omega), rfl, rfl, rfl, trivial⟩, ⟨?_, rfl, trivial⟩, rfl, fun _ h => h, rfl⟩
    show ([Seg.ints _ _ _], 28) = _
    rw [Int.toNat_natCast, vec_step hx (vmax_len hx hy) hk' ?_]
    rw [mix_get hx (vmax_len hx hy) hk', vmax_get hx hy hk']
  · conv => whnf
    have hk' : k = 16 := by have := of_decide_eq_false hc; omega
    subst hk'
    refine fin_ret fun ad => ?_
    rw [List.take_of_length_le (by rw [vmax_len hx hy]; omega), List.drop_eq_nil_of_le (by omega), List.append_nil]
    rfl
end Go.Proofs.Ytcmooifiiakbdaa
