/-
  Functions of the document's answer, walked: those of a set's members and of a vector.
-/
import Derived.Test.YtcmooifiiakbdaaB
set_option linter.unusedVariables false
namespace Go.Proofs.Ytcmooifiiakbdaa
open Go Go.Sx Go.RowKit
theorem value_calls {x : Int} (h0 : 0 ≤ x) (h1 : x < 256) (w0 : World) : ∀ ad, Calls Try.prog 37 (SV.dens ad [.v (.int .u8 x)]).toArray w0 (Ret w0 (.int .u16 (bitB x))) := by
  refine calls_sound tabOK Try.func37 rfl (by kernel_rfl) (show 1 ≤ 16 by decide) ⟨rfl, trivial⟩ ?_
  conv => whnf
  refine ⟨fun hc => ?_, fun hc => ?_⟩
  · conv => whnf
    exact fin_ret fun ad => by
      have := of_decide_eq_true hc
      simp only [retV, SV.dens, SV.den, bitB]; rw [if_neg (by omega)]
  · conv => whnf
    have hx := of_decide_eq_false hc
    refine loop_rule tabOK (by kernel_rfl) (fun k : Nat => ⟨[(4, .v (.int .i64 k)), (3, .v (.int .u16 ((2 ^ k : Nat) : Int))), (0, .v (.int .u8 x))], [], [], fun g => g < w0.heap.size, w0⟩) (fun k => (k : Int) ≤ x) (fun k => 16 - k) 0 (by omega) ⟨⟨rfl, rfl, rfl, trivial⟩, trivial, rfl, fun _ h => h, rfl⟩ ?_
    intro k hk
    conv => whnf
    refine ⟨fun hd => ?_, fun hd => ?_⟩
    · conv => whnf
      have hd := of_decide_eq_true hd
      rw [i64_in (k := x) (by omega)] at hd
      refine ⟨k + 1, by omega, by omega, ⟨i64_step (m := 16) (by omega) (by omega), ?_, rfl, trivial⟩, trivial, rfl, fun _ h => h, rfl⟩
      have e : (2 : Nat) ^ k < 2 ^ 15 := Nat.pow_lt_pow_right (by decide) (by omega)
      have e2 : (2 : Nat) ^ 15 = 32768 := rfl
      show SV.v _ = SV.v _
      rw [Nat.pow_succ]
      generalize (2 : Nat) ^ k = q at *
      rw [u16_in (by omega)]; congr 2
    · conv => whnf
      have hd := of_decide_eq_false hd
      rw [i64_in (k := x) (by omega)] at hd
      have : x = k := by omega
      subst this
      exact fin_ret fun ad => by simp only [retV, SV.dens, SV.den, bitB]; rw [if_pos (by omega), Int.toNat_natCast, pow_nat]
theorem ent37 : Ent Try.prog 37 := by unfold Ent; kernel_rfl
theorem hasR_calls {s x : Int} (h0 : 0 ≤ s) (h1 : s < 65536) (h2 : 0 ≤ x) (h3 : x < 256) (w0 : World) : ∀ ad, Calls Try.prog 27 (SV.dens ad [.v (.int .u16 s), .v (.int .u8 x)]).toArray w0 (Ret w0 (.bool (hasB s x))) := by
  refine calls_sound tabOK Try.func27 rfl (by kernel_rfl) (show 2 ≤ 15 by decide) ⟨rfl, rfl, trivial⟩ ?_
  conv => whnf
  refine ⟨fun hc => ?_, fun hc => ?_⟩
  · conv => whnf
    have hc := of_decide_eq_true hc
    refine call_det (.v (.int .u16 (bitB x))) ent37 (fun ad w _ => value_calls h2 h3 w ad) rfl ?_
    conv => whnf
    have hp : (0 : Int) < 2 ^ x.toNat := Int.pow_pos (by decide)
    have hb : bitB x = 2 ^ x.toNat := by unfold bitB; rw [if_pos (by omega)]
    rw [hb]
    refine ⟨by omega, ?_⟩
    conv => whnf
    refine ⟨by decide, ?_⟩
    conv => whnf
    exact fin_ret fun ad => by
      simp only [retV, SV.dens, SV.den, hasB]
      rw [show decide (x < 16) = true from decide_eq_true (by omega), Bool.true_and]
      have e1 : s.tdiv (2 ^ x.toNat) = s / 2 ^ x.toNat := Int.tdiv_eq_ediv_of_nonneg h0
      have e2 : 0 ≤ s / 2 ^ x.toNat := Int.ediv_nonneg h0 (Int.le_of_lt hp)
      have e3 : s / 2 ^ x.toNat ≤ s := Int.ediv_le_self _ h0
      rw [e1, u16_in ⟨e2, by omega⟩, Int.tmod_eq_emod_of_nonneg e2]
  · conv => whnf
    have hc := of_decide_eq_false hc
    exact fin_ret fun ad => by simp only [retV, SV.dens, SV.den, hasB]; rw [decide_eq_false (by omega)]; rfl
theorem ent27 : Ent Try.prog 27 := by unfold Ent; kernel_rfl
theorem fitsR_calls {M : Int} (h0 : 0 ≤ M) (h1 : M < 65536) {xs : List Int} (hx : xs.length = 16) (w0 : World) : ∀ ad, Calls Try.prog 28 (SV.dens ad [.v (.int .u16 M), vec xs]).toArray w0 (Ret w0 (.bool (fitsB M xs))) := by
  refine calls_sound tabOK Try.func28 rfl (by kernel_rfl) (show 2 ≤ 27 by decide) ⟨rfl, ⟨hx, trivial⟩, trivial⟩ ?_
  conv => whnf
  refine loop_rule tabOK (by kernel_rfl) (fun k : Nat => ⟨[(5, .v (.int .i64 k)), (3, .ptr 3 0), (0, .v (.int .u16 M))], [(3, ([.ints .u16 16 xs], 28))], [], fun g => g < w0.heap.size, w0⟩) (fun k => k ≤ 16 ∧ ∀ j, j < k → fit1 M xs j = true) (fun k => 16 - k) 0 ⟨by omega, fun j hj => by omega⟩ ⟨⟨rfl, rfl, rfl, trivial⟩, ⟨rfl, trivial⟩, rfl, fun _ h => h, rfl⟩ ?_
  intro k ⟨hk, hfit⟩
  conv => whnf
  refine ⟨fun hc => ?_, fun hc => ?_⟩
  · conv => whnf
    have hk' : k < 16 := by have := of_decide_eq_true hc; omega
    refine ⟨⟨by omega, by omega⟩, ?_⟩
    conv => whnf
    refine ⟨fun ha => ?_, fun ha => ?_⟩
    · conv => whnf
      rw [Int.toNat_natCast] at ha
      exact fin_ret fun ad => by simp only [retV, SV.dens, SV.den, fitsB]; rw [not_all_range hk' (by simp only [fit1, ha]; rfl)]
    · conv => whnf
      rw [Int.toNat_natCast] at ha
      refine ⟨⟨by omega, by omega⟩, ?_⟩
      conv => whnf
      refine ⟨fun hb => ?_, fun hb => ?_⟩
      · conv => whnf
        rw [Int.toNat_natCast] at hb
        rw [u8_nat (k := k) (by omega)]
        refine call_det (.v (.bool (hasB M k))) ent27 (fun ad w _ => hasR_calls h0 h1 (by omega) (by omega) w ad) rfl ?_
        conv => whnf
        refine ⟨fun hd => ?_, fun hd => ?_⟩
        · conv => whnf
          exact fin_ret fun ad => by simp only [retV, SV.dens, SV.den, fitsB]; rw [not_all_range hk' (by simp only [fit1, ha, hb, hd]; rfl)]
        · conv => whnf
          refine ⟨k + 1, ⟨by omega, fun j hj => ?_⟩, by omega, ⟨i64_step hk' (by omega), rfl, rfl, trivial⟩, ⟨rfl, trivial⟩, rfl, fun _ h => h, rfl⟩
          rcases Nat.lt_succ_iff_lt_or_eq.1 hj with h | h
          · exact hfit j h
          · subst h; simp only [fit1, ha, hb, hd]; rfl
      · conv => whnf
        rw [Int.toNat_natCast] at hb
        refine ⟨k + 1, ⟨by omega, fun j hj => ?_⟩, by omega, ⟨i64_step hk' (by omega), rfl, rfl, trivial⟩, ⟨rfl, trivial⟩, rfl, fun _ h => h, rfl⟩
        rcases Nat.lt_succ_iff_lt_or_eq.1 hj with h | h
        · exact hfit j h
        · subst h; simp only [fit1, ha, hb]; rfl
  · conv => whnf
    have hk' : k = 16 := by have := of_decide_eq_false hc; omega
    subst hk'
    exact fin_ret fun ad => by simp only [retV, SV.dens, SV.den, fitsB]; rw [all_range hfit]
theorem mixed : Try.prog.follows .mixedOrders = true := by kernel_rfl
theorem joinR_calls {xs ys : List Int} (hx : xs.length = 16) (hy : ys.length = 16) (w0 : World) : ∀ ad, Calls Try.prog 32 (SV.dens ad [vec xs, vec ys]).toArray w0 (Ret w0 ((vec (vmax xs ys)).den id)) := by
  refine calls_sound tabOK Try.func32 rfl (by kernel_rfl) (show 2 ≤ 20 by decide) ⟨⟨hx, trivial⟩, ⟨hy, trivial⟩, trivial⟩ ?_
  conv => whnf
  refine loop_rule tabOK (by kernel_rfl) (fun k : Nat => ⟨[(5, .v (.int .i64 k)), (4, .ptr 4 0), (3, .ptr 3 0), (2, .ptr 2 0)], [(2, ([.ints .u16 16 ((vmax xs ys).take k ++ xs.drop k)], 28)), (3, ([.ints .u16 16 ys], 28)), (4, ([.ints .u16 16 (List.replicate 16 0)], 28))], [], fun g => g < w0.heap.size, w0⟩) (fun k => k ≤ 16) (fun k => 16 - k) 0 (by omega) ⟨⟨rfl, rfl, rfl, rfl, trivial⟩, ⟨rfl, rfl, rfl, trivial⟩, rfl, fun _ h => h, rfl⟩ ?_
  intro k hk
  conv => whnf
  refine ⟨fun hc => ?_, fun hc => ?_⟩
  · conv => whnf
    have hk' : k < 16 := by have := of_decide_eq_true hc; omega
    refine draw_rule tabOK mixed [] [9] pP32_4 [] (by kernel_rfl) (by kernel_rfl) ?_
    conv => whnf
    refine ⟨⟨by omega, by omega⟩, ?_⟩
    conv => whnf
    refine ⟨⟨by omega, by omega⟩, ?_⟩
    conv => whnf
    refine ⟨⟨by omega, by omega⟩, ?_⟩
    conv => whnf
    refine ⟨k + 1, by omega, by omega, ⟨i64_step hk' (by omega), rfl, rfl, rfl, trivial⟩, ⟨?_, rfl, rfl, trivial⟩, rfl, fun _ h => h, rfl⟩
    show ([Seg.ints _ _ _], 28) = _
    rw [Int.toNat_natCast, vec_step hx (vmax_len hx hy) hk' ?_]
    rw [mix_get hx (vmax_len hx hy) hk', vmax_get hx hy hk']
  · conv => whnf
    have hk' : k = 16 := by have := of_decide_eq_false hc; omega
    subst hk'
    refine fin_ret fun ad => ?_
    rw [List.take_of_length_le (by rw [vmax_len hx hy]; omega), List.drop_eq_nil_of_le (by omega), List.append_nil]
    rfl
end Go.Proofs.Ytcmooifiiakbdaa
