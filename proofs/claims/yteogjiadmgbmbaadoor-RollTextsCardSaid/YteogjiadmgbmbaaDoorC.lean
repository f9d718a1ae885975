/-
  The document's sets, walked.
-/
import Derived.Test.YteogjiadmgbmbaaDoorA
set_option linter.unusedVariables false
namespace Go.Proofs.YteogjiadmgbmbaaDoor
open Go Go.Sx Go.RowKit
theorem value_calls {x : Int} (h0 : 0 ≤ x) (h1 : x < 256) (w0 : World) : ∀ ad, Calls Tryd.prog 26 (SV.dens ad [.v (.int .u8 x)]).toArray w0 (Ret w0 (.int .u16 (bitB x))) := by
  refine calls_sound tabOK Tryd.func26 rfl (by kernel_rfl) (show 1 ≤ 16 by decide) ⟨rfl, trivial⟩ ?_
  conv => whnf
  refine ⟨fun hc => ?_, fun hc => ?_⟩
  · conv => whnf
    exact fin_ret fun ad => by
      have := of_decide_eq_true hc
      simp only [retV, SV.dens, SV.den, bitB]; rw [if_neg (by omega)]
  · conv => whnf
    have hx := of_decide_eq_false hc
    refine loop_rule tabOK (by kernel_rfl) (fun k : Nat => ⟨[(4, .v (.int .i64 k)), (3, .v (.int .u16 ((2 ^ k : Nat) : Int))), (0, .v (.int .u8 x))], [], [], fun g => g < w0.heap.size, w0⟩) (fun k => (k : Int) ≤ x) (fun k => 16 - k) 0 (by omega) ⟨⟨rfl, rfl, rfl, trivial⟩, trivial, rfl, fun _ h => h, rfl⟩ ?_
    intro k hk
    conv => whnf
    refine ⟨fun hd => ?_, fun hd => ?_⟩
    · conv => whnf
      have hd := of_decide_eq_true hd
      rw [i64_in (k := x) (by omega)] at hd
      refine ⟨k + 1, by omega, by omega, ⟨i64_step (m := 16) (by omega) (by omega), ?_, rfl, trivial⟩, trivial, rfl, fun _ h => h, rfl⟩
      have e : (2 : Nat) ^ k < 2 ^ 15 := Nat.pow_lt_pow_right (by decide) (by omega)
      have e2 : (2 : Nat) ^ 15 = 32768 := rfl
      show SV.v _ = SV.v _
      rw [Nat.pow_succ]
      generalize (2 : Nat) ^ k = q at *
      rw [u16_in (by omega)]; congr 2
    · conv => whnf
      have hd := of_decide_eq_false hd
      rw [i64_in (k := x) (by omega)] at hd
      have : x = k := by omega
      subst this
      exact fin_ret fun ad => by simp only [retV, SV.dens, SV.den, bitB]; rw [if_pos (by omega), Int.toNat_natCast, pow_nat]
theorem ent26 : Ent Tryd.prog 26 := by unfold Ent; kernel_rfl
theorem hasR_calls {s x : Int} (h0 : 0 ≤ s) (h1 : s < 65536) (h2 : 0 ≤ x) (h3 : x < 256) (w0 : World) : ∀ ad, Calls Tryd.prog 15 (SV.dens ad [.v (.int .u16 s), .v (.int .u8 x)]).toArray w0 (Ret w0 (.bool (hasB s x))) := by
  refine calls_sound tabOK Tryd.func15 rfl (by kernel_rfl) (show 2 ≤ 15 by decide) ⟨rfl, rfl, trivial⟩ ?_
  conv => whnf
  refine ⟨fun hc => ?_, fun hc => ?_⟩
  · conv => whnf
    have hc := of_decide_eq_true hc
    refine call_det (.v (.int .u16 (bitB x))) ent26 (fun ad w _ => value_calls h2 h3 w ad) rfl ?_
    conv => whnf
    have hp : (0 : Int) < 2 ^ x.toNat := Int.pow_pos (by decide)
    have hb : bitB x = 2 ^ x.toNat := by unfold bitB; rw [if_pos (by omega)]
    rw [hb]
    refine ⟨by omega, ?_⟩
    conv => whnf
    refine ⟨by decide, ?_⟩
    conv => whnf
    exact fin_ret fun ad => by
      simp only [retV, SV.dens, SV.den, hasB]
      rw [show decide (x < 16) = true from decide_eq_true (by omega), Bool.true_and]
      have e1 : s.tdiv (2 ^ x.toNat) = s / 2 ^ x.toNat := Int.tdiv_eq_ediv_of_nonneg h0
      have e2 : 0 ≤ s / 2 ^ x.toNat := Int.ediv_nonneg h0 (Int.le_of_lt hp)
      have e3 : s / 2 ^ x.toNat ≤ s := Int.ediv_le_self _ h0
      rw [e1, u16_in ⟨e2, by omega⟩, Int.tmod_eq_emod_of_nonneg e2]
  · conv => whnf
    have hc := of_decide_eq_false hc
    exact fin_ret fun ad => by simp only [retV, SV.dens, SV.den, hasB]; rw [decide_eq_false (by omega)]; rfl
theorem ent15 : Ent Tryd.prog 15 := by unfold Ent; kernel_rfl
theorem mixed : Tryd.prog.follows .mixedOrders = true := by kernel_rfl
end Go.Proofs.YteogjiadmgbmbaaDoor
