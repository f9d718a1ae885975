/-
  Below, walked, where it is.
-/
import Derived.Test.YtcmooifiiakbdaaR
import Derived.Test.YtcmooifiiakbdaaS
set_option linter.unusedVariables false
set_option linter.unusedSimpArgs false
namespace Go.Proofs.Ytcmooifiiakbdaa
open Go Go.Sx Go.RowKit
set_option maxHeartbeats 1000000
set_option maxRecDepth 20000
theorem below_calls {xs ys : List Int} (hx : xs.length = 16) (hy : ys.length = 16) (hle : ∀ k : Nat, k < 16 → xs.getD k 0 ≤ ys.getD k 0) (w0 : World) : ∀ ad, Calls Try.prog 18 (SV.dens ad [vec xs, vec ys]).toArray w0 (Ret w0 (.bool true)) := by
  refine calls_sound tabOK Try.func18 rfl (by kernel_rfl) (Nat.le_of_ble_eq_true rfl) ⟨⟨hx, trivial⟩, ⟨hy, trivial⟩, trivial⟩ ?_
  conv => whnf
  refine loop_rule tabOK (by kernel_rfl) (fun k : Nat => ⟨[(5, .v (.int .i64 k)), (3, .ptr 3 0), (2, .ptr 2 0)], [(2, ([.ints .u16 16 xs], 28)), (3, ([.ints .u16 16 ys], 28))], [], fun g => g < w0.heap.size, w0⟩) (fun k => k ≤ 16) (fun k => 16 - k) 0 (by omega) ⟨⟨rfl, rfl, rfl, trivial⟩, ⟨rfl, rfl, trivial⟩, rfl, fun _ h => h, rfl⟩ ?_
  intro k hk
  conv => whnf
  refine ⟨fun hc => ?_, fun hc => ?_⟩
  · conv => whnf
    have hk' : k < 16 := by have := of_decide_eq_true hc; omega
    refine draw_rule tabOK mixed [] [] pP18_4 [] (by kernel_rfl) (by kernel_rfl) ?_
    conv => whnf
    refine ⟨⟨by omega, by omega⟩, ?_⟩
    conv => whnf
    refine ⟨⟨by omega, by omega⟩, ?_⟩
    conv => whnf
    refine ⟨fun h => ?_, fun _ => ?_⟩
    · have h := of_decide_eq_true h
      rw [Int.toNat_natCast] at h
      have := hle k hk'
      omega
    · conv => whnf
      exact ⟨k + 1, by omega, by omega, ⟨i64_step hk' (by omega), rfl, rfl, trivial⟩, ⟨rfl, rfl, trivial⟩, rfl, fun _ h => h, rfl⟩
  · conv => whnf
    exact fin_ret fun ad => rfl
end Go.Proofs.Ytcmooifiiakbdaa
