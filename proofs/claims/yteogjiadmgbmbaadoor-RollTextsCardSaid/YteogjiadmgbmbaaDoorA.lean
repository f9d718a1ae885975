/-
  Sets of members, walked.
-/
import Derived.Test.YteogjiadmgbmbaaDoorTab
import Derived.Test.YteogjiadmgbmbaaDoorPl
set_option linter.unusedVariables false
namespace Go.Proofs.YteogjiadmgbmbaaDoor
open Go Go.Sx Go.RowKit
theorem bit_calls {x : Int} (hx : 0 ≤ x) (w0 : World) : ∀ ad, Calls Tryd.prog 27 (SV.dens ad [.v (.int .u8 x)]).toArray w0 (Ret w0 (.int .u16 (bitB x))) := by
  refine calls_sound tabOK Tryd.func27 rfl (by kernel_rfl) (show 1 ≤ 6 by decide) ⟨rfl, trivial⟩ ?_
  conv => whnf
  refine ⟨hx, ?_⟩
  conv => whnf
  exact fin_ret fun ad => by simp [retV, SV.dens, SV.den, bit_eq hx]
theorem ent27 : Ent Tryd.prog 27 := by unfold Ent; kernel_rfl
theorem has_calls {s x : Int} (h0 : 0 ≤ s) (h1 : s < 65536) (hx : 0 ≤ x) (w0 : World) : ∀ ad, Calls Tryd.prog 16 (SV.dens ad [.v (.int .u16 s), .v (.int .u8 x)]).toArray w0 (Ret w0 (.bool (hasB s x))) := by
  refine calls_sound tabOK Tryd.func16 rfl (by kernel_rfl) (show 2 ≤ 10 by decide) ⟨rfl, rfl, trivial⟩ ?_
  conv => whnf
  refine call_det (.v (.int .u16 (bitB x))) ent27 (fun ad w _ => bit_calls hx w ad) rfl ?_
  conv => whnf
  exact fin_ret fun ad => by simp only [retV, SV.dens, SV.den, has_eq h0 h1 hx]
end Go.Proofs.YteogjiadmgbmbaaDoor
