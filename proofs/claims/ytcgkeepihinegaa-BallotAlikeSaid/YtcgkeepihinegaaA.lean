/-
  Functions of the ballot, walked: those that hold no loop.
-/
import Derived.Test.YtcgkeepihinegaaTab
import Derived.Test.YtcgkeepihinegaaPl
set_option linter.unusedVariables false
namespace Go.Proofs.Ytcgkeepihinegaa
open Go Go.Sx Go.RowKit
theorem isNaN_calls (x : Int) (w0 : World) : ∀ ad, Calls Try.prog 52 (SV.dens ad [.v (.int .u8 x)]).toArray w0 (Ret w0 (.bool false)) := by
  refine calls_sound tabOK Try.func52 rfl (by kernel_rfl) (show 1 ≤ 6 by decide) ⟨rfl, trivial⟩ ?_
  conv => whnf
  exact fin_ret fun ad => by simp [retV, SV.dens, SV.den]
theorem bit_calls {x : Int} (hx : 0 ≤ x) (w0 : World) : ∀ ad, Calls Try.prog 44 (SV.dens ad [.v (.int .u8 x)]).toArray w0 (Ret w0 (.int .u16 (bitB x))) := by
  refine calls_sound tabOK Try.func44 rfl (by kernel_rfl) (show 1 ≤ 6 by decide) ⟨rfl, trivial⟩ ?_
  conv => whnf
  refine ⟨hx, ?_⟩
  conv => whnf
  exact fin_ret fun ad => by simp [retV, SV.dens, SV.den, bit_eq hx]
theorem ent44 : Ent Try.prog 44 := by unfold Ent; kernel_rfl
theorem ent52 : Ent Try.prog 52 := by unfold Ent; kernel_rfl
theorem has_calls {s x : Int} (h0 : 0 ≤ s) (h1 : s < 65536) (hx : 0 ≤ x) (w0 : World) : ∀ ad, Calls Try.prog 28 (SV.dens ad [.v (.int .u16 s), .v (.int .u8 x)]).toArray w0 (Ret w0 (.bool (hasB s x))) := by
  refine calls_sound tabOK Try.func28 rfl (by kernel_rfl) (show 2 ≤ 10 by decide) ⟨rfl, rfl, trivial⟩ ?_
  conv => whnf
  refine call_det (.v (.int .u16 (bitB x))) ent44 (fun ad w _ => bit_calls hx w ad) rfl ?_
  conv => whnf
  exact fin_ret fun ad => by simp only [retV, SV.dens, SV.den, has_eq h0 h1 hx]
def cmpI (x y : Int) : Int := if x < y then -1 else if y < x then 1 else 0
theorem compare_calls (x y : Int) (w0 : World) : ∀ ad, Calls Try.prog 43 (SV.dens ad [.v (.int .u8 x), .v (.int .u8 y)]).toArray w0 (Ret w0 (.int .i64 (cmpI x y))) := by
  refine calls_sound tabOK Try.func43 rfl (by kernel_rfl) (show 2 ≤ 20 by decide) ⟨rfl, rfl, trivial⟩ ?_
  conv => whnf
  refine call_det (.lit false) ent52 (fun ad w _ => isNaN_calls x w ad) trivial ?_
  conv => whnf
  refine call_det (.lit false) ent52 (fun ad w _ => isNaN_calls y w ad) trivial ?_
  conv => whnf
  refine ⟨fun hc => ?_, fun hc => ?_⟩
  · conv => whnf
    exact fin_ret fun ad => by simp at hc; simp [retV, SV.dens, SV.den, cmpI, hc]
  · conv => whnf
    refine ⟨fun hd => ?_, fun hd => ?_⟩
    · conv => whnf
      exact fin_ret fun ad => by simp at hc hd; simp [retV, SV.dens, SV.den, cmpI, hd]; omega
    · conv => whnf
      exact fin_ret fun ad => by simp at hc hd; simp only [retV, SV.dens, SV.den, cmpI]; rw [if_neg (by omega), if_neg (by omega)]
/-- A cast: who wants it, and the change. -/
structure Mk where
  who : Int
  add : Bool
  id : Int
def Mk.segs (m : Mk) : List Seg := [.one (.int .u8 m.who), .one (.bool m.add), .one (.int .u8 m.id)]
theorem Mk.sok (m : Mk) : SegsOk m.segs := ⟨rfl, rfl, rfl, trivial⟩
theorem ent43 : Ent Try.prog 43 := by unfold Ent; kernel_rfl
theorem order_calls (a b : Mk) (w0 : World) : ∀ ad, Calls Try.prog 27 (SV.dens ad [.agg a.segs, .agg b.segs]).toArray w0 (Ret w0 (.int .i64 (cmpI a.who b.who))) := by
  refine calls_sound tabOK Try.func27 rfl (by kernel_rfl) (show 2 ≤ 10 by decide) ⟨a.sok, b.sok, trivial⟩ ?_
  conv => whnf
  refine call_det (.v (.int .i64 (cmpI a.who b.who))) ent43 (fun ad w _ => compare_calls a.who b.who w ad) rfl ?_
  conv => whnf
  exact fin_ret fun ad => by simp [retV, SV.dens, SV.den]
end Go.Proofs.Ytcgkeepihinegaa
