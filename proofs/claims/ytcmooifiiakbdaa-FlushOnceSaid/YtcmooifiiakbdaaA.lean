/-
  Functions of the flush, walked: those that hold no loop, and one vector's.
-/
import Derived.Test.YtcmooifiiakbdaaTab
import Derived.Test.YtcmooifiiakbdaaPl
set_option linter.unusedVariables false
namespace Go.Proofs.Ytcmooifiiakbdaa
open Go Go.Sx Go.RowKit
theorem isNaN_calls (x : Int) (w0 : World) : ∀ ad, Calls Try.prog 40 (SV.dens ad [.v (.int .u8 x)]).toArray w0 (Ret w0 (.bool false)) := by
  refine calls_sound tabOK Try.func40 rfl (by kernel_rfl) (show 1 ≤ 6 by decide) ⟨rfl, trivial⟩ ?_
  conv => whnf
  exact fin_ret fun ad => by simp [retV, SV.dens, SV.den]
theorem bit_calls {x : Int} (hx : 0 ≤ x) (w0 : World) : ∀ ad, Calls Try.prog 34 (SV.dens ad [.v (.int .u8 x)]).toArray w0 (Ret w0 (.int .u16 (bitB x))) := by
  refine calls_sound tabOK Try.func34 rfl (by kernel_rfl) (show 1 ≤ 6 by decide) ⟨rfl, trivial⟩ ?_
  conv => whnf
  refine ⟨hx, ?_⟩
  conv => whnf
  exact fin_ret fun ad => by simp [retV, SV.dens, SV.den, bit_eq hx]
theorem ent34 : Ent Try.prog 34 := by unfold Ent; kernel_rfl
theorem ent40 : Ent Try.prog 40 := by unfold Ent; kernel_rfl
theorem has_calls {s x : Int} (h0 : 0 ≤ s) (h1 : s < 65536) (hx : 0 ≤ x) (w0 : World) : ∀ ad, Calls Try.prog 23 (SV.dens ad [.v (.int .u16 s), .v (.int .u8 x)]).toArray w0 (Ret w0 (.bool (hasB s x))) := by
  refine calls_sound tabOK Try.func23 rfl (by kernel_rfl) (show 2 ≤ 10 by decide) ⟨rfl, rfl, trivial⟩ ?_
  conv => whnf
  refine call_det (.v (.int .u16 (bitB x))) ent34 (fun ad w _ => bit_calls hx w ad) rfl ?_
  conv => whnf
  exact fin_ret fun ad => by simp only [retV, SV.dens, SV.den, has_eq h0 h1 hx]
def cmpI (x y : Int) : Int := if x < y then -1 else if y < x then 1 else 0
theorem compare_calls (x y : Int) (w0 : World) : ∀ ad, Calls Try.prog 33 (SV.dens ad [.v (.int .u8 x), .v (.int .u8 y)]).toArray w0 (Ret w0 (.int .i64 (cmpI x y))) := by
  refine calls_sound tabOK Try.func33 rfl (by kernel_rfl) (show 2 ≤ 20 by decide) ⟨rfl, rfl, trivial⟩ ?_
  conv => whnf
  refine call_det (.lit false) ent40 (fun ad w _ => isNaN_calls x w ad) trivial ?_
  conv => whnf
  refine call_det (.lit false) ent40 (fun ad w _ => isNaN_calls y w ad) trivial ?_
  conv => whnf
  refine ⟨fun hc => ?_, fun hc => ?_⟩
  · conv => whnf
    exact fin_ret fun ad => by simp at hc; simp [retV, SV.dens, SV.den, cmpI, hc]
  · conv => whnf
    refine ⟨fun hd => ?_, fun hd => ?_⟩
    · conv => whnf
      exact fin_ret fun ad => by simp at hc hd; simp [retV, SV.dens, SV.den, cmpI, hd]; omega
    · conv => whnf
      exact fin_ret fun ad => by simp at hc hd; simp only [retV, SV.dens, SV.den, cmpI]; rw [if_neg (by omega), if_neg (by omega)]
structure Mk where
  who : Int
  past : List Int
def Mk.segs (m : Mk) : List Seg := [.one (.int .u8 m.who), .ints .u16 16 m.past]
theorem ent33 : Ent Try.prog 33 := by unfold Ent; kernel_rfl
theorem order_calls {a b : Mk} (ha : a.past.length = 16) (hb : b.past.length = 16) (w0 : World) : ∀ ad, Calls Try.prog 22 (SV.dens ad [.agg a.segs, .agg b.segs]).toArray w0 (Ret w0 (.int .i64 (cmpI a.who b.who))) := by
  refine calls_sound tabOK Try.func22 rfl (by kernel_rfl) (show 2 ≤ 10 by decide) ⟨⟨rfl, ha, trivial⟩, ⟨rfl, hb, trivial⟩, trivial⟩ ?_
  conv => whnf
  refine call_det (.v (.int .i64 (cmpI a.who b.who))) ent33 (fun ad w _ => compare_calls a.who b.who w ad) rfl ?_
  conv => whnf
  exact fin_ret fun ad => by simp [retV, SV.dens, SV.den]
end Go.Proofs.Ytcmooifiiakbdaa
