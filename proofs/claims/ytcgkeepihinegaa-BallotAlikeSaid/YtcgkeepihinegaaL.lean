/-
  Same, where it is, walked; boxes told in the other's words, walked.
-/
import Derived.Test.YtcgkeepihinegaaJ
import Derived.Test.YtcgkeepihinegaaSxP
set_option linter.unusedVariables false
set_option linter.unusedSimpArgs false
namespace Go.Proofs.Ytcgkeepihinegaa
open Go Go.Sx Go.RowKit
set_option maxHeartbeats 1000000
set_option maxRecDepth 20000
def ksRoll : List CK := [.int .i64, .int .u16]
def ksChg : List CK := [.bool, .int .u8]
def ksCast : List CK := [.int .u8, .bool, .int .u8]
theorem same_calls {v M : Int} {A B : Option Addr} {c d : Nat} {ms : List Mk} (w0 : World) (hra : Rd (fun g => g < w0.heap.size) w0 A (mcells ms)) (hrb : Rd (fun g => g < w0.heap.size) w0 B (mcells ms)) (hn : ms.length < 100000) : ∀ ad, Calls Try.prog 15 (SV.dens ad [bx v M A ms.length c, bx v M B ms.length d]).toArray w0 (Ret w0 (.bool true)) := by
  refine calls_sound tabOK Try.func15 rfl (by kernel_rfl) (Nat.le_of_ble_eq_true rfl) ⟨⟨rfl, rfl, rfl, trivial⟩, ⟨rfl, rfl, rfl, trivial⟩, trivial⟩ ?_
  conv => whnf
  refine eq_plain (ks := ksRoll) (by kernel_rfl) rfl rfl rfl (by exact ⟨rfl, rfl, trivial⟩) (by exact ⟨rfl, rfl, trivial⟩) ?_
  conv => whnf
  refine ⟨fun hc => by simp [eqS, eq1] at hc, fun _ => ?_⟩
  conv => whnf
  refine ⟨fun hc => by simp at hc, fun _ => ?_⟩
  conv => whnf
  refine loop_rule tabOK (by kernel_rfl) (fun k : Nat => ⟨[(5, .v (.int .i64 k)), (3, .ptr 3 0), (2, .ptr 2 0)], [(2, ([.one (.int .i64 v), .one (.int .u16 M), .one (.slice A ms.length c)], 28)), (3, ([.one (.int .i64 v), .one (.int .u16 M), .one (.slice B ms.length d)], 28))], [], fun g => g < w0.heap.size, w0⟩) (fun k => k ≤ ms.length) (fun k => ms.length - k) 0 (Nat.zero_le _) ⟨⟨rfl, rfl, rfl, trivial⟩, ⟨rfl, rfl, trivial⟩, rfl, fun _ h => h, rfl⟩ ?_
  intro k hk
  conv => whnf
  refine ⟨fun hc => ?_, fun hc => ?_⟩
  · conv => whnf
    have hk' : k < ms.length := by have := of_decide_eq_true hc; omega
    obtain ⟨m, hm⟩ : ∃ m, ms[k]? = some m := ⟨_, List.getElem?_eq_getElem hk'⟩
    have hi : (0 : Int) ≤ k ∧ (k : Int) < ms.length ∧ A ≠ none := ⟨by omega, by omega, some_of hra hk'⟩
    have hi' : (0 : Int) ≤ k ∧ (k : Int) < ms.length ∧ B ≠ none := ⟨by omega, by omega, some_of hrb hk'⟩
    refine draw_rule tabOK mixed [] [] pP15_6 [] (by kernel_rfl) (by kernel_rfl) ?_
    conv => whnf
    refine ⟨hi, ?_⟩
    conv => whnf
    refine xload_row tabOK (t := 32) rfl Mk.segs hra (fun x _ => segs_len x) m.sok hm (i := k) (o := 0) (by rw [Int.toNat_natCast]; rfl) (by decide) ?_
    conv => whnf
    refine ⟨hi', ?_⟩
    conv => whnf
    refine xload_row tabOK (t := 32) rfl Mk.segs hrb (fun x _ => segs_len x) m.sok hm (i := k) (o := 0) (by rw [Int.toNat_natCast]; rfl) (by decide) ?_
    conv => whnf
    refine eq_plain (ks := ksCast) (by kernel_rfl) rfl rfl rfl m.sok m.sok ?_
    conv => whnf
    refine ⟨fun hc => by simp [eqS, eq1, Mk.segs] at hc, fun _ => ?_⟩
    conv => whnf
    exact ⟨k + 1, by omega, by omega, ⟨i64_step (m := 100000) (by omega) (by omega), rfl, rfl, trivial⟩, ⟨rfl, rfl, trivial⟩, rfl, fun _ h => h, rfl⟩
  · conv => whnf
    exact fin_ret fun ad => rfl
end Go.Proofs.Ytcgkeepihinegaa
