/-
  Over and Same, walked; a flush told in the other's words.
-/
import Derived.Test.YtcmooifiiakbdaaK
import Derived.Test.YtcmooifiiakbdaaSxM
set_option linter.unusedVariables false
set_option linter.unusedSimpArgs false
namespace Go.Proofs.Ytcmooifiiakbdaa
open Go Go.Sx Go.RowKit
set_option maxHeartbeats 1000000
set_option maxRecDepth 20000
def overB (M : Int) (ms : List Mk) (v : List Int) : Bool := tgtB M ms && decide (tgtV M ms = v)
theorem tgtV_len {M : Int} {ms : List Mk} (h : ∀ m ∈ ms, m.Ok) : (tgtV M ms).length = 16 := by
  unfold tgtV; split
  · exact tgt_len h
  · simp [zeros]
theorem ent12 : Ent Try.prog 12 := by unfold Ent; kernel_rfl
theorem ent13 : Ent Try.prog 13 := by unfold Ent; kernel_rfl
theorem over_calls {M : Int} (h0 : 0 ≤ M) (h1 : M < 65536) {A : Option Addr} {c : Nat} {ms : List Mk} {v : List Int} (hms : ∀ m ∈ ms, m.Ok) (hv : v.length = 16) (w0 : World) (hrd : Rd (fun g => g < w0.heap.size) w0 A (mcells ms)) (hn : ms.length < 10000) : ∀ ad, Calls Try.prog 16 (SV.dens ad [flu M A ms.length c, vec v]).toArray w0 (Ret w0 (.bool (overB M ms v))) := by
  refine calls_sound tabOK Try.func16 rfl (by kernel_rfl) (Nat.le_of_ble_eq_true rfl) ⟨⟨rfl, rfl, trivial⟩, ⟨hv, trivial⟩, trivial⟩ ?_
  conv => whnf
  refine call_det (.tup [vec (tgtV M ms), .v (.bool (tgtB M ms))]) ent12 (fun ad w hw => target_calls h0 h1 hms w (hw.rd hrd) hn ad) ⟨⟨tgtV_len hms, trivial⟩, rfl, trivial⟩ ?_
  conv => whnf
  refine ⟨fun ha => ?_, fun ha => ?_⟩
  · conv => whnf
    refine eq_arr (e := 22) (n := 16) (k := .u16) (by kernel_rfl) (tgtV_len hms) hv ?_
    conv => whnf
    exact fin_ret fun ad => by simp only [overB, ha]; rfl
  · conv => whnf
    exact fin_ret fun ad => by simp only [overB, ha]; rfl
theorem overR_calls {M : Int} (h0 : 0 ≤ M) (h1 : M < 65536) {A : Option Addr} {c : Nat} {ms : List Mk} {v : List Int} (hms : ∀ m ∈ ms, m.Ok) (hv : v.length = 16) (w0 : World) (hrd : Rd (fun g => g < w0.heap.size) w0 A (mcells ms)) (hn : ms.length < 10000) : ∀ ad, Calls Try.prog 17 (SV.dens ad [flu M A ms.length c, vec v]).toArray w0 (Ret w0 (.bool (overB M ms v))) := by
  refine calls_sound tabOK Try.func17 rfl (by kernel_rfl) (Nat.le_of_ble_eq_true rfl) ⟨⟨rfl, rfl, trivial⟩, ⟨hv, trivial⟩, trivial⟩ ?_
  conv => whnf
  refine call_det (.tup [vec (tgtV M ms), .v (.bool (tgtB M ms))]) ent13 (fun ad w hw => targetR_calls h0 h1 hms w (hw.rd hrd) hn ad) ⟨⟨tgtV_len hms, trivial⟩, rfl, trivial⟩ ?_
  conv => whnf
  refine ⟨fun ha => ?_, fun ha => ?_⟩
  · conv => whnf
    refine eq_arr (e := 22) (n := 16) (k := .u16) (by kernel_rfl) (tgtV_len hms) hv ?_
    conv => whnf
    exact fin_ret fun ad => by simp only [overB, ha]; rfl
  · conv => whnf
    exact fin_ret fun ad => by simp only [overB, ha]; rfl
theorem Mk.ext' {a b : Mk} (h1 : a.who = b.who) (h2 : a.past = b.past) : a = b := by cases a; cases b; simp only at h1 h2; subst h1; subst h2; rfl
/-- Same, where it is: two flushes of one number of members and of the same marks. -/
theorem same_calls {M : Int} {A B : Option Addr} {c d : Nat} {ms : List Mk} (hms : ∀ m ∈ ms, m.Ok) (w0 : World) (hra : Rd (fun g => g < w0.heap.size) w0 A (mcells ms)) (hrb : Rd (fun g => g < w0.heap.size) w0 B (mcells ms)) (hn : ms.length < 100000) : ∀ ad, Calls Try.prog 14 (SV.dens ad [flu M A ms.length c, flu M B ms.length d]).toArray w0 (Ret w0 (.bool true)) := by
  refine calls_sound tabOK Try.func14 rfl (by kernel_rfl) (Nat.le_of_ble_eq_true rfl) ⟨⟨rfl, rfl, trivial⟩, ⟨rfl, rfl, trivial⟩, trivial⟩ ?_
  conv => whnf
  have hsz : ∀ x ∈ ms, (flat x.segs).length = 17 := fun x hx => segs_len (hms x hx)
  have hA : ∀ {k : Nat} {A : Option Addr}, Rd (fun g => g < w0.heap.size) w0 A (mcells ms) → k < ms.length → A ≠ none := fun {k A} hrd h => hrd.some fun e => by
    have := congrArg List.length e
    rw [mcells_len hms] at this
    simp at this; omega
  refine ⟨fun hc => by simp at hc, fun _ => ?_⟩
  conv => whnf
  refine ⟨fun hc => by simp at hc, fun _ => ?_⟩
  conv => whnf
  refine loop_rule tabOK (by kernel_rfl) (fun k : Nat => ⟨[(5, .v (.int .i64 k)), (3, .ptr 3 0), (2, .ptr 2 0)], [(2, ([.one (.int .u16 M), .one (.slice A ms.length c)], 26)), (3, ([.one (.int .u16 M), .one (.slice B ms.length d)], 26))], [], fun g => g < w0.heap.size, w0⟩) (fun k => k ≤ ms.length) (fun k => ms.length - k) 0 (Nat.zero_le _) ⟨⟨rfl, rfl, rfl, trivial⟩, ⟨rfl, rfl, trivial⟩, rfl, fun _ h => h, rfl⟩ ?_
  intro k hk
  conv => whnf
  refine ⟨fun hc => ?_, fun hc => ?_⟩
  · conv => whnf
    have hk' : k < ms.length := by have := of_decide_eq_true hc; omega
    obtain ⟨m, hm⟩ : ∃ m, ms[k]? = some m := ⟨_, List.getElem?_eq_getElem hk'⟩
    have hok := hms m (List.mem_of_getElem? hm)
    have hi : (0 : Int) ≤ k ∧ (k : Int) < ms.length ∧ A ≠ none := ⟨by omega, by omega, hA hra hk'⟩
    have hi' : (0 : Int) ≤ k ∧ (k : Int) < ms.length ∧ B ≠ none := ⟨by omega, by omega, hA hrb hk'⟩
    refine draw_rule tabOK mixed [] [] pP14_6 [] (by kernel_rfl) (by kernel_rfl) ?_
    conv => whnf
    refine ⟨hi, ?_⟩
    conv => whnf
    refine xload_row tabOK (t := 30) rfl Mk.segs hra hsz ⟨rfl, hok.2.1, trivial⟩ hm (i := k) (o := 0) (by rw [Int.toNat_natCast]; rfl) (by decide) ?_
    conv => whnf
    refine ⟨hi', ?_⟩
    conv => whnf
    refine xload_row tabOK (t := 30) rfl Mk.segs hrb hsz ⟨rfl, hok.2.1, trivial⟩ hm (i := k) (o := 0) (by rw [Int.toNat_natCast]; rfl) (by decide) ?_
    conv => whnf
    refine eq_nv (f0 := 5) (f1 := 28) (e := 22) (n := 16) (k0 := .u8) (k := .u16) (by kernel_rfl) hok.2.1 hok.2.1 ?_
    conv => whnf
    refine ⟨fun hc => by simp at hc, fun _ => ?_⟩
    conv => whnf
    exact ⟨k + 1, by omega, by omega, ⟨i64_step (m := 100000) (by omega) (by omega), rfl, rfl, trivial⟩, ⟨rfl, rfl, trivial⟩, rfl, fun _ h => h, rfl⟩
  · conv => whnf
    exact fin_ret fun ad => rfl
end Go.Proofs.Ytcmooifiiakbdaa
