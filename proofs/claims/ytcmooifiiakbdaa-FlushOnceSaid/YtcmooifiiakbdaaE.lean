/-
  Is a flush right, in the document's answer: walked. How many a set has.
-/
import Derived.Test.YtcmooifiiakbdaaD
set_option linter.unusedVariables false
namespace Go.Proofs.Ytcmooifiiakbdaa
open Go Go.Sx Go.RowKit
theorem ent28 : Ent Try.prog 28 := by unfold Ent; kernel_rfl
set_option maxHeartbeats 1000000
set_option maxRecDepth 20000
theorem rightR_calls {M : Int} (h0 : 0 ≤ M) (h1 : M < 65536) {A : Option Addr} {c : Nat} {ms : List Mk} (hms : ∀ m ∈ ms, m.Ok) (w0 : World) (hrd : Rd (fun g => g < w0.heap.size) w0 A (mcells ms)) (hn : ms.length < 100000) : ∀ ad, Calls Try.prog 26 (SV.dens ad [flu M A ms.length c]).toArray w0 (Ret w0 (.bool (rightB M ms))) := by
  refine calls_sound tabOK Try.func26 rfl (by kernel_rfl) (show 1 ≤ 50 by decide) ⟨⟨rfl, rfl, trivial⟩, trivial⟩ ?_
  conv => whnf
  have hsz : ∀ x ∈ ms, (flat x.segs).length = 17 := fun x hx => segs_len (hms x hx)
  have hA : ∀ {k : Nat}, k < ms.length → A ≠ none := fun {k} h => hrd.some fun e => by
    have := congrArg List.length e
    rw [mcells, flatMap_len hsz] at this
    simp at this; omega
  refine loop_rule tabOK (by kernel_rfl) (fun k : Nat => ⟨[(3, .v (.int .i64 k)), (1, .ptr 1 0)], [(1, ([.one (.int .u16 M), .one (.slice A ms.length c)], 26))], [], fun g => g < w0.heap.size, w0⟩) (fun k => k ≤ ms.length ∧ ∀ j, j < k → at1 M ms j = true) (fun k => ms.length - k) 0 ⟨by omega, fun j hj => by omega⟩ ⟨⟨rfl, rfl, trivial⟩, ⟨rfl, trivial⟩, rfl, fun _ h => h, rfl⟩ ?_
  intro k ⟨hk, hfit⟩
  conv => whnf
  refine ⟨fun hc => ?_, fun hc => ?_⟩
  · conv => whnf
    have hk' : k < ms.length := by have := of_decide_eq_true hc; omega
    obtain ⟨m, hm⟩ : ∃ m, ms[k]? = some m := ⟨_, List.getElem?_eq_getElem hk'⟩
    have hok := hms m (List.mem_of_getElem? hm)
    have hi : (0 : Int) ≤ k ∧ (k : Int) < ms.length ∧ A ≠ none := ⟨by omega, by omega, hA hk'⟩
    refine ⟨hi, ?_⟩
    conv => whnf
    refine xload_row tabOK (t := 30) rfl Mk.segs hrd hsz ⟨rfl, hok.2.1, trivial⟩ hm (i := k) (o := 0) (by rw [Int.toNat_natCast]; rfl) (by decide) ?_
    conv => whnf
    refine draw_rule tabOK mixed [] [] pP26_5 [] (by kernel_rfl) (by kernel_rfl) ?_
    conv => whnf
    refine call_det (.v (.bool (hasB M m.who))) ent27 (fun ad w _ => hasR_calls h0 h1 hok.1.1 hok.1.2 w ad) rfl ?_
    conv => whnf
    refine ⟨fun ha => ?_, fun ha => ?_⟩
    · conv => whnf
      exact fin_ret fun ad => by
        simp only [retV, SV.dens, SV.den, rightB]
        rw [not_all_range hk' (by simp only [at1, hm]; rw [show hasB M m.who = false by simpa using ha]; rfl), Bool.false_and]
    · conv => whnf
      have ha : hasB M m.who = true := by simpa using ha
      refine call_det (.v (.bool (fitsB M m.past))) ent28 (fun ad w _ => fitsR_calls h0 h1 hok.2.1 w ad) rfl ?_
      conv => whnf
      refine ⟨fun hb => ?_, fun hb => ?_⟩
      · conv => whnf
        exact fin_ret fun ad => by
          simp only [retV, SV.dens, SV.den, rightB]
          rw [not_all_range hk' (by simp only [at1, hm]; rw [show fitsB M m.past = false by simpa using hb, ha]; rfl), Bool.false_and]
      · conv => whnf
        have hb : fitsB M m.past = true := by simpa using hb
        refine ⟨fun hd => ?_, fun hd => ?_⟩
        · conv => whnf
          have hd := of_decide_eq_true hd
          obtain ⟨j, rfl⟩ : ∃ j, k = j + 1 := ⟨k - 1, by omega⟩
          obtain ⟨p, hp⟩ : ∃ p, ms[j]? = some p := ⟨_, List.getElem?_eq_getElem (by omega)⟩
          have hpk := hms p (List.mem_of_getElem? hp)
          rw [i64_in (k := ((j + 1 : Nat) : Int) - 1) (by omega), show ((j + 1 : Nat) : Int) - 1 = (j : Int) by omega]
          have hi : (0 : Int) ≤ j ∧ (j : Int) < ms.length ∧ A ≠ none := ⟨by omega, by omega, hA hk'⟩
          refine ⟨hi, ?_⟩
          conv => whnf
          refine xload_row tabOK (t := 5) rfl Mk.segs hrd hsz ⟨rfl, hpk.2.1, trivial⟩ hp (i := j) (o := 0) (by rw [Int.toNat_natCast]) (by decide) ?_
          conv => whnf
          have hcmp : decide (m.who ≤ p.who) = !decide (p.who < m.who) := by
            by_cases h : p.who < m.who
            · simp [h]
            · simp [h, Int.not_lt.1 h]
          rw [hcmp]
          refine ⟨fun he => ?_, fun he => ?_⟩
          · conv => whnf
            exact fin_ret fun ad => by
              simp only [retV, SV.dens, SV.den, rightB]
              rw [not_all_range hk' (by simp only [at1, hm, hp]; rw [show decide (p.who < m.who) = false by simpa using he]; simp), Bool.false_and]
          · conv => whnf
            refine ⟨j + 1 + 1, ⟨by omega, fun i hi => ?_⟩, by omega, ⟨i64_step hk' (by omega), rfl, trivial⟩, ⟨rfl, trivial⟩, rfl, fun _ h => h, rfl⟩
            rcases Nat.lt_succ_iff_lt_or_eq.1 hi with h | h
            · exact hfit i h
            · subst h; simp only [at1, hm, hp]; rw [ha, hb, show decide (p.who < m.who) = true by simpa using he]; rfl
        · conv => whnf
          have hd := of_decide_eq_false hd
          have : k = 0 := by omega
          subst this
          refine ⟨0 + 1, ⟨by omega, fun i hi => ?_⟩, by omega, ⟨i64_step hk' (by omega), rfl, trivial⟩, ⟨rfl, trivial⟩, rfl, fun _ h => h, rfl⟩
          have : i = 0 := by omega
          subst this
          simp only [at1, hm]; rw [ha, hb]; rfl
  · conv => whnf
    have hk' : k = ms.length := by have := of_decide_eq_false hc; omega
    subst hk'
    exact fin_ret fun ad => by simp only [retV, SV.dens, SV.den, rightB]; rw [all_range hfit, Bool.true_and]
end Go.Proofs.Ytcmooifiiakbdaa
