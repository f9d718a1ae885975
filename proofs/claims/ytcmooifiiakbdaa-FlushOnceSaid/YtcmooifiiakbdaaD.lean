/-
  Is a flush right: both roads, walked.
-/
import Derived.Test.YtcmooifiiakbdaaC
set_option linter.unusedVariables false
namespace Go.Proofs.Ytcmooifiiakbdaa
open Go Go.Sx Go.RowKit
def Mk.Ok (m : Mk) : Prop := (0 ≤ m.who ∧ m.who < 256) ∧ m.past.length = 16 ∧ ∀ x ∈ m.past, 0 ≤ x ∧ x < 65536
def mcells (ms : List Mk) : List Value := ms.flatMap fun m => flat m.segs
theorem segs_len {m : Mk} (h : m.Ok) : (flat m.segs).length = 17 := by simp [Mk.segs, flat, Seg.cells, h.2.1]
theorem flatMap_len {α : Type} {f : α → List Value} {sz : Nat} : ∀ {xs : List α} (h : ∀ x ∈ xs, (f x).length = sz), (xs.flatMap f).length = xs.length * sz
  | [], h => by simp
  | y :: r, h => by
    rw [List.flatMap_cons, List.length_append, h y (by simp), flatMap_len (fun z hz => h z (List.mem_cons_of_mem _ hz)), List.length_cons, Nat.succ_mul]; omega
def at1 (M : Int) (ms : List Mk) (i : Nat) : Bool := match ms[i]? with
  | some m => hasB M m.who && fitsB M m.past && (match i with
    | 0 => true
    | j + 1 => match ms[j]? with
      | some p => decide (p.who < m.who)
      | none => true)
  | none => true
def rightB (M : Int) (ms : List Mk) : Bool := (List.range ms.length).all (at1 M ms) && !decide (M = 0)
theorem ent24 : Ent Try.prog 24 := by unfold Ent; kernel_rfl
theorem ent22 : Ent Try.prog 22 := by unfold Ent; kernel_rfl
set_option maxHeartbeats 1000000
set_option maxRecDepth 20000
theorem right_calls {M : Int} (h0 : 0 ≤ M) (h1 : M < 65536) {A : Option Addr} {c : Nat} {ms : List Mk} (hms : ∀ m ∈ ms, m.Ok) (w0 : World) (hrd : Rd (fun g => g < w0.heap.size) w0 A (mcells ms)) (hn : ms.length < 100000) : ∀ ad, Calls Try.prog 20 (SV.dens ad [flu M A ms.length c]).toArray w0 (Ret w0 (.bool (rightB M ms))) := by
  refine calls_sound tabOK Try.func20 rfl (by kernel_rfl) (show 1 ≤ 45 by decide) ⟨⟨rfl, rfl, trivial⟩, trivial⟩ ?_
  conv => whnf
  have hsz : ∀ x ∈ ms, (flat x.segs).length = 17 := fun x hx => segs_len (hms x hx)
  have hA : ∀ {k : Nat}, k < ms.length → A ≠ none := fun {k} h => hrd.some fun e => by
    have := congrArg List.length e
    rw [mcells, flatMap_len hsz] at this
    simp at this; omega
  refine loop_rule tabOK (by kernel_rfl) (fun k : Nat => ⟨[(8, .v (.int .i64 k)), (7, .v (.int .i64 ms.length)), (6, .v (.slice A ms.length c)), (1, .ptr 1 0)], [(1, ([.one (.int .u16 M), .one (.slice A ms.length c)], 34))], [], fun g => g < w0.heap.size, w0⟩) (fun k => k ≤ ms.length ∧ ∀ j, j < k → at1 M ms j = true) (fun k => ms.length - k) 0 ⟨by omega, fun j hj => by omega⟩ ⟨⟨rfl, rfl, rfl, rfl, trivial⟩, ⟨rfl, trivial⟩, rfl, fun _ h => h, rfl⟩ ?_
  intro k ⟨hk, hfit⟩
  conv => whnf
  refine ⟨fun hc => ?_, fun hc => ?_⟩
  · conv => whnf
    have hk' : k < ms.length := by have := of_decide_eq_true hc; omega
    obtain ⟨m, hm⟩ : ∃ m, ms[k]? = some m := ⟨_, List.getElem?_eq_getElem hk'⟩
    have hok := hms m (List.mem_of_getElem? hm)
    have hi : (0 : Int) ≤ k ∧ (k : Int) < ms.length ∧ A ≠ none := ⟨by omega, by omega, hA hk'⟩
    refine ⟨hi, ?_⟩
    conv => whnf
    refine xload_row tabOK (t := 39) rfl Mk.segs hrd hsz ⟨rfl, hok.2.1, trivial⟩ hm (i := k) (o := 0) (by rw [Int.toNat_natCast]; rfl) (by decide) ?_
    conv => whnf
    refine draw_rule tabOK mixed [] [] pP20_4 [] (by kernel_rfl) (by kernel_rfl) ?_
    conv => whnf
    refine call_det (.v (.bool (hasB M m.who))) ent23 (fun ad w _ => has_calls h0 h1 hok.1.1 w ad) rfl ?_
    conv => whnf
    refine ⟨fun ha => ?_, fun ha => ?_⟩
    · conv => whnf
      exact fin_ret fun ad => by
        simp only [retV, SV.dens, SV.den, rightB]
        rw [not_all_range hk' (by simp only [at1, hm]; rw [show hasB M m.who = false by simpa using ha]; rfl), Bool.false_and]
    · conv => whnf
      have ha : hasB M m.who = true := by simpa using ha
      refine call_det (.v (.bool (fitsB M m.past))) ent24 (fun ad w _ => fits_calls h0 h1 A ms.length c hok.2.1 w ad) rfl ?_
      conv => whnf
      refine ⟨fun hb => ?_, fun hb => ?_⟩
      · conv => whnf
        exact fin_ret fun ad => by
          simp only [retV, SV.dens, SV.den, rightB]
          rw [not_all_range hk' (by simp only [at1, hm]; rw [show fitsB M m.past = false by simpa using hb, ha]; rfl), Bool.false_and]
      · conv => whnf
        have hb : fitsB M m.past = true := by simpa using hb
        refine ⟨fun hd => ?_, fun hd => ?_⟩
        · conv => whnf
          have hd := of_decide_eq_true hd
          obtain ⟨j, rfl⟩ : ∃ j, k = j + 1 := ⟨k - 1, by omega⟩
          obtain ⟨p, hp⟩ : ∃ p, ms[j]? = some p := ⟨_, List.getElem?_eq_getElem (by omega)⟩
          have hpk := hms p (List.mem_of_getElem? hp)
          rw [i64_in (k := ((j + 1 : Nat) : Int) - 1) (by omega), show ((j + 1 : Nat) : Int) - 1 = (j : Int) by omega]
          have hi : (0 : Int) ≤ j ∧ (j : Int) < ms.length ∧ A ≠ none := ⟨by omega, by omega, hA hk'⟩
          refine ⟨hi, ?_⟩
          conv => whnf
          refine xload_row tabOK (t := 39) rfl Mk.segs hrd hsz ⟨rfl, hpk.2.1, trivial⟩ hp (i := j) (o := 0) (by rw [Int.toNat_natCast]; rfl) (by decide) ?_
          conv => whnf
          refine call_det (.v (.int .i64 (cmpI p.who m.who))) ent22 (fun ad w _ => order_calls hpk.2.1 hok.2.1 w ad) rfl ?_
          conv => whnf
          have hcmp : decide (0 ≤ cmpI p.who m.who) = !decide (p.who < m.who) := by
            unfold cmpI
            by_cases h : p.who < m.who
            · rw [if_pos h]; simp [h]
            · rw [if_neg h]
              by_cases h' : m.who < p.who
              · rw [if_pos h']; simp [h]
              · rw [if_neg h']; simp [h]
          rw [hcmp]
          refine ⟨fun he => ?_, fun he => ?_⟩
          · conv => whnf
            exact fin_ret fun ad => by
              simp only [retV, SV.dens, SV.den, rightB]
              rw [not_all_range hk' (by simp only [at1, hm, hp]; rw [show decide (p.who < m.who) = false by simpa using he]; simp), Bool.false_and]
          · conv => whnf
            refine ⟨j + 1 + 1, ⟨by omega, fun i hi => ?_⟩, by omega, ⟨i64_step hk' (by omega), rfl, rfl, rfl, trivial⟩, ⟨rfl, trivial⟩, rfl, fun _ h => h, rfl⟩
            rcases Nat.lt_succ_iff_lt_or_eq.1 hi with h | h
            · exact hfit i h
            · subst h; simp only [at1, hm, hp]; rw [ha, hb, show decide (p.who < m.who) = true by simpa using he]; rfl
        · conv => whnf
          have hd := of_decide_eq_false hd
          have : k = 0 := by omega
          subst this
          refine ⟨0 + 1, ⟨by omega, fun i hi => ?_⟩, by omega, ⟨i64_step hk' (by omega), rfl, rfl, rfl, trivial⟩, ⟨rfl, trivial⟩, rfl, fun _ h => h, rfl⟩
          have : i = 0 := by omega
          subst this
          simp only [at1, hm]; rw [ha, hb]; rfl
  · conv => whnf
    have hk' : k = ms.length := by have := of_decide_eq_false hc; omega
    subst hk'
    exact fin_ret fun ad => by simp only [retV, SV.dens, SV.den, rightB]; rw [all_range hfit, Bool.true_and]
end Go.Proofs.Ytcmooifiiakbdaa
