/-
  Clone and BinarySearchFunc at casts, walked.
-/
import Derived.Test.YtcgkeepihinegaaE
import Derived.Test.YtcgkeepihinegaaSxL
set_option linter.unusedVariables false
namespace Go.Proofs.Ytcgkeepihinegaa
open Go Go.Sx Go.RowKit
set_option maxHeartbeats 1000000
set_option maxRecDepth 20000
/-- What Clone hands back. -/
def CloneR (ms : List Mk) (w : World) (e : Ending) (w' : World) : Prop := (∃ A c, e = .returned (.slice A ms.length c) ∧ Own w' w.heap.size 44 3 A ms.length c (mcells ms)) ∧ Below w.heap.size w w'
theorem clone_calls {A : Option Addr} {c : Nat} {ms : List Mk} (hms : ∀ m ∈ ms, m.Ok) (w0 : World) (hrd : Rd (fun g => g < w0.heap.size) w0 A (mcells ms)) (hn : ms.length < 100000) : ∀ ad, Calls Try.prog 24 (SV.dens ad [.v (.slice A ms.length c)]).toArray w0 (CloneR ms w0) := by
  refine calls_sound tabOK Try.func24 rfl (by kernel_rfl) (show 1 ≤ 8 by decide) ⟨rfl, trivial⟩ ?_
  conv => whnf
  refine ⟨fun hc => ?_, fun hc => ?_⟩
  · conv => whnf
    have hA : A = none := by cases A with
      | none => rfl
      | some a => cases hc
    have h0 : ms = [] := by
      have h1 := mcells_len ms
      cases hm : mcells ms with
      | nil => rw [hm] at h1; exact List.eq_nil_of_length_eq_zero (by simp at h1; omega)
      | cons v r =>
        have := hrd.some (by rw [hm]; simp)
        exact absurd hA this
    subst h0
    exact ⟨fun ad w hw => ⟨⟨none, 0, rfl, Own.nil _ _ _ _ _⟩, hw.bel.below⟩⟩
  · conv => whnf
    intro w1 g1 pr1 hg1 hlo hsame hs1 hpr hprg hprs
    conv => whnf
    refine append_rule (base := w0.heap.size) (e := 44) (size := 3) (bytes := 3) (news := mcells ms) (by kernel_rfl) (by kernel_rfl) (by decide) (Own.nil w1 _ _ _ _) (fun g hg => by simp [wblk] at hg) (hrd.world hsame hpr) (mcells_len ms) (mcells_one ms) (by unfold maxLen; omega) (by omega) (by omega) ?_
    intro A' c' w2 pr2 hown2 hkeep hblk hs2 hprs2
    conv => whnf
    rw [Nat.zero_add, List.nil_append] at hown2
    exact ⟨fun ad w hw => ⟨⟨A', c', by simp only [SV.dens, SV.den, retV, Nat.zero_add], hown2.world fun g hg => (hw.pl g (hblk g hg).1).2⟩, hw.bel.below⟩⟩
/-- What BinarySearchFunc hands back. -/
def Found (ms : List Mk) (t : Int) (p : Nat) (b : Bool) : Prop :=
  p ≤ ms.length ∧ (∀ j m, ms[j]? = some m → j < p → m.who < t) ∧ (∀ j m, ms[j]? = some m → p ≤ j → t ≤ m.who) ∧ (b = true ↔ ∃ m, ms[p]? = some m ∧ m.who = t)
def SearchR (ms : List Mk) (t : Int) (w : World) (e : Ending) (w' : World) : Prop := (∃ p b, e = .returned (retV [.int .i64 (p : Nat), .bool b]) ∧ Found ms t p b) ∧ Below w.heap.size w w'
def Sorted (ms : List Mk) : Prop := ∀ (i j : Nat) (p q : Mk), i < j → ms[i]? = some p → ms[j]? = some q → p.who < q.who
theorem half {a b : Nat} (ha : a < 100000) (hb : b < 100000) : IntKind.i64.wrap (bshr .u64 (IntKind.u64.wrap (IntKind.i64.wrap ((a : Int) + (b : Int)))) 1) = ((a + b) / 2 : Nat) := by
  rw [i64_in (k := (a : Int) + b) (by omega), wU64, Int.emod_eq_of_lt (by omega) (by omega)]
  unfold bshr
  rw [show (2 : Int) ^ (min (1 : Int).toNat IntKind.u64.bits) = 2 from rfl, Int.fdiv_eq_ediv_of_nonneg _ (by decide), i64_in (by omega)]
  omega
theorem search_calls {A : Option Addr} {c : Nat} {ms : List Mk} {t : Mk} (hms : ∀ m ∈ ms, m.Ok) (ht : t.Ok) (hso : Sorted ms) (w0 : World) (hrd : Rd (fun g => g < w0.heap.size) w0 A (mcells ms)) (hn : ms.length < 100000) : ∀ ad, Calls Try.prog 26 (SV.dens ad [.v (.slice A ms.length c), .agg t.segs, .clo 27 []]).toArray w0 (SearchR ms t.who w0) := by
  refine calls_sound tabOK Try.func26 rfl (by kernel_rfl) (show 3 ≤ 49 by decide) ⟨rfl, t.sok, trivial, trivial⟩ ?_
  conv => whnf
  have hsz : ∀ x ∈ ms, (flat x.segs).length = 3 := fun x hx => segs_len x
  have hA : ∀ {k : Nat}, k < ms.length → A ≠ none := fun {k} h => hrd.some fun e => by
    have := congrArg List.length e
    rw [mcells_len ms] at this
    simp at this; omega
  refine loop_rule tabOK (by kernel_rfl) (fun i : Nat × Nat => ⟨[(9, .v (.int .i64 i.1)), (10, .v (.int .i64 i.2)), (8, .v (.int .i64 ms.length)), (0, .v (.slice A ms.length c)), (2, .clo 27 []), (4, .ptr 4 0)], [(4, (t.segs, 44))], [], fun g => g < w0.heap.size, w0⟩)
    (fun i => i.1 ≤ i.2 ∧ i.2 ≤ ms.length ∧ (∀ j m, ms[j]? = some m → j < i.1 → m.who < t.who) ∧ (∀ j m, ms[j]? = some m → i.2 ≤ j → t.who ≤ m.who)) (fun i => i.2 - i.1) (0, ms.length) ⟨Nat.zero_le _, Nat.le_refl _, fun j m _ h => absurd h (Nat.not_lt_zero _), fun j m hj h => by have := (List.getElem?_eq_some_iff.1 hj).1; exact absurd h (Nat.not_le.2 this)⟩ ⟨⟨rfl, rfl, rfl, rfl, rfl, rfl, trivial⟩, ⟨rfl, trivial⟩, rfl, fun _ h => h, rfl⟩ ?_
  intro i ⟨hle, hhi, hlow, hhigh⟩
  conv => whnf
  refine ⟨fun hc => ?_, fun hc => ?_⟩
  · conv => whnf
    have hc := of_decide_eq_true hc
    have hc : i.1 < i.2 := by omega
    refine ⟨by decide, ?_⟩
    conv => whnf
    rw [half (by omega) (by omega)]
    generalize hh : (i.1 + i.2) / 2 = h
    have h1 : i.1 ≤ h := by omega
    have h2 : h < i.2 := by omega
    obtain ⟨m, hm⟩ : ∃ m, ms[h]? = some m := ⟨_, List.getElem?_eq_getElem (by omega)⟩
    have hok := hms m (List.mem_of_getElem? hm)
    refine draw_rule tabOK mixed [] [] pP26_5 [] (by kernel_rfl) (by kernel_rfl) ?_
    conv => whnf
    have hi : (0 : Int) ≤ h ∧ (h : Int) < ms.length ∧ A ≠ none := ⟨by omega, by omega, hA (k := h) (by omega)⟩
    refine ⟨hi, ?_⟩
    conv => whnf
    refine xload_row tabOK (t := 44) rfl Mk.segs hrd hsz m.sok hm (i := h) (o := 0) (by rw [Int.toNat_natCast]; rfl) (by decide) ?_
    conv => whnf
    refine call_det (.v (.int .i64 (cmpI m.who t.who))) ent27 (fun ad w _ => order_calls m t w ad) rfl ?_
    conv => whnf
    have hcmp : decide (cmpI m.who t.who < 0) = decide (m.who < t.who) := by
      unfold cmpI
      by_cases h : m.who < t.who
      · rw [if_pos h]; simp [h]
      · rw [if_neg h]; split <;> simp [h]
    rw [hcmp]
    refine ⟨fun ha => ?_, fun ha => ?_⟩
    · conv => whnf
      have ha := of_decide_eq_true ha
      refine ⟨(h + 1, i.2), ⟨by show h + 1 ≤ i.2; omega, hhi, fun j m' hj hjl => ?_, hhigh⟩, by show i.2 - (h + 1) < i.2 - i.1; omega, ⟨i64_step (m := 100000) (by omega) (by omega), rfl, rfl, rfl, rfl, rfl, trivial⟩, ⟨rfl, trivial⟩, rfl, fun _ h => h, rfl⟩
      have hjl : j < h + 1 := hjl
      by_cases e : j = h
      · subst e; rw [hm] at hj; cases hj; exact ha
      · have := hso j h m' m (by omega) hj hm; omega
    · conv => whnf
      have ha := of_decide_eq_false ha
      refine ⟨(i.1, h), ⟨h1, by show h ≤ ms.length; omega, hlow, fun j m' hj hjl => ?_⟩, by show h - i.1 < i.2 - i.1; omega, ⟨rfl, rfl, rfl, rfl, rfl, rfl, trivial⟩, ⟨rfl, trivial⟩, rfl, fun _ h => h, rfl⟩
      have hjl : h ≤ j := hjl
      by_cases e : j = h
      · subst e; rw [hm] at hj; cases hj; omega
      · have := hso h j m m' (by omega) hm hj; omega
  · conv => whnf
    have hc := of_decide_eq_false hc
    have hc : i.1 = i.2 := by omega
    refine draw_rule tabOK mixed [] [] pP26_8 [] (by kernel_rfl) (by kernel_rfl) ?_
    conv => whnf
    refine ⟨fun ha => ?_, fun ha => ?_⟩
    · conv => whnf
      have ha := of_decide_eq_true ha
      obtain ⟨m, hm⟩ : ∃ m, ms[i.1]? = some m := ⟨_, List.getElem?_eq_getElem (by omega)⟩
      have hok := hms m (List.mem_of_getElem? hm)
      have hi : (0 : Int) ≤ i.1 ∧ (i.1 : Int) < ms.length ∧ A ≠ none := ⟨by omega, by omega, hA (k := i.1) (by omega)⟩
      refine ⟨hi, ?_⟩
      conv => whnf
      refine xload_row tabOK (t := 44) rfl Mk.segs hrd hsz m.sok hm (i := i.1) (o := 0) (by rw [Int.toNat_natCast]; rfl) (by decide) ?_
      conv => whnf
      refine call_det (.v (.int .i64 (cmpI m.who t.who))) ent27 (fun ad w _ => order_calls m t w ad) rfl ?_
      conv => whnf
      refine ⟨fun ad w hw => ⟨⟨i.1, _, rfl, by omega, hlow, fun j m' hj hjl => hhigh j m' hj (by omega), ?_⟩, hw.bel.below⟩⟩
      have h3 := hhigh i.1 m hm (by omega)
      rw [decide_eq_true_eq]
      unfold cmpI
      refine ⟨fun h => ⟨m, hm, ?_⟩, fun ⟨m', h4, h5⟩ => ?_⟩
      · split at h
        · cases h
        · split at h
          · cases h
          · omega
      · rw [hm] at h4; cases h4
        rw [if_neg (by omega), if_neg (by omega)]
    · conv => whnf
      have ha := of_decide_eq_false ha
      refine ⟨fun ad w hw => ⟨⟨i.1, _, rfl, by omega, hlow, fun j m' hj hjl => hhigh j m' hj (by omega), ?_⟩, hw.bel.below⟩⟩
      refine ⟨fun h => (by cases h), fun ⟨m', h4, _⟩ => ?_⟩
      have := (List.getElem?_eq_some_iff.1 h4).1
      omega
end Go.Proofs.Ytcgkeepihinegaa
