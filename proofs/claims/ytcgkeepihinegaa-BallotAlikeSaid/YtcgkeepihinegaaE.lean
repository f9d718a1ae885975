/-
  Is a box right: both roads, walked.
-/
import Derived.Test.YtcgkeepihinegaaD
set_option linter.unusedVariables false
set_option linter.unusedSimpArgs false
namespace Go.Proofs.Ytcgkeepihinegaa
open Go Go.Sx Go.RowKit
set_option maxHeartbeats 1000000
set_option maxRecDepth 20000
def Mk.Ok (m : Mk) : Prop := (0 ≤ m.who ∧ m.who < 256) ∧ (0 ≤ m.id ∧ m.id < 256)
def mcells (ms : List Mk) : List Value := ms.flatMap fun m => flat m.segs
theorem segs_len (m : Mk) : (flat m.segs).length = 3 := rfl
theorem flatMap_len {α : Type} {f : α → List Value} {sz : Nat} : ∀ {xs : List α} (h : ∀ x ∈ xs, (f x).length = sz), (xs.flatMap f).length = xs.length * sz
  | [], h => by simp
  | y :: r, h => by
    rw [List.flatMap_cons, List.length_append, h y (by simp), flatMap_len (fun z hz => h z (List.mem_cons_of_mem _ hz)), List.length_cons, Nat.succ_mul]; omega
theorem mcells_len (ms : List Mk) : (mcells ms).length = ms.length * 3 := flatMap_len fun m _ => segs_len m
theorem mcells_one (ms : List Mk) : ∀ v ∈ mcells ms, v.oneCell' = true := fun v hv => by
  obtain ⟨m, _, hv⟩ := List.mem_flatMap.1 hv
  simp only [Mk.segs, flat, Seg.cells, List.append_nil, List.mem_append, List.mem_singleton] at hv
  rcases hv with rfl | rfl | rfl <;> rfl
theorem some_of {pr : Nat → Prop} {w : World} {A : Option Addr} {ms : List Mk} (h : Rd pr w A (mcells ms)) {k : Nat} (hk : k < ms.length) : A ≠ none := h.some fun e => by
  have := congrArg List.length e
  rw [mcells_len] at this
  simp at this; omega
def bx (v M : Int) (A : Option Addr) (n c : Nat) : SV := .agg [.one (.int .i64 v), .one (.int .u16 M), .one (.slice A n c)]
/-- May a cast be? -/
def okc (v M : Int) (m : Mk) : Bool := decide ((applyS v M m.add m.id).2 = 0) && hasB M m.who
def at1 (v M : Int) (ms : List Mk) (i : Nat) : Bool := match ms[i]? with
  | some m => okc v M m && (match i with
    | 0 => true
    | j + 1 => match ms[j]? with
      | some p => decide (p.who < m.who)
      | none => true)
  | none => true
def rightB (v M : Int) (ms : List Mk) : Bool := (List.range ms.length).all (at1 v M ms) && rollB v M
def apV (v M : Int) (m : Mk) : SV := .tup [rol (applyS v M m.add m.id).1.1 (applyS v M m.add m.id).1.2, .v (.int .i64 (applyS v M m.add m.id).2)]
theorem ent20 : Ent Try.prog 20 := by unfold Ent; kernel_rfl
theorem ent27 : Ent Try.prog 27 := by unfold Ent; kernel_rfl
theorem ent31 : Ent Try.prog 31 := by unfold Ent; kernel_rfl
theorem ent47 : Ent Try.prog 47 := by unfold Ent; kernel_rfl
theorem cmp_ge (x y : Int) : decide (0 ≤ cmpI x y) = !decide (x < y) := by
  unfold cmpI
  by_cases h : x < y
  · rw [if_pos h]; simp [h]
  · rw [if_neg h]
    by_cases h' : y < x
    · rw [if_pos h']; simp [h]
    · rw [if_neg h']; simp [h]
theorem right_calls {v M : Int} (h0 : 0 ≤ M) (h1 : M < 65536) {A : Option Addr} {c : Nat} {ms : List Mk} (hms : ∀ m ∈ ms, m.Ok) (w0 : World) (hrd : Rd (fun g => g < w0.heap.size) w0 A (mcells ms)) (hn : ms.length < 100000) : ∀ ad, Calls Try.prog 25 (SV.dens ad [bx v M A ms.length c]).toArray w0 (Ret w0 (.bool (rightB v M ms))) := by
  refine calls_sound tabOK Try.func25 rfl (by kernel_rfl) (Nat.le_of_ble_eq_true rfl) ⟨⟨rfl, rfl, rfl, trivial⟩, trivial⟩ ?_
  conv => whnf
  refine loop_rule tabOK (by kernel_rfl) (fun k : Nat => ⟨[(10, .v (.int .i64 k)), (9, .v (.int .i64 ms.length)), (8, .v (.slice A ms.length c)), (1, .ptr 1 0)], [(1, ([.one (.int .i64 v), .one (.int .u16 M), .one (.slice A ms.length c)], 37))], [], fun g => g < w0.heap.size, w0⟩) (fun k => k ≤ ms.length ∧ ∀ j, j < k → at1 v M ms j = true) (fun k => ms.length - k) 0 ⟨by omega, fun j hj => by omega⟩ ⟨⟨rfl, rfl, rfl, rfl, trivial⟩, ⟨rfl, trivial⟩, rfl, fun _ h => h, rfl⟩ ?_
  intro k ⟨hk, hfit⟩
  conv => whnf
  refine ⟨fun hc => ?_, fun hc => ?_⟩
  · conv => whnf
    have hk' : k < ms.length := by have := of_decide_eq_true hc; omega
    obtain ⟨m, hm⟩ : ∃ m, ms[k]? = some m := ⟨_, List.getElem?_eq_getElem hk'⟩
    have hok := hms m (List.mem_of_getElem? hm)
    have hi : (0 : Int) ≤ k ∧ (k : Int) < ms.length ∧ A ≠ none := ⟨by omega, by omega, some_of hrd hk'⟩
    refine ⟨hi, ?_⟩
    conv => whnf
    refine xload_row tabOK (t := 44) rfl Mk.segs hrd (fun x _ => segs_len x) m.sok hm (i := k) (o := 0) (by rw [Int.toNat_natCast]; rfl) (by decide) ?_
    conv => whnf
    refine call_det (apV v M m) ent20 (fun ad w _ => apply_calls h0 h1 hok.2.1 hok.2.2 w ad) ⟨⟨rfl, rfl, trivial⟩, rfl, trivial⟩ ?_
    conv => whnf
    refine draw_rule tabOK mixed [] [] pP25_5 [] (by kernel_rfl) (by kernel_rfl) ?_
    conv => whnf
    refine ⟨fun ha => ?_, fun ha => ?_⟩
    · conv => whnf
      exact fin_ret fun ad => by
        simp only [retV, SV.dens, SV.den, rightB]
        rw [not_all_range hk' (by simp only [at1, hm, okc]; rw [show decide ((applyS v M m.add m.id).2 = 0) = false by simpa using ha]; rfl), Bool.false_and]
    · have ha : decide ((applyS v M m.add m.id).2 = 0) = true := by simpa using ha
      conv => whnf
      refine call_det (.v (.bool (hasB M m.who))) ent28 (fun ad w _ => has_calls h0 h1 hok.1.1 w ad) rfl ?_
      conv => whnf
      refine ⟨fun hb => ?_, fun hb => ?_⟩
      · conv => whnf
        exact fin_ret fun ad => by
          simp only [retV, SV.dens, SV.den, rightB]
          rw [not_all_range hk' (by simp only [at1, hm, okc]; rw [ha, show hasB M m.who = false by simpa using hb]; rfl), Bool.false_and]
      · have hb : hasB M m.who = true := by simpa using hb
        conv => whnf
        refine ⟨fun hd => ?_, fun hd => ?_⟩
        · conv => whnf
          have hd := of_decide_eq_true hd
          obtain ⟨j, rfl⟩ : ∃ j, k = j + 1 := ⟨k - 1, by omega⟩
          obtain ⟨p, hp⟩ : ∃ p, ms[j]? = some p := ⟨_, List.getElem?_eq_getElem (by omega)⟩
          have hpk := hms p (List.mem_of_getElem? hp)
          rw [i64_in (k := ((j + 1 : Nat) : Int) - 1) (by omega), show ((j + 1 : Nat) : Int) - 1 = (j : Int) by omega]
          have hi : (0 : Int) ≤ j ∧ (j : Int) < ms.length ∧ A ≠ none := ⟨by omega, by omega, some_of hrd hk'⟩
          refine ⟨hi, ?_⟩
          conv => whnf
          refine xload_row tabOK (t := 44) rfl Mk.segs hrd (fun x _ => segs_len x) p.sok hp (i := j) (o := 0) (by rw [Int.toNat_natCast]; rfl) (by decide) ?_
          conv => whnf
          refine call_det (.v (.int .i64 (cmpI p.who m.who))) ent27 (fun ad w _ => order_calls p m w ad) rfl ?_
          conv => whnf
          rw [cmp_ge]
          refine ⟨fun he => ?_, fun he => ?_⟩
          · conv => whnf
            exact fin_ret fun ad => by
              simp only [retV, SV.dens, SV.den, rightB]
              rw [not_all_range hk' (by simp only [at1, hm, hp]; rw [show decide (p.who < m.who) = false by simpa using he]; simp), Bool.false_and]
          · conv => whnf
            refine ⟨j + 1 + 1, ⟨by omega, fun i hi => ?_⟩, by omega, ⟨i64_step hk' (by omega), rfl, rfl, rfl, trivial⟩, ⟨rfl, trivial⟩, rfl, fun _ h => h, rfl⟩
            rcases Nat.lt_succ_iff_lt_or_eq.1 hi with h | h
            · exact hfit i h
            · subst h; simp only [at1, hm, hp, okc]; rw [ha, hb, show decide (p.who < m.who) = true by simpa using he]; rfl
        · conv => whnf
          have hd := of_decide_eq_false hd
          have : k = 0 := by omega
          subst this
          refine ⟨0 + 1, ⟨by omega, fun i hi => ?_⟩, by omega, ⟨i64_step hk' (by omega), rfl, rfl, rfl, trivial⟩, ⟨rfl, trivial⟩, rfl, fun _ h => h, rfl⟩
          have : i = 0 := by omega
          subst this
          simp only [at1, hm, okc]; rw [ha, hb]; rfl
  · conv => whnf
    have hk' : k = ms.length := by have := of_decide_eq_false hc; omega
    subst hk'
    refine call_det (.v (.bool (rollB v M))) ent39 (fun ad w _ => rollRight_calls v M w ad) rfl ?_
    conv => whnf
    exact fin_ret fun ad => by simp only [retV, SV.dens, SV.den, rightB]; rw [all_range hfit, Bool.true_and]
theorem rightR_calls {v M : Int} (h0 : 0 ≤ M) (h1 : M < 65536) {A : Option Addr} {c : Nat} {ms : List Mk} (hms : ∀ m ∈ ms, m.Ok) (w0 : World) (hrd : Rd (fun g => g < w0.heap.size) w0 A (mcells ms)) (hn : ms.length < 100000) : ∀ ad, Calls Try.prog 30 (SV.dens ad [bx v M A ms.length c]).toArray w0 (Ret w0 (.bool (rightB v M ms))) := by
  refine calls_sound tabOK Try.func30 rfl (by kernel_rfl) (Nat.le_of_ble_eq_true rfl) ⟨⟨rfl, rfl, rfl, trivial⟩, trivial⟩ ?_
  conv => whnf
  refine loop_rule tabOK (by kernel_rfl) (fun k : Nat => ⟨[(3, .v (.int .i64 k)), (1, .ptr 1 0)], [(1, ([.one (.int .i64 v), .one (.int .u16 M), .one (.slice A ms.length c)], 28))], [], fun g => g < w0.heap.size, w0⟩) (fun k => k ≤ ms.length ∧ ∀ j, j < k → at1 v M ms j = true) (fun k => ms.length - k) 0 ⟨by omega, fun j hj => by omega⟩ ⟨⟨rfl, rfl, trivial⟩, ⟨rfl, trivial⟩, rfl, fun _ h => h, rfl⟩ ?_
  intro k ⟨hk, hfit⟩
  conv => whnf
  refine ⟨fun hc => ?_, fun hc => ?_⟩
  · conv => whnf
    have hk' : k < ms.length := by have := of_decide_eq_true hc; omega
    obtain ⟨m, hm⟩ : ∃ m, ms[k]? = some m := ⟨_, List.getElem?_eq_getElem hk'⟩
    have hok := hms m (List.mem_of_getElem? hm)
    have hi : (0 : Int) ≤ k ∧ (k : Int) < ms.length ∧ A ≠ none := ⟨by omega, by omega, some_of hrd hk'⟩
    refine ⟨hi, ?_⟩
    conv => whnf
    refine xload_row tabOK (t := 32) rfl Mk.segs hrd (fun x _ => segs_len x) m.sok hm (i := k) (o := 0) (by rw [Int.toNat_natCast]; rfl) (by decide) ?_
    conv => whnf
    refine call_det (apV v M m) ent31 (fun ad w _ => applyR_calls h0 h1 hok.2.1 hok.2.2 w ad) ⟨⟨rfl, rfl, trivial⟩, rfl, trivial⟩ ?_
    conv => whnf
    refine draw_rule tabOK mixed [] [] pP30_6 [] (by kernel_rfl) (by kernel_rfl) ?_
    conv => whnf
    refine ⟨fun ha => ?_, fun ha => ?_⟩
    · conv => whnf
      exact fin_ret fun ad => by
        simp only [retV, SV.dens, SV.den, rightB]
        rw [not_all_range hk' (by simp only [at1, hm, okc]; rw [show decide ((applyS v M m.add m.id).2 = 0) = false by simpa using ha]; rfl), Bool.false_and]
    · have ha : decide ((applyS v M m.add m.id).2 = 0) = true := by simpa using ha
      conv => whnf
      refine call_det (.v (.bool (hasB M m.who))) ent23 (fun ad w _ => hasR_calls h0 h1 hok.1.1 hok.1.2 w ad) rfl ?_
      conv => whnf
      refine ⟨fun hb => ?_, fun hb => ?_⟩
      · conv => whnf
        exact fin_ret fun ad => by
          simp only [retV, SV.dens, SV.den, rightB]
          rw [not_all_range hk' (by simp only [at1, hm, okc]; rw [ha, show hasB M m.who = false by simpa using hb]; rfl), Bool.false_and]
      · have hb : hasB M m.who = true := by simpa using hb
        conv => whnf
        refine ⟨fun hd => ?_, fun hd => ?_⟩
        · conv => whnf
          have hd := of_decide_eq_true hd
          obtain ⟨j, rfl⟩ : ∃ j, k = j + 1 := ⟨k - 1, by omega⟩
          obtain ⟨p, hp⟩ : ∃ p, ms[j]? = some p := ⟨_, List.getElem?_eq_getElem (by omega)⟩
          have hpk := hms p (List.mem_of_getElem? hp)
          rw [i64_in (k := ((j + 1 : Nat) : Int) - 1) (by omega), show ((j + 1 : Nat) : Int) - 1 = (j : Int) by omega]
          have hi : (0 : Int) ≤ j ∧ (j : Int) < ms.length ∧ A ≠ none := ⟨by omega, by omega, some_of hrd hk'⟩
          refine ⟨hi, ?_⟩
          conv => whnf
          refine xload_row tabOK (t := 5) rfl Mk.segs hrd (fun x _ => segs_len x) p.sok hp (i := j) (o := 0) (by rw [Int.toNat_natCast]) (by decide) ?_
          conv => whnf
          have hcmp : decide (m.who ≤ p.who) = !decide (p.who < m.who) := by
            by_cases h : p.who < m.who
            · simp [h]
            · simp [h, Int.not_lt.1 h]
          rw [hcmp]
          refine ⟨fun he => ?_, fun he => ?_⟩
          · conv => whnf
            exact fin_ret fun ad => by
              simp only [retV, SV.dens, SV.den, rightB]
              rw [not_all_range hk' (by simp only [at1, hm, hp]; rw [show decide (p.who < m.who) = false by simpa using he]; simp), Bool.false_and]
          · conv => whnf
            refine ⟨j + 1 + 1, ⟨by omega, fun i hi => ?_⟩, by omega, ⟨i64_step hk' (by omega), rfl, trivial⟩, ⟨rfl, trivial⟩, rfl, fun _ h => h, rfl⟩
            rcases Nat.lt_succ_iff_lt_or_eq.1 hi with h | h
            · exact hfit i h
            · subst h; simp only [at1, hm, hp, okc]; rw [ha, hb, show decide (p.who < m.who) = true by simpa using he]; rfl
        · conv => whnf
          have hd := of_decide_eq_false hd
          have : k = 0 := by omega
          subst this
          refine ⟨0 + 1, ⟨by omega, fun i hi => ?_⟩, by omega, ⟨i64_step hk' (by omega), rfl, trivial⟩, ⟨rfl, trivial⟩, rfl, fun _ h => h, rfl⟩
          have : i = 0 := by omega
          subst this
          simp only [at1, hm, okc]; rw [ha, hb]; rfl
  · conv => whnf
    have hk' : k = ms.length := by have := of_decide_eq_false hc; omega
    subst hk'
    refine call_det (.v (.bool (rollB v M))) ent47 (fun ad w _ => rollRightR_calls v M w ad) rfl ?_
    conv => whnf
    exact fin_ret fun ad => by simp only [retV, SV.dens, SV.den, rightB]; rw [all_range hfit, Bool.true_and]
end Go.Proofs.Ytcgkeepihinegaa
