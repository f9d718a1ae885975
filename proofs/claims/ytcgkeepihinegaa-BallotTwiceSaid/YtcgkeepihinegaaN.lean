/-
  What is chosen: walked, both roads.
-/
import Derived.Test.YtcgkeepihinegaaK
set_option linter.unusedVariables false
set_option linter.unusedSimpArgs false
namespace Go.Proofs.Ytcgkeepihinegaa
open Go Go.Sx Go.RowKit
set_option maxHeartbeats 1000000
set_option maxRecDepth 20000
/-- Do enough want what m wants? -/
def enoughB (v M : Int) (ms : List Mk) (m : Mk) : Bool := decide (echoesB (sizeB M) ≤ sizeB (forS v M ms m.add m.id))
def chS (v M : Int) (ms : List Mk) : (Bool × Int) × Bool := match ms.find? (enoughB v M ms) with
  | some m => ((m.add, m.id), true)
  | none => ((false, 0), false)
def idxS (p : Mk → Bool) (ms : List Mk) : Int := match ms.findIdx? p with
  | some k => k
  | none => -1
theorem ent17 : Ent Try.prog 17 := by unfold Ent; kernel_rfl
theorem ent33 : Ent Try.prog 33 := by unfold Ent; kernel_rfl
theorem clo_calls {v M : Int} (h0 : 0 ≤ M) (h1 : M < 65536) {A : Option Addr} {c g1 g2 : Nat} {ms : List Mk} (hms : ∀ m ∈ ms, m.Ok) (m : Mk) (w0 : World) (hrd : Rd (fun g => g < w0.heap.size) w0 A (mcells ms)) (hn : ms.length < 10000)
    (hg1 : w0.heap[g1]? = some (.cells (flat [.one (.int .i64 v), .one (.int .u16 M), .one (.slice A ms.length c)]).toArray 37 (0, 0))) (hg2 : w0.heap[g2]? = some (.cells (flat [.one (.int .i64 (echoesB (sizeB M)))]).toArray 3 (0, 0))) :
    ∀ ad, Calls Try.prog 35 (SV.dens ad [.agg m.segs, .xptr (some ⟨g1, 0, none⟩) 0, .xptr (some ⟨g2, 0, none⟩) 0]).toArray w0 (Ret w0 (.bool (enoughB v M ms m))) := by
  refine calls_sound tabOK Try.func35 rfl (by kernel_rfl) (Nat.le_of_ble_eq_true rfl) ⟨m.sok, by simp [SV.Ok], by simp [SV.Ok], trivial⟩ ?_
  conv => whnf
  have l1 := (Array.getElem?_eq_some_iff.1 hg1).1
  have l2 := (Array.getElem?_eq_some_iff.1 hg2).1
  have hF := forS_rng (v := v) (M := M) hms m.add m.id
  refine draw_rule tabOK mixed [] [] pP35_1 [] (by kernel_rfl) (by kernel_rfl) ?_
  conv => whnf
  refine xload_box tabOK (t := 37) rfl (rd_row hg1 l1) ⟨rfl, rfl, rfl, trivial⟩ (o := 0) rfl (by decide) ?_
  conv => whnf
  refine xload_box tabOK (t := 3) rfl (rd_row hg2 l2) ⟨rfl, trivial⟩ (o := 0) rfl (by decide) ?_
  conv => whnf
  refine call_det (.v (.int .u16 (forS v M ms m.add m.id))) ent17 (fun ad w hw => for_calls h0 h1 hms w (hw.rd hrd) (by omega) ad) rfl ?_
  conv => whnf
  refine call_det (.v (.int .i64 (sizeB (forS v M ms m.add m.id)))) ent33 (fun ad w _ => size_calls hF.1 hF.2 w ad) rfl ?_
  conv => whnf
  exact fin_ret fun ad => by simp only [retV, SV.dens, SV.den, enoughB]
theorem take_none {p : Mk → Bool} : ∀ {ms : List Mk}, (∀ (j : Nat) (m : Mk), ms[j]? = some m → p m = false) → ms.find? p = none ∧ ms.findIdx? p = none
  | [], _ => ⟨rfl, rfl⟩
  | x :: r, h => by
    have h1 := h 0 x rfl
    have := take_none (ms := r) (p := p) fun j m hm => h (j + 1) m (by simpa using hm)
    simp [List.find?_cons, List.findIdx?_cons, h1, this.1, this.2]
theorem take_first {p : Mk → Bool} : ∀ {ms : List Mk} {k : Nat} {m : Mk}, ms[k]? = some m → p m = true → (∀ (j : Nat) (x : Mk), j < k → ms[j]? = some x → p x = false) → ms.find? p = some m ∧ ms.findIdx? p = some k
  | [], k, m, h, _, _ => by simp at h
  | x :: r, 0, m, h, hp, _ => by
    simp at h; subst h
    simp [List.find?_cons, List.findIdx?_cons, hp]
  | x :: r, k + 1, m, h, hp, hlow => by
    have h1 := hlow 0 x (by omega) rfl
    have := take_first (ms := r) (p := p) (k := k) (m := m) (by simpa using h) hp fun j y hj hy => hlow (j + 1) y (by omega) (by simpa using hy)
    simp [List.find?_cons, List.findIdx?_cons, h1, this.1, this.2]
theorem index_calls {v M : Int} (h0 : 0 ≤ M) (h1 : M < 65536) {A : Option Addr} {c g1 g2 : Nat} {ms : List Mk} (hms : ∀ m ∈ ms, m.Ok) (w0 : World) (hrd : Rd (fun g => g < w0.heap.size) w0 A (mcells ms)) (hn : ms.length < 10000)
    (hg1 : w0.heap[g1]? = some (.cells (flat [.one (.int .i64 v), .one (.int .u16 M), .one (.slice A ms.length c)]).toArray 37 (0, 0))) (hg2 : w0.heap[g2]? = some (.cells (flat [.one (.int .i64 (echoesB (sizeB M)))]).toArray 3 (0, 0))) :
    ∀ ad, Calls Try.prog 34 (SV.dens ad [.v (.slice A ms.length c), .clo 35 [.xptr (some ⟨g1, 0, none⟩) 0, .xptr (some ⟨g2, 0, none⟩) 0]]).toArray w0 (Ret w0 (.int .i64 (idxS (enoughB v M ms) ms))) := by
  refine calls_sound tabOK Try.func34 rfl (by kernel_rfl) (Nat.le_of_ble_eq_true rfl) ⟨rfl, ⟨by simp [SV.Ok], by simp [SV.Ok], trivial⟩, trivial⟩ ?_
  conv => whnf
  have l1 := (Array.getElem?_eq_some_iff.1 hg1).1
  have l2 := (Array.getElem?_eq_some_iff.1 hg2).1
  refine loop_rule tabOK (by kernel_rfl) (fun k : Nat => ⟨[(8, .v (.int .i64 k)), (7, .v (.int .i64 ms.length)), (1, .clo 35 [.xptr (some ⟨g1, 0, none⟩) 0, .xptr (some ⟨g2, 0, none⟩) 0]), (0, .v (.slice A ms.length c))], [], [], fun g => g < w0.heap.size, w0⟩) (fun k => k ≤ ms.length ∧ ∀ j x, j < k → ms[j]? = some x → enoughB v M ms x = false) (fun k => ms.length - k) 0 ⟨Nat.zero_le _, fun j x h => by omega⟩ ⟨⟨rfl, rfl, rfl, rfl, trivial⟩, trivial, rfl, fun _ h => h, rfl⟩ ?_
  intro k ⟨hk, hlow⟩
  conv => whnf
  refine ⟨fun hc => ?_, fun hc => ?_⟩
  · conv => whnf
    have hk' : k < ms.length := by have := of_decide_eq_true hc; omega
    obtain ⟨m, hm⟩ : ∃ m, ms[k]? = some m := ⟨_, List.getElem?_eq_getElem hk'⟩
    have hok := hms m (List.mem_of_getElem? hm)
    have hi : (0 : Int) ≤ k ∧ (k : Int) < ms.length ∧ A ≠ none := ⟨by omega, by omega, some_of hrd hk'⟩
    refine ⟨hi, ?_⟩
    conv => whnf
    refine xload_row tabOK (t := 44) rfl Mk.segs hrd (fun x _ => segs_len x) m.sok hm (i := k) (o := 0) (by rw [Int.toNat_natCast]; rfl) (by decide) ?_
    conv => whnf
    refine call_det (.v (.bool (enoughB v M ms m))) (show Ent Try.prog 35 by unfold Ent; kernel_rfl) (fun ad w hw => clo_calls h0 h1 hms m w (hw.rd hrd) hn ((hw.pl g1 l1).2.trans hg1) ((hw.pl g2 l2).2.trans hg2) ad) rfl ?_
    conv => whnf
    refine ⟨fun hb => ?_, fun hb => ?_⟩
    · conv => whnf
      exact fin_ret fun ad => by simp only [retV, SV.dens, SV.den, idxS, (take_first hm hb hlow).2]
    · conv => whnf
      refine ⟨k + 1, ⟨hk', fun j x hj hx => ?_⟩, by omega, ⟨i64_step (m := 100000) (by omega) (by omega), rfl, rfl, rfl, trivial⟩, trivial, rfl, fun _ h => h, rfl⟩
      rcases Nat.lt_succ_iff_lt_or_eq.1 hj with h | h
      · exact hlow j x h hx
      · subst h; rw [hm] at hx; cases hx; exact hb
  · conv => whnf
    have hk' : k = ms.length := by have := of_decide_eq_false hc; omega
    subst hk'
    have := (take_none (p := enoughB v M ms) fun j m hm => hlow j m (List.getElem?_eq_some_iff.1 hm).1 hm).2
    exact fin_ret fun ad => by simp only [retV, SV.dens, SV.den, idxS, this]
theorem idx_cases (p : Mk → Bool) : ∀ (ms : List Mk), (ms.find? p = none ∧ idxS p ms = -1) ∨ ∃ (k : Nat) (m : Mk), ms[k]? = some m ∧ ms.find? p = some m ∧ idxS p ms = k := by
  intro ms
  cases h : ms.findIdx? p with
  | none =>
    have := List.findIdx?_eq_none_iff.1 h
    exact .inl ⟨List.find?_eq_none.2 fun x hx => by simp [this x hx], by simp [idxS, h]⟩
  | some k =>
    obtain ⟨hlt, hp, hlow⟩ := List.findIdx?_eq_some_iff_getElem.1 h
    have hm := List.getElem?_eq_getElem hlt
    refine .inr ⟨k, ms[k], hm, (take_first hm hp fun j x hj hx => ?_).1, by simp [idxS, h]⟩
    have := hlow j hj
    obtain ⟨h1, h2⟩ := List.getElem?_eq_some_iff.1 hx
    rw [h2] at this
    simpa using this
theorem chosen_calls {v M : Int} (h0 : 0 ≤ M) (h1 : M < 65536) {A : Option Addr} {c : Nat} {ms : List Mk} (hms : ∀ m ∈ ms, m.Ok) (w0 : World) (hrd : Rd (fun g => g < w0.heap.size) w0 A (mcells ms)) (hn : ms.length < 10000) :
    ∀ ad, Calls Try.prog 13 (SV.dens ad [bx v M A ms.length c]).toArray w0 (Ret w0 (retV [(chg (chS v M ms).1.1 (chS v M ms).1.2).den (fun x => x), .bool (chS v M ms).2])) := by
  refine calls_sound tabOK Try.func13 rfl (by kernel_rfl) (Nat.le_of_ble_eq_true rfl) ⟨⟨rfl, rfl, rfl, trivial⟩, trivial⟩ ?_
  conv => whnf
  refine call_det (.v (.int .i64 (sizeB M))) ent33 (fun ad w _ => size_calls h0 h1 w ad) rfl ?_
  conv => whnf
  refine call_det (.v (.int .i64 (echoesB (sizeB M)))) (show Ent Try.prog 32 by unfold Ent; kernel_rfl) (fun ad w _ => echoes_calls _ w ad) rfl ?_
  conv => whnf
  refine call_det (.v (.int .i64 (idxS (enoughB v M ms) ms))) (show Ent Try.prog 34 by unfold Ent; kernel_rfl) (fun ad w hw => ?_) rfl ?_
  · have := index_calls h0 h1 hms w (hw.rd hrd) hn (hw.bx 1 _ rfl) (hw.bx 4 _ rfl) ad
    exact this
  conv => whnf
  refine ⟨fun hc => ?_, fun hc => ?_⟩
  · conv => whnf
    have hc := of_decide_eq_true hc
    rcases idx_cases (enoughB v M ms) ms with ⟨h1, h2⟩ | ⟨k, m, h1, h2, h3⟩
    · exact fin_ret fun ad => by simp only [chS, h1]; rfl
    · omega
  · conv => whnf
    have hc := of_decide_eq_false hc
    rcases idx_cases (enoughB v M ms) ms with ⟨h1, h2⟩ | ⟨k, m, hm, h2, h3⟩
    · omega
    rw [h3]
    have hk' := (List.getElem?_eq_some_iff.1 hm).1
    have hi : (0 : Int) ≤ k ∧ (k : Int) < ms.length ∧ A ≠ none := ⟨by omega, by omega, some_of hrd hk'⟩
    refine ⟨hi, ?_⟩
    conv => whnf
    refine xload_row tabOK (t := 42) rfl Mk.segs hrd (fun x _ => segs_len x) m.sok hm (i := k) (o := 1) (by rw [Int.toNat_natCast]) (by decide) ?_
    conv => whnf
    exact fin_ret fun ad => by simp only [chS, h2]; rfl
theorem forS_not {v M : Int} {ms : List Mk} (h : rightB v M ms = false) (m : Mk) : enoughB v M ms m = false := by
  have : sizeB 0 = 0 := by decide
  have := held_rng (sizeB M : Int)
  have h2 : 0 ≤ faultyB (sizeB M : Int) := by unfold faultyB; omega
  simp only [enoughB, forS, h, Bool.false_eq_true, if_false, decide_eq_false_iff_not, echoesB]
  omega
theorem chosenR_calls {v M : Int} (h0 : 0 ≤ M) (h1 : M < 65536) {A : Option Addr} {c : Nat} {ms : List Mk} (hms : ∀ m ∈ ms, m.Ok) (w0 : World) (hrd : Rd (fun g => g < w0.heap.size) w0 A (mcells ms)) (hn : ms.length < 10000) :
    ∀ ad, Calls Try.prog 14 (SV.dens ad [bx v M A ms.length c]).toArray w0 (Ret w0 (retV [(chg (chS v M ms).1.1 (chS v M ms).1.2).den (fun x => x), .bool (chS v M ms).2])) := by
  refine calls_sound tabOK Try.func14 rfl (by kernel_rfl) (Nat.le_of_ble_eq_true rfl) ⟨⟨rfl, rfl, rfl, trivial⟩, trivial⟩ ?_
  conv => whnf
  refine call_det (.v (.int .i64 (sizeB M))) (show Ent Try.prog 19 by unfold Ent; kernel_rfl) (fun ad w _ => sizeR_calls h0 h1 w ad) rfl ?_
  conv => whnf
  have fin0 : ∀ {tm : List (Nat × SV)} {bl : List (Nat × (List Seg × TypeId))} {pr : Nat → Prop} {sw : World}, ms.find? (enoughB v M ms) = none → FinVC (.of w0) (Ret w0 (retV [(chg (chS v M ms).1.1 (chS v M ms).1.2).den (fun x => x), .bool (chS v M ms).2])) ⟨tm, bl, [], pr, sw⟩ [.agg [.one (.bool false), .one (.int .u8 0)], .lit false] := fun h => fin_ret fun ad => by simp only [chS, h]; rfl
  refine loop_rule tabOK (by kernel_rfl) (fun k : Nat => ⟨[(5, .v (.int .i64 k)), (4, .v (.int .i64 (sizeB M))), (2, .ptr 2 0), (1, .ptr 1 0)], [(1, ([.one (.int .i64 v), .one (.int .u16 M), .one (.slice A ms.length c)], 28)), (2, (ti30.zero, 30))], [], fun g => g < w0.heap.size, w0⟩) (fun k => k ≤ ms.length ∧ ∀ j x, j < k → ms[j]? = some x → enoughB v M ms x = false) (fun k => ms.length - k) 0 ⟨Nat.zero_le _, fun j x h => by omega⟩ ⟨⟨rfl, rfl, rfl, rfl, trivial⟩, ⟨rfl, rfl, trivial⟩, rfl, fun _ h => h, rfl⟩ ?_
  intro k ⟨hk, hlow⟩
  conv => whnf
  refine ⟨fun hc => ?_, fun hc => ?_⟩
  · conv => whnf
    have hk' : k < ms.length := by have := of_decide_eq_true hc; omega
    refine call_det (.v (.bool (rightB v M ms))) ent30 (fun ad w hw => rightR_calls h0 h1 hms w (hw.rd hrd) (by omega) ad) rfl ?_
    conv => whnf
    refine ⟨fun ha => ?_, fun ha => ?_⟩
    · conv => whnf
      obtain ⟨m, hm⟩ : ∃ m, ms[k]? = some m := ⟨_, List.getElem?_eq_getElem hk'⟩
      have hok := hms m (List.mem_of_getElem? hm)
      have hi : (0 : Int) ≤ k ∧ (k : Int) < ms.length ∧ A ≠ none := ⟨by omega, by omega, some_of hrd hk'⟩
      have hF := forS_rng (v := v) (M := M) hms m.add m.id
      refine ⟨hi, ?_⟩
      conv => whnf
      refine xload_row tabOK (t := 30) rfl Mk.segs hrd (fun x _ => segs_len x) m.sok hm (i := k) (o := 1) (by rw [Int.toNat_natCast]) (by decide) ?_
      conv => whnf
      refine call_det (.v (.int .u16 (forS v M ms m.add m.id))) (show Ent Try.prog 18 by unfold Ent; kernel_rfl) (fun ad w hw => forR_calls h0 h1 hms w (hw.rd hrd) (by omega) ad) rfl ?_
      conv => whnf
      refine call_det (.v (.int .i64 (sizeB (forS v M ms m.add m.id)))) (show Ent Try.prog 19 by unfold Ent; kernel_rfl) (fun ad w _ => sizeR_calls hF.1 hF.2 w ad) rfl ?_
      conv => whnf
      refine call_det (.v (.int .i64 (echoesB (sizeB M)))) (show Ent Try.prog 21 by unfold Ent; kernel_rfl) (fun ad w _ => echoesR_calls _ w ad) rfl ?_
      conv => whnf
      refine ⟨fun hb => ?_, fun hb => ?_⟩
      · conv => whnf
        exact fin_ret fun ad => by simp only [chS, (take_first (p := enoughB v M ms) hm hb hlow).1]; rfl
      · conv => whnf
        refine ⟨k + 1, ⟨hk', fun j x hj hx => ?_⟩, by omega, ⟨i64_step (m := 100000) (by omega) (by omega), rfl, rfl, rfl, trivial⟩, ⟨rfl, rfl, trivial⟩, rfl, fun _ h => h, rfl⟩
        rcases Nat.lt_succ_iff_lt_or_eq.1 hj with h | h
        · exact hlow j x h hx
        · subst h; rw [hm] at hx; cases hx; exact hb
    · conv => whnf
      exact fin0 (List.find?_eq_none.2 fun x _ => by simp [forS_not ha x])
  · conv => whnf
    have hk' : k = ms.length := by have := of_decide_eq_false hc; omega
    subst hk'
    exact fin0 (take_none (p := enoughB v M ms) fun j m hm => hlow j m (List.getElem?_eq_some_iff.1 hm).1 hm).1
end Go.Proofs.Ytcgkeepihinegaa
