/-
  Target, both roads, walked.
-/
import Derived.Test.YtcmooifiiakbdaaJ
set_option linter.unusedVariables false
set_option linter.unusedSimpArgs false
namespace Go.Proofs.Ytcmooifiiakbdaa
open Go Go.Sx Go.RowKit
set_option maxHeartbeats 1000000
set_option maxRecDepth 20000
def bump (m : Mk) : List Int := m.past.set m.who.toNat (IntKind.u16.wrap (m.past.getD m.who.toNat 0 + 1))
def zeros : List Int := List.replicate 16 0
def tgt (ms : List Mk) : List Int := ms.foldl (fun v m => vmax v (bump m)) zeros
def tgtB (M : Int) (ms : List Mk) : Bool := rightB M ms && !decide ((ms.length : Int) < sizeB M)
def tgtV (M : Int) (ms : List Mk) : List Int := if tgtB M ms = true then tgt ms else zeros
theorem bump_len {m : Mk} (h : m.Ok) : (bump m).length = 16 := by simp [bump, h.2.1]
theorem fold_len : ∀ (ms : List Mk) (v : List Int), (∀ m ∈ ms, m.Ok) → v.length = 16 → (ms.foldl (fun v m => vmax v (bump m)) v).length = 16
  | [], v, _, hv => hv
  | m :: r, v, h, hv => fold_len r _ (fun x hx => h x (List.mem_cons_of_mem _ hx)) (vmax_len hv (bump_len (h m (by simp))))
theorem tgt_len {ms : List Mk} (h : ∀ m ∈ ms, m.Ok) : (tgt ms).length = 16 := fold_len ms _ h (by simp [zeros])
theorem tgt_step {ms : List Mk} {k : Nat} {m : Mk} (hm : ms[k]? = some m) : tgt (ms.take (k + 1)) = vmax (tgt (ms.take k)) (bump m) := by
  rw [take_step hm, tgt, List.foldl_append]; rfl
theorem who_lt {M : Int} {ms : List Mk} (h : rightB M ms = true) {m : Mk} (hm : m ∈ ms) : m.who < 16 := by
  simp only [rightB, Bool.and_eq_true, List.all_eq_true, List.mem_range] at h
  obtain ⟨j, hj⟩ := List.mem_iff_getElem?.1 hm
  have := h.1 j (List.getElem?_eq_some_iff.1 hj).1
  simp only [at1, hj, Bool.and_eq_true] at this
  have := this.1.1
  simp only [hasB, Bool.and_eq_true, decide_eq_true_eq] at this
  exact this.1
theorem ent29 : Ent Try.prog 29 := by unfold Ent; kernel_rfl
theorem ent30 : Ent Try.prog 30 := by unfold Ent; kernel_rfl
theorem ent31 : Ent Try.prog 31 := by unfold Ent; kernel_rfl
theorem ent32 : Ent Try.prog 32 := by unfold Ent; kernel_rfl
theorem target_calls {M : Int} (h0 : 0 ≤ M) (h1 : M < 65536) {A : Option Addr} {c : Nat} {ms : List Mk} (hms : ∀ m ∈ ms, m.Ok) (w0 : World) (hrd : Rd (fun g => g < w0.heap.size) w0 A (mcells ms)) (hn : ms.length < 10000) : ∀ ad, Calls Try.prog 12 (SV.dens ad [flu M A ms.length c]).toArray w0 (Ret w0 (retV [(vec (tgtV M ms)).den id, .bool (tgtB M ms)])) := by
  refine calls_sound tabOK Try.func12 rfl (by kernel_rfl) (Nat.le_of_ble_eq_true rfl) ⟨⟨rfl, rfl, trivial⟩, trivial⟩ ?_
  conv => whnf
  have hsz : ∀ x ∈ ms, (flat x.segs).length = 17 := fun x hx => segs_len (hms x hx)
  have hA : ∀ {k : Nat}, k < ms.length → A ≠ none := fun {k} h => hrd.some fun e => by
    have := congrArg List.length e
    rw [mcells_len hms] at this
    simp at this; omega
  refine draw_rule tabOK mixed [] [] pP12_1 [] (by kernel_rfl) (by kernel_rfl) ?_
  conv => whnf
  refine call_det (.v (.bool (rightB M ms))) ent20 (fun ad w hw => right_calls h0 h1 hms w (hw.rd hrd) (by omega) ad) rfl ?_
  conv => whnf
  refine ⟨fun ha => ?_, fun ha => ?_⟩
  · conv => whnf
    have ha : rightB M ms = false := by simpa using ha
    have hb : tgtB M ms = false := by simp [tgtB, ha]
    exact fin_ret fun ad => by simp only [tgtV, hb]; rfl
  conv => whnf
  have ha : rightB M ms = true := by simpa using ha
  refine call_det (.v (.int .i64 (sizeB M))) ent29 (fun ad w _ => size_calls h0 h1 w ad) rfl ?_
  conv => whnf
  refine ⟨fun hb => ?_, fun hb => ?_⟩
  · conv => whnf
    have hb : tgtB M ms = false := by simp only [tgtB, ha, hb]; rfl
    exact fin_ret fun ad => by simp only [tgtV, hb]; rfl
  conv => whnf
  have hb : tgtB M ms = true := by simp only [tgtB, ha, hb]; rfl
  refine loop_rule tabOK (by kernel_rfl) (fun k : Nat => ⟨[(23, .v (.int .i64 k)), (22, .v (.int .i64 ms.length)), (21, .v (.slice A ms.length c)), (4, .ptr 4 0), (2, .ptr 2 0)], [(4, ([.ints .u16 16 (tgt (ms.take k))], 28)), (2, ([.ints .u16 16 zeros], 28))], [], fun g => g < w0.heap.size, w0⟩) (fun k => k ≤ ms.length) (fun k => ms.length - k) 0 (Nat.zero_le _) ⟨⟨rfl, rfl, rfl, rfl, rfl, trivial⟩, ⟨rfl, rfl, trivial⟩, rfl, fun _ h => h, rfl⟩ ?_
  intro k hk
  conv => whnf
  refine ⟨fun hc => ?_, fun hc => ?_⟩
  · conv => whnf
    have hk' : k < ms.length := by have := of_decide_eq_true hc; omega
    obtain ⟨m, hm⟩ : ∃ m, ms[k]? = some m := ⟨_, List.getElem?_eq_getElem hk'⟩
    have hok := hms m (List.mem_of_getElem? hm)
    have hw := who_lt ha (List.mem_of_getElem? hm)
    have hi : (0 : Int) ≤ k ∧ (k : Int) < ms.length ∧ A ≠ none := ⟨by omega, by omega, hA hk'⟩
    refine ⟨hi, ?_⟩
    conv => whnf
    refine xload_row tabOK (t := 39) rfl Mk.segs hrd hsz ⟨rfl, hok.2.1, trivial⟩ hm (i := k) (o := 0) (by rw [Int.toNat_natCast]; rfl) (by decide) ?_
    conv => whnf
    refine ⟨⟨hok.1.1, hw⟩, ?_⟩
    conv => whnf
    refine ⟨⟨hok.1.1, hw⟩, ?_⟩
    conv => whnf
    refine call_det (vec (vmax (tgt (ms.take k)) (bump m))) ent30 (fun ad w _ => join_calls (tgt_len fun x hx => hms x (List.mem_of_mem_take hx)) (bump_len hok) w ad) ⟨vmax_len (tgt_len fun x hx => hms x (List.mem_of_mem_take hx)) (bump_len hok), trivial⟩ ?_
    conv => whnf
    refine ⟨k + 1, by omega, by omega, ⟨i64_step (m := 10000) (by omega) (by omega), rfl, rfl, rfl, rfl, trivial⟩, ⟨?_, rfl, trivial⟩, rfl, fun _ h => h, rfl⟩
    show ([Seg.ints _ _ _], 28) = _
    rw [tgt_step hm]
  · conv => whnf
    have hk' : k = ms.length := by have := of_decide_eq_false hc; omega
    subst hk'
    rw [List.take_length]
    exact fin_ret fun ad => by simp only [tgtV, hb, if_true]; rfl
theorem targetR_calls {M : Int} (h0 : 0 ≤ M) (h1 : M < 65536) {A : Option Addr} {c : Nat} {ms : List Mk} (hms : ∀ m ∈ ms, m.Ok) (w0 : World) (hrd : Rd (fun g => g < w0.heap.size) w0 A (mcells ms)) (hn : ms.length < 10000) : ∀ ad, Calls Try.prog 13 (SV.dens ad [flu M A ms.length c]).toArray w0 (Ret w0 (retV [(vec (tgtV M ms)).den id, .bool (tgtB M ms)])) := by
  refine calls_sound tabOK Try.func13 rfl (by kernel_rfl) (Nat.le_of_ble_eq_true rfl) ⟨⟨rfl, rfl, trivial⟩, trivial⟩ ?_
  conv => whnf
  have hsz : ∀ x ∈ ms, (flat x.segs).length = 17 := fun x hx => segs_len (hms x hx)
  have hA : ∀ {k : Nat}, k < ms.length → A ≠ none := fun {k} h => hrd.some fun e => by
    have := congrArg List.length e
    rw [mcells_len hms] at this
    simp at this; omega
  refine draw_rule tabOK mixed [] [] pP13_1 [] (by kernel_rfl) (by kernel_rfl) ?_
  conv => whnf
  refine call_det (.v (.bool (rightB M ms))) ent26 (fun ad w hw => rightR_calls h0 h1 hms w (hw.rd hrd) (by omega) ad) rfl ?_
  conv => whnf
  refine ⟨fun ha => ?_, fun ha => ?_⟩
  · conv => whnf
    have ha : rightB M ms = false := by simpa using ha
    have hb : tgtB M ms = false := by simp [tgtB, ha]
    exact fin_ret fun ad => by simp only [tgtV, hb]; rfl
  conv => whnf
  have ha : rightB M ms = true := by simpa using ha
  refine call_det (.v (.int .i64 (sizeB M))) ent31 (fun ad w _ => sizeR_calls h0 h1 w ad) rfl ?_
  conv => whnf
  refine ⟨fun hb => ?_, fun hb => ?_⟩
  · conv => whnf
    have hb : tgtB M ms = false := by simp only [tgtB, ha, hb]; rfl
    exact fin_ret fun ad => by simp only [tgtV, hb]; rfl
  conv => whnf
  have hb : tgtB M ms = true := by simp only [tgtB, ha, hb]; rfl
  refine loop_rule tabOK (by kernel_rfl) (fun k : Nat => ⟨[(5, .v (.int .i64 k)), (4, .ptr 4 0), (2, .ptr 2 0), (1, .ptr 1 0)], [(4, ([.ints .u16 16 (tgt (ms.take k))], 28)), (2, ([.ints .u16 16 zeros], 28)), (1, ([.one (.int .u16 M), .one (.slice A ms.length c)], 26))], [], fun g => g < w0.heap.size, w0⟩) (fun k => k ≤ ms.length) (fun k => ms.length - k) 0 (Nat.zero_le _) ⟨⟨rfl, rfl, rfl, rfl, trivial⟩, ⟨rfl, rfl, rfl, trivial⟩, rfl, fun _ h => h, rfl⟩ ?_
  intro k hk
  conv => whnf
  refine ⟨fun hc => ?_, fun hc => ?_⟩
  · conv => whnf
    have hk' : k < ms.length := by have := of_decide_eq_true hc; omega
    obtain ⟨m, hm⟩ : ∃ m, ms[k]? = some m := ⟨_, List.getElem?_eq_getElem hk'⟩
    have hok := hms m (List.mem_of_getElem? hm)
    have hw := who_lt ha (List.mem_of_getElem? hm)
    have hi : (0 : Int) ≤ k ∧ (k : Int) < ms.length ∧ A ≠ none := ⟨by omega, by omega, hA hk'⟩
    refine ⟨hi, ?_⟩
    conv => whnf
    refine xload_row tabOK (t := 28) rfl Mk.segs hrd hsz ⟨rfl, hok.2.1, trivial⟩ hm (i := k) (o := 1) (by rw [Int.toNat_natCast]) (by decide) ?_
    conv => whnf
    refine ⟨hi, ?_⟩
    conv => whnf
    refine xload_row tabOK (t := 5) rfl Mk.segs hrd hsz ⟨rfl, hok.2.1, trivial⟩ hm (i := k) (o := 0) (by rw [Int.toNat_natCast]) (by decide) ?_
    conv => whnf
    refine ⟨⟨hok.1.1, hw⟩, ?_⟩
    conv => whnf
    refine ⟨⟨hok.1.1, hw⟩, ?_⟩
    conv => whnf
    refine call_det (vec (vmax (tgt (ms.take k)) (bump m))) ent32 (fun ad w _ => joinR_calls (tgt_len fun x hx => hms x (List.mem_of_mem_take hx)) (bump_len hok) w ad) ⟨vmax_len (tgt_len fun x hx => hms x (List.mem_of_mem_take hx)) (bump_len hok), trivial⟩ ?_
    conv => whnf
    refine ⟨k + 1, by omega, by omega, ⟨i64_step (m := 10000) (by omega) (by omega), rfl, rfl, rfl, trivial⟩, ⟨?_, rfl, rfl, trivial⟩, rfl, fun _ h => h, rfl⟩
    show ([Seg.ints _ _ _], 28) = _
    rw [tgt_step hm]
  · conv => whnf
    have hk' : k = ms.length := by have := of_decide_eq_false hc; omega
    subst hk'
    rw [List.take_length]
    exact fin_ret fun ad => by simp only [tgtV, hb, if_true]; rfl
end Go.Proofs.Ytcmooifiiakbdaa
