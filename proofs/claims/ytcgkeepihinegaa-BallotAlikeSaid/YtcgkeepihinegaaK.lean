/-
  Who wants a change, and what is chosen: walked, both roads.
-/
import Derived.Test.YtcgkeepihinegaaM
set_option linter.unusedVariables false
set_option linter.unusedSimpArgs false
namespace Go.Proofs.Ytcgkeepihinegaa
open Go Go.Sx Go.RowKit
set_option maxHeartbeats 1000000
set_option maxRecDepth 20000
def wants (add : Bool) (id : Int) (m : Mk) : Bool := decide (m.add = add) && decide (m.id = id)
def forF (add : Bool) (id : Int) (s : Int) (m : Mk) : Int := if wants add id m = true then withB s m.who else s
def forL (ms : List Mk) (add : Bool) (id : Int) : Int := ms.foldl (forF add id) 0
def forS (v M : Int) (ms : List Mk) (add : Bool) (id : Int) : Int := if rightB v M ms = true then forL ms add id else 0
theorem forL_step {ms : List Mk} {k : Nat} {m : Mk} (hm : ms[k]? = some m) (add : Bool) (id : Int) : forL (ms.take (k + 1)) add id = forF add id (forL (ms.take k) add id) m := by
  unfold forL; rw [take_step hm, List.foldl_append]; rfl
theorem forF_rng {add : Bool} {id s : Int} {m : Mk} (hm : m.Ok) (h : 0 ≤ s ∧ s < 65536) : 0 ≤ forF add id s m ∧ forF add id s m < 65536 := by
  unfold forF; split
  · exact with_rng h.1 h.2 hm.1.1
  · exact h
theorem fold_rng {add : Bool} {id : Int} : ∀ {ms : List Mk} {s : Int}, (∀ m ∈ ms, m.Ok) → 0 ≤ s ∧ s < 65536 → 0 ≤ ms.foldl (forF add id) s ∧ ms.foldl (forF add id) s < 65536
  | [], s, _, h => h
  | m :: r, s, hms, h => fold_rng (ms := r) (fun x hx => hms x (List.mem_cons_of_mem _ hx)) (forF_rng (hms m (by simp)) h)
theorem forL_rng {ms : List Mk} (hms : ∀ m ∈ ms, m.Ok) (add : Bool) (id : Int) : 0 ≤ forL ms add id ∧ forL ms add id < 65536 := fold_rng hms (by decide)
theorem forS_rng {v M : Int} {ms : List Mk} (hms : ∀ m ∈ ms, m.Ok) (add : Bool) (id : Int) : 0 ≤ forS v M ms add id ∧ forS v M ms add id < 65536 := by
  unfold forS; split
  · exact forL_rng hms add id
  · decide
theorem for_calls {v M : Int} (h0 : 0 ≤ M) (h1 : M < 65536) {A : Option Addr} {c : Nat} {ms : List Mk} {add : Bool} {id : Int} (hms : ∀ m ∈ ms, m.Ok) (w0 : World) (hrd : Rd (fun g => g < w0.heap.size) w0 A (mcells ms)) (hn : ms.length < 100000) : ∀ ad, Calls Try.prog 17 (SV.dens ad [bx v M A ms.length c, chg add id]).toArray w0 (Ret w0 (.int .u16 (forS v M ms add id))) := by
  refine calls_sound tabOK Try.func17 rfl (by kernel_rfl) (Nat.le_of_ble_eq_true rfl) ⟨⟨rfl, rfl, rfl, trivial⟩, ⟨rfl, rfl, trivial⟩, trivial⟩ ?_
  conv => whnf
  refine call_det (.v (.bool (rightB v M ms))) ent25 (fun ad w hw => right_calls h0 h1 hms w (hw.rd hrd) (by omega) ad) rfl ?_
  conv => whnf
  refine ⟨fun ha => ?_, fun ha => ?_⟩
  · have ha : rightB v M ms = false := by simpa using ha
    conv => whnf
    exact fin_ret fun ad => by simp only [retV, SV.dens, SV.den, forS, ha, Bool.false_eq_true, if_false]
  have ha : rightB v M ms = true := by simpa using ha
  conv => whnf
  refine loop_rule tabOK (by kernel_rfl) (fun k : Nat => ⟨[(14, .v (.int .i64 k)), (13, .v (.int .i64 ms.length)), (12, .v (.slice A ms.length c)), (5, .v (.int .u16 (forL (ms.take k) add id))), (3, .ptr 3 0)], [(3, ([.one (.bool add), .one (.int .u8 id)], 42))], [], fun g => g < w0.heap.size, w0⟩) (fun k => k ≤ ms.length) (fun k => ms.length - k) 0 (Nat.zero_le _) ⟨⟨rfl, rfl, rfl, rfl, rfl, trivial⟩, ⟨rfl, trivial⟩, rfl, fun _ h => h, rfl⟩ ?_
  intro k hk
  conv => whnf
  refine ⟨fun hc => ?_, fun hc => ?_⟩
  · conv => whnf
    have hk' : k < ms.length := by have := of_decide_eq_true hc; omega
    obtain ⟨m, hm⟩ : ∃ m, ms[k]? = some m := ⟨_, List.getElem?_eq_getElem hk'⟩
    have hok := hms m (List.mem_of_getElem? hm)
    have hi : (0 : Int) ≤ k ∧ (k : Int) < ms.length ∧ A ≠ none := ⟨by omega, by omega, some_of hrd hk'⟩
    have hr := forL_rng (fun m hm => hms m (List.mem_of_mem_take (i := k) hm)) add id
    refine ⟨hi, ?_⟩
    conv => whnf
    refine xload_row tabOK (t := 44) rfl Mk.segs hrd (fun x _ => segs_len x) m.sok hm (i := k) (o := 0) (by rw [Int.toNat_natCast]; rfl) (by decide) ?_
    conv => whnf
    refine eq_plain (ks := ksChg) (by kernel_rfl) rfl rfl rfl (by exact ⟨rfl, rfl, trivial⟩) (by exact ⟨rfl, rfl, trivial⟩) ?_
    conv => whnf
    have hw : eqS [.one (.bool m.add), .one (.int .u8 m.id)] [.one (.bool add), .one (.int .u8 id)] = wants add id m := by simp [eqS, eq1, wants]
    rw [hw]
    refine ⟨fun hb => ?_, fun hb => ?_⟩
    · conv => whnf
      refine call_det (.v (.int .u16 (withB (forL (ms.take k) add id) m.who))) ent36 (fun ad w _ => with_calls hr.1 hr.2 hok.1.1 w ad) rfl ?_
      conv => whnf
      refine ⟨k + 1, hk', by omega, ⟨i64_step (m := 100000) (by omega) (by omega), rfl, rfl, ?_, rfl, trivial⟩, ⟨rfl, trivial⟩, rfl, fun _ h => h, rfl⟩
      show _ = (SV.v (.int .u16 (forL (ms.take (k + 1)) add id))).norm
      rw [forL_step hm, forF, if_pos hb]
    · conv => whnf
      refine ⟨k + 1, hk', by omega, ⟨i64_step (m := 100000) (by omega) (by omega), rfl, rfl, ?_, rfl, trivial⟩, ⟨rfl, trivial⟩, rfl, fun _ h => h, rfl⟩
      show _ = (SV.v (.int .u16 (forL (ms.take (k + 1)) add id))).norm
      rw [forL_step hm, forF, if_neg (by rw [hb]; decide)]
  · conv => whnf
    have hk' : k = ms.length := by have := of_decide_eq_false hc; omega
    subst hk'
    exact fin_ret fun ad => by simp only [retV, SV.dens, SV.den, forS, ha, if_true, List.take_length]
theorem forR_calls {v M : Int} (h0 : 0 ≤ M) (h1 : M < 65536) {A : Option Addr} {c : Nat} {ms : List Mk} {add : Bool} {id : Int} (hms : ∀ m ∈ ms, m.Ok) (w0 : World) (hrd : Rd (fun g => g < w0.heap.size) w0 A (mcells ms)) (hn : ms.length < 100000) : ∀ ad, Calls Try.prog 18 (SV.dens ad [bx v M A ms.length c, chg add id]).toArray w0 (Ret w0 (.int .u16 (forS v M ms add id))) := by
  refine calls_sound tabOK Try.func18 rfl (by kernel_rfl) (Nat.le_of_ble_eq_true rfl) ⟨⟨rfl, rfl, rfl, trivial⟩, ⟨rfl, rfl, trivial⟩, trivial⟩ ?_
  conv => whnf
  refine call_det (.v (.bool (rightB v M ms))) ent30 (fun ad w hw => rightR_calls h0 h1 hms w (hw.rd hrd) (by omega) ad) rfl ?_
  conv => whnf
  refine ⟨fun ha => ?_, fun ha => ?_⟩
  · have ha : rightB v M ms = false := by simpa using ha
    conv => whnf
    exact fin_ret fun ad => by simp only [retV, SV.dens, SV.den, forS, ha, Bool.false_eq_true, if_false]
  have ha : rightB v M ms = true := by simpa using ha
  conv => whnf
  refine loop_rule tabOK (by kernel_rfl) (fun k : Nat => ⟨[(6, .v (.int .i64 k)), (5, .v (.int .u16 (forL (ms.take k) add id))), (3, .ptr 3 0), (2, .ptr 2 0)], [(3, ([.one (.bool add), .one (.int .u8 id)], 30)), (2, ([.one (.int .i64 v), .one (.int .u16 M), .one (.slice A ms.length c)], 28))], [], fun g => g < w0.heap.size, w0⟩) (fun k => k ≤ ms.length) (fun k => ms.length - k) 0 (Nat.zero_le _) ⟨⟨rfl, rfl, rfl, rfl, trivial⟩, ⟨rfl, rfl, trivial⟩, rfl, fun _ h => h, rfl⟩ ?_
  intro k hk
  conv => whnf
  refine ⟨fun hc => ?_, fun hc => ?_⟩
  · conv => whnf
    have hk' : k < ms.length := by have := of_decide_eq_true hc; omega
    obtain ⟨m, hm⟩ : ∃ m, ms[k]? = some m := ⟨_, List.getElem?_eq_getElem hk'⟩
    have hok := hms m (List.mem_of_getElem? hm)
    have hi : (0 : Int) ≤ k ∧ (k : Int) < ms.length ∧ A ≠ none := ⟨by omega, by omega, some_of hrd hk'⟩
    have hr := forL_rng (fun m hm => hms m (List.mem_of_mem_take (i := k) hm)) add id
    refine draw_rule tabOK mixed [] [] pP18_7 [] (by kernel_rfl) (by kernel_rfl) ?_
    conv => whnf
    refine ⟨hi, ?_⟩
    conv => whnf
    refine xload_row tabOK (t := 30) rfl Mk.segs hrd (fun x _ => segs_len x) m.sok hm (i := k) (o := 1) (by rw [Int.toNat_natCast]) (by decide) ?_
    conv => whnf
    refine eq_plain (ks := ksChg) (by kernel_rfl) rfl rfl rfl (by exact ⟨rfl, rfl, trivial⟩) (by exact ⟨rfl, rfl, trivial⟩) ?_
    conv => whnf
    have hw : eqS [.one (.bool m.add), .one (.int .u8 m.id)] [.one (.bool add), .one (.int .u8 id)] = wants add id m := by simp [eqS, eq1, wants]
    rw [hw]
    refine ⟨fun hb => ?_, fun hb => ?_⟩
    · conv => whnf
      refine ⟨hi, ?_⟩
      conv => whnf
      refine xload_row tabOK (t := 5) rfl Mk.segs hrd (fun x _ => segs_len x) m.sok hm (i := k) (o := 0) (by rw [Int.toNat_natCast]) (by decide) ?_
      conv => whnf
      refine call_det (.v (.int .u16 (withB (forL (ms.take k) add id) m.who))) (show Ent Try.prog 37 by unfold Ent; kernel_rfl) (fun ad w _ => withR_calls hr.1 hr.2 hok.1.1 hok.1.2 w ad) rfl ?_
      conv => whnf
      refine ⟨k + 1, hk', by omega, ⟨i64_step (m := 100000) (by omega) (by omega), ?_, rfl, rfl, trivial⟩, ⟨rfl, rfl, trivial⟩, rfl, fun _ h => h, rfl⟩
      show _ = (SV.v (.int .u16 (forL (ms.take (k + 1)) add id))).norm
      rw [forL_step hm, forF, if_pos hb]
    · conv => whnf
      refine ⟨k + 1, hk', by omega, ⟨i64_step (m := 100000) (by omega) (by omega), ?_, rfl, rfl, trivial⟩, ⟨rfl, rfl, trivial⟩, rfl, fun _ h => h, rfl⟩
      show _ = (SV.v (.int .u16 (forL (ms.take (k + 1)) add id))).norm
      rw [forL_step hm, forF, if_neg (by rw [hb]; decide)]
  · conv => whnf
    have hk' : k = ms.length := by have := of_decide_eq_false hc; omega
    subst hk'
    exact fin_ret fun ad => by simp only [retV, SV.dens, SV.den, forS, ha, if_true, List.take_length]
end Go.Proofs.Ytcgkeepihinegaa
