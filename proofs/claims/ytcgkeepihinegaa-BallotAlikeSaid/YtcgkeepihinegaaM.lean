/-
  A flush told in the other's words, walked.
-/
import Derived.Test.YtcgkeepihinegaaL
set_option linter.unusedVariables false
set_option linter.unusedSimpArgs false
namespace Go.Proofs.Ytcgkeepihinegaa
open Go Go.Sx Go.RowKit
set_option maxHeartbeats 1000000
set_option maxRecDepth 20000
def ToldR (v M : Int) (ms : List Mk) (w : World) (e : Ending) (w' : World) : Prop :=
  (∃ A c, e = .returned ((bx v M A ms.length c).den id) ∧ Rd (fun g => w.heap.size ≤ g ∧ g < w'.heap.size) w' A (mcells ms)) ∧ Below w.heap.size w w'
/-- What lies in rows of one's own is new memory. -/
theorem own_new {w0 w wx : World} {ad : Nat → Nat} {tm : List (Nat × SV)} {bl : List (Nat × (List Seg × TypeId))} {ds : List (FuncId × List SV)} {pr : Nat → Prop} {e : TypeId} {size n c : Nat} {A : Option Addr} {cs : List Value} (hw : WI (.of w0) ad ⟨tm, bl, ds, pr, wx⟩ w) (hO : Own wx w0.heap.size e size A n c cs) (hP : ∀ g, wblk A c = some g → pr g) :
    Rd (fun g => w0.heap.size ≤ g ∧ g < w.heap.size) w A cs := by
  intro j u hj
  obtain ⟨a, haa, hpa, hcell⟩ := (hO.rd (pr := fun g => wblk A c = some g) (fun g hg => hg)) j u hj
  have h3 := hO.block hpa
  have h4 := hw.pl _ (hP _ hpa)
  have h5 : wx.heap.size ≤ w.heap.size := hw.sn
  have h6 : a.block < wx.heap.size := h4.1
  exact ⟨a, haa, ⟨h3.1, by omega⟩, (cell_same (by rw [add_block]; exact h4.2)).trans hcell⟩
theorem theirs1_calls (m : Mk) (w0 : World) : ∀ ad, Calls Try.prog 11 (SV.dens ad [.agg m.segs]).toArray w0 (Ret w0 ((SV.agg m.segs).den fun x => x)) := by
  refine calls_sound tabOK Try.func11 rfl (by kernel_rfl) (Nat.le_of_ble_eq_true rfl) ⟨m.sok, trivial⟩ ?_
  conv => whnf
  exact fin_ret fun ad => rfl
theorem theirs_calls {v M : Int} {A : Option Addr} {c : Nat} {ms : List Mk} (hms : ∀ m ∈ ms, m.Ok) (w0 : World) (hrd : Rd (fun g => g < w0.heap.size) w0 A (mcells ms)) (hn : ms.length < 10000) : ∀ ad, Calls Try.prog 10 (SV.dens ad [bx v M A ms.length c]).toArray w0 (ToldR v M ms w0) := by
  refine calls_sound tabOK Try.func10 rfl (by kernel_rfl) (Nat.le_of_ble_eq_true rfl) ⟨⟨rfl, rfl, rfl, trivial⟩, trivial⟩ ?_
  conv => whnf
  have hsz : ∀ x ∈ ms, (flat x.segs).length = 3 := fun x _ => segs_len x
  have hA : ∀ {k : Nat}, k < ms.length → A ≠ none := fun {k} h => hrd.some fun e => by
    have := congrArg List.length e
    rw [mcells_len ms] at this
    simp at this; omega
  refine loop_rule tabOK (by kernel_rfl) (fun i : PI => ⟨[(12, .v (.int .i64 i.k)), (11, .v (.int .i64 ms.length)), (10, .v (.slice A ms.length c)), (3, .ptr 3 0), (2, .ptr 2 0)], [(3, ([.one (.int .i64 v), .one (.int .u16 M), .one (.slice i.A (ms.take i.k).length i.c)], 37)), (2, ([.one (.int .i64 0), .one (.int .u16 0), .one (.slice none 0 0)], 37))], [], i.pr, i.sw⟩)
    (fun i => i.k ≤ ms.length ∧ Own i.sw w0.heap.size 44 3 i.A (ms.take i.k).length i.c (mcells (ms.take i.k)) ∧ (∀ g, wblk i.A i.c = some g → i.pr g) ∧ w0.heap.size ≤ i.sw.heap.size ∧ (∀ q, q < w0.heap.size → i.pr q ∧ i.sw.heap[q]? = w0.heap[q]?))
    (fun i => ms.length - i.k) ⟨0, none, 0, _, w0⟩ ⟨Nat.zero_le _, Own.nil _ _ _ _ _, fun g hg => (by cases hg), Nat.le_refl _, fun q hq => ⟨hq, rfl⟩⟩ ⟨⟨rfl, rfl, rfl, rfl, rfl, trivial⟩, ⟨rfl, rfl, trivial⟩, rfl, fun _ h => h, rfl⟩ ?_
  intro i ⟨hk, hown, hp, hws, hkeep⟩
  have hrd1 : Rd i.pr i.sw A (mcells ms) := hrd.world (fun q hq => (hkeep q hq).2) (fun q hq => (hkeep q hq).1)
  conv => whnf
  refine ⟨fun hc => ?_, fun hc => ?_⟩
  · conv => whnf
    have hk' : i.k < ms.length := by have := of_decide_eq_true hc; omega
    obtain ⟨m, hm⟩ : ∃ m, ms[i.k]? = some m := ⟨_, List.getElem?_eq_getElem hk'⟩
    have hok := hms m (List.mem_of_getElem? hm)
    have hi : (0 : Int) ≤ i.k ∧ (i.k : Int) < ms.length ∧ A ≠ none := ⟨by omega, by omega, hA hk'⟩
    have hlk : (ms.take i.k).length = i.k := by rw [List.length_take]; omega
    refine ⟨hi, ?_⟩
    conv => whnf
    refine xload_row tabOK (t := 32) rfl Mk.segs hrd1 hsz m.sok hm (i := i.k) (o := 0) (by rw [Int.toNat_natCast]; rfl) (by decide) ?_
    conv => whnf
    refine draw_rule tabOK mixed [] [5, 6, 7] pP10_5 [] (by kernel_rfl) (by kernel_rfl) ?_
    conv => whnf
    refine call_det (.agg m.segs) (show Ent Try.prog 11 by unfold Ent; kernel_rfl) (fun ad w _ => theirs1_calls m w ad) m.sok ?_
    conv => whnf
    intro w1 g1 pr1 hg1 hlo1 hsame1 hs1 hsub1 hprg1 hprs1
    conv => whnf
    refine append_rule (base := w0.heap.size) (e := 44) (size := 3) (bytes := 3) (news := flat m.segs) (by kernel_rfl) (by kernel_rfl) (by decide) (hown.world fun g hg => hsame1 g (hp g hg)) (fun g hg => ⟨hsub1 g (hp g hg), .inl (hown.block hg).1⟩) (rd_row hg1 hprg1) (segs_len m) (fun u hu => mcells_one [m] u (by simpa [mcells] using hu)) (by unfold maxLen; omega) (by omega) (by omega) ?_
    intro A2 c2 w2 pr2 hown2 hkeep2 hblk2 hs2 hprs2
    have HK2 : ∀ q, q < w0.heap.size → pr2 q ∧ w2.heap[q]? = w0.heap[q]? := fun q hq => by
      obtain ⟨p, e⟩ := hkeep q hq
      have h1 := hkeep2 q (hsub1 q p) (fun h => by have := (hown.block h.symm).1; omega)
      exact ⟨h1.2, h1.1.trans ((hsame1 q p).trans e)⟩
    conv => whnf
    refine ⟨⟨i.k + 1, A2, c2, pr2, w2⟩, ⟨by show i.k + 1 ≤ ms.length; omega, ?_, fun g hg => (hblk2 g hg).1, by show w0.heap.size ≤ w2.heap.size; omega, HK2⟩, by show ms.length - (i.k + 1) < ms.length - i.k; omega, ⟨i64_step (m := 10000) (by omega) (by omega), rfl, rfl, rfl, rfl, trivial⟩, ⟨?_, rfl, trivial⟩, rfl, fun _ h => h, rfl⟩
    · show Own w2 _ 44 3 A2 (ms.take (i.k + 1)).length c2 (mcells (ms.take (i.k + 1)))
      rw [take_step hm, mcells_snoc, List.length_append]; exact hown2
    · show _ = ([Seg.one (.int .i64 v), Seg.one (.int .u16 M), Seg.one (.slice A2 (ms.take (i.k + 1)).length c2)], 37)
      rw [take_step hm, List.length_append]; rfl
  · conv => whnf
    have hk' : i.k = ms.length := by have := of_decide_eq_false hc; omega
    rw [hk', List.take_length] at hown ⊢
    exact ⟨fun ad w hw => ⟨⟨i.A, i.c, rfl, own_new hw hown hp⟩, hw.bel.below⟩⟩
theorem ours_calls {v M : Int} {A : Option Addr} {c : Nat} {ms : List Mk} (hms : ∀ m ∈ ms, m.Ok) (w0 : World) (hrd : Rd (fun g => g < w0.heap.size) w0 A (mcells ms)) (hn : ms.length < 10000) : ∀ ad, Calls Try.prog 16 (SV.dens ad [bx v M A ms.length c]).toArray w0 (ToldR v M ms w0) := by
  refine calls_sound tabOK Try.func16 rfl (by kernel_rfl) (Nat.le_of_ble_eq_true rfl) ⟨⟨rfl, rfl, rfl, trivial⟩, trivial⟩ ?_
  conv => whnf
  have hsz : ∀ x ∈ ms, (flat x.segs).length = 3 := fun x _ => segs_len x
  have hA : ∀ {k : Nat}, k < ms.length → A ≠ none := fun {k} h => hrd.some fun e => by
    have := congrArg List.length e
    rw [mcells_len ms] at this
    simp at this; omega
  refine loop_rule tabOK (by kernel_rfl) (fun i : PI => ⟨[(12, .v (.int .i64 i.k)), (11, .v (.int .i64 ms.length)), (10, .v (.slice A ms.length c)), (3, .ptr 3 0), (2, .ptr 2 0)], [(3, ([.one (.int .i64 v), .one (.int .u16 M), .one (.slice i.A (ms.take i.k).length i.c)], 28)), (2, ([.one (.int .i64 0), .one (.int .u16 0), .one (.slice none 0 0)], 28))], [], i.pr, i.sw⟩)
    (fun i => i.k ≤ ms.length ∧ Own i.sw w0.heap.size 32 3 i.A (ms.take i.k).length i.c (mcells (ms.take i.k)) ∧ (∀ g, wblk i.A i.c = some g → i.pr g) ∧ w0.heap.size ≤ i.sw.heap.size ∧ (∀ q, q < w0.heap.size → i.pr q ∧ i.sw.heap[q]? = w0.heap[q]?))
    (fun i => ms.length - i.k) ⟨0, none, 0, _, w0⟩ ⟨Nat.zero_le _, Own.nil _ _ _ _ _, fun g hg => (by cases hg), Nat.le_refl _, fun q hq => ⟨hq, rfl⟩⟩ ⟨⟨rfl, rfl, rfl, rfl, rfl, trivial⟩, ⟨rfl, rfl, trivial⟩, rfl, fun _ h => h, rfl⟩ ?_
  intro i ⟨hk, hown, hp, hws, hkeep⟩
  have hrd1 : Rd i.pr i.sw A (mcells ms) := hrd.world (fun q hq => (hkeep q hq).2) (fun q hq => (hkeep q hq).1)
  conv => whnf
  refine ⟨fun hc => ?_, fun hc => ?_⟩
  · conv => whnf
    have hk' : i.k < ms.length := by have := of_decide_eq_true hc; omega
    obtain ⟨m, hm⟩ : ∃ m, ms[i.k]? = some m := ⟨_, List.getElem?_eq_getElem hk'⟩
    have hok := hms m (List.mem_of_getElem? hm)
    have hi : (0 : Int) ≤ i.k ∧ (i.k : Int) < ms.length ∧ A ≠ none := ⟨by omega, by omega, hA hk'⟩
    have hlk : (ms.take i.k).length = i.k := by rw [List.length_take]; omega
    refine ⟨hi, ?_⟩
    conv => whnf
    refine xload_row tabOK (t := 44) rfl Mk.segs hrd1 hsz m.sok hm (i := i.k) (o := 0) (by rw [Int.toNat_natCast]; rfl) (by decide) ?_
    conv => whnf
    intro w1 g1 pr1 hg1 hlo1 hsame1 hs1 hsub1 hprg1 hprs1
    conv => whnf
    refine append_rule (base := w0.heap.size) (e := 32) (size := 3) (bytes := 3) (news := flat m.segs) (by kernel_rfl) (by kernel_rfl) (by decide) (hown.world fun g hg => hsame1 g (hp g hg)) (fun g hg => ⟨hsub1 g (hp g hg), .inl (hown.block hg).1⟩) (rd_row hg1 hprg1) (segs_len m) (fun u hu => mcells_one [m] u (by simpa [mcells] using hu)) (by unfold maxLen; omega) (by omega) (by omega) ?_
    intro A2 c2 w2 pr2 hown2 hkeep2 hblk2 hs2 hprs2
    have HK2 : ∀ q, q < w0.heap.size → pr2 q ∧ w2.heap[q]? = w0.heap[q]? := fun q hq => by
      obtain ⟨p, e⟩ := hkeep q hq
      have h1 := hkeep2 q (hsub1 q p) (fun h => by have := (hown.block h.symm).1; omega)
      exact ⟨h1.2, h1.1.trans ((hsame1 q p).trans e)⟩
    conv => whnf
    refine ⟨⟨i.k + 1, A2, c2, pr2, w2⟩, ⟨by show i.k + 1 ≤ ms.length; omega, ?_, fun g hg => (hblk2 g hg).1, by show w0.heap.size ≤ w2.heap.size; omega, HK2⟩, by show ms.length - (i.k + 1) < ms.length - i.k; omega, ⟨i64_step (m := 10000) (by omega) (by omega), rfl, rfl, rfl, rfl, trivial⟩, ⟨?_, rfl, trivial⟩, rfl, fun _ h => h, rfl⟩
    · show Own w2 _ 32 3 A2 (ms.take (i.k + 1)).length c2 (mcells (ms.take (i.k + 1)))
      rw [take_step hm, mcells_snoc, List.length_append]; exact hown2
    · show _ = ([Seg.one (.int .i64 v), Seg.one (.int .u16 M), Seg.one (.slice A2 (ms.take (i.k + 1)).length c2)], 28)
      rw [take_step hm, List.length_append]; rfl
  · conv => whnf
    have hk' : i.k = ms.length := by have := of_decide_eq_false hc; omega
    rw [hk', List.take_length] at hown ⊢
    exact ⟨fun ad w hw => ⟨⟨i.A, i.c, rfl, own_new hw hown hp⟩, hw.bel.below⟩⟩
end Go.Proofs.Ytcgkeepihinegaa
