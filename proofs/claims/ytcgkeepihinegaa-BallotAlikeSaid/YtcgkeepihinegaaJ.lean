/-
  The document's Put, walked.
-/
import Derived.Test.YtcgkeepihinegaaI
set_option linter.unusedVariables false
set_option linter.unusedSimpArgs false
namespace Go.Proofs.Ytcgkeepihinegaa
open Go Go.Sx Go.RowKit
set_option maxHeartbeats 1000000
set_option maxRecDepth 20000
/-- Is the new mark in the list already? -/
def doneB (ms : List Mk) (t : Mk) (k : Nat) : Bool := (ms.take k).any fun m => !before t m
def insK (ms : List Mk) (t : Mk) (k : Nat) : List Mk := if doneB ms t k = true then insS (ms.take k) t else ms.take k
theorem take_step {α : Type} {ms : List α} {k : Nat} {m : α} (hm : ms[k]? = some m) : ms.take (k + 1) = ms.take k ++ [m] := by rw [List.take_add_one, hm]; rfl
theorem doneB_succ {ms : List Mk} {t : Mk} {k : Nat} {m : Mk} (hm : ms[k]? = some m) : doneB ms t (k + 1) = (doneB ms t k || !before t m) := by
  unfold doneB; rw [take_step hm, List.any_append]; simp
theorem ins_end : ∀ {l : List Mk} {t : Mk} (h : (l.any fun m => !before t m) = false), insS l t = l ++ [t]
  | [], t, _ => rfl
  | x :: r, t, h => by
    simp only [List.any_cons, Bool.or_eq_false_iff, Bool.not_eq_false'] at h
    have := ins_end (l := r) (t := t) h.2
    simp only [insS, List.takeWhile_cons, List.dropWhile_cons, h.1, if_true, List.cons_append] at this ⊢
    rw [this]
theorem ins_more : ∀ {l : List Mk} {t m : Mk} (h : (l.any fun m => !before t m) = true), insS (l ++ [m]) t = insS l t ++ [m]
  | [], t, m, h => by simp at h
  | x :: r, t, m, h => by
    cases hx : before t x
    · simp only [insS, List.cons_append, List.takeWhile_cons, List.dropWhile_cons, hx, Bool.false_eq_true, if_false, List.nil_append]
    · simp only [List.any_cons, hx, Bool.not_true, Bool.false_or] at h
      have := ins_more (l := r) (t := t) (m := m) h
      simp only [insS, List.cons_append, List.takeWhile_cons, List.dropWhile_cons, hx, if_true] at this ⊢
      rw [this]
theorem ins_now : ∀ {l : List Mk} {t m : Mk} (h : (l.any fun m => !before t m) = false) (hm : before t m = false), insS (l ++ [m]) t = l ++ [t, m]
  | [], t, m, _, hm => by simp [insS, hm]
  | x :: r, t, m, h, hm => by
    simp only [List.any_cons, Bool.or_eq_false_iff, Bool.not_eq_false'] at h
    have := ins_now (l := r) (t := t) (m := m) h.2 hm
    simp only [insS, List.cons_append, List.takeWhile_cons, List.dropWhile_cons, h.1, if_true] at this ⊢
    rw [this]
theorem insK_len (ms : List Mk) (t : Mk) {k : Nat} (hk : k ≤ ms.length) : (insK ms t k).length ≤ k + 1 := by
  unfold insK
  split
  · unfold insS
    rw [List.length_append, List.length_cons]
    have := congrArg List.length (List.takeWhile_append_dropWhile (p := before t) (l := ms.take k))
    rw [List.length_append, List.length_take, Nat.min_eq_left hk] at this
    omega
  · rw [List.length_take]; omega
theorem mcells_snoc (l : List Mk) (m : Mk) : mcells (l ++ [m]) = mcells l ++ flat m.segs := by simp [mcells]
theorem insK_done {ms : List Mk} {t m : Mk} {k : Nat} (hm : ms[k]? = some m) (hd : doneB ms t k = true) : insK ms t (k + 1) = insK ms t k ++ [m] := by
  have h : doneB ms t (k + 1) = true := by rw [doneB_succ hm, hd]; rfl
  simp only [insK, hd, h, if_true]
  rw [take_step hm, ins_more hd]
theorem insK_more {ms : List Mk} {t m : Mk} {k : Nat} (hm : ms[k]? = some m) (hd : doneB ms t k = false) (hb : before t m = true) : insK ms t (k + 1) = insK ms t k ++ [m] := by
  have h : doneB ms t (k + 1) = false := by rw [doneB_succ hm, hd, hb]; rfl
  simp only [insK, hd, h, Bool.false_eq_true, if_false]
  rw [take_step hm]
theorem insK_now {ms : List Mk} {t m : Mk} {k : Nat} (hm : ms[k]? = some m) (hd : doneB ms t k = false) (hb : before t m = false) : insK ms t (k + 1) = (insK ms t k ++ [t]) ++ [m] := by
  have h : doneB ms t (k + 1) = true := by rw [doneB_succ hm, hd, hb]; rfl
  simp only [insK, hd, h, Bool.false_eq_true, if_false, if_true]
  rw [take_step hm, ins_now hd hb]; simp
structure PI where
  k : Nat
  A : Option Addr
  c : Nat
  pr : Nat → Prop
  sw : World
def PutRR (v M : Int) (A : Option Addr) (c : Nat) (ms : List Mk) (r : List Mk × Int) (w : World) (e : Ending) (w' : World) : Prop :=
  ((r.1 = ms ∧ e = .returned (retV [(bx v M A ms.length c).den id, .int .i64 r.2])) ∨
  (∃ A c, e = .returned (retV [(bx v M A r.1.length c).den id, .int .i64 r.2]) ∧ Rd (fun g => w.heap.size ≤ g ∧ g < w'.heap.size) w' A (mcells r.1))) ∧ Below w.heap.size w w'
theorem ent30 : Ent Try.prog 30 := by unfold Ent; kernel_rfl
theorem putR_calls {v M : Int} (h0 : 0 ≤ M) (h1 : M < 65536) {A : Option Addr} {c : Nat} {ms : List Mk} {t : Mk} (hms : ∀ m ∈ ms, m.Ok) (ht : t.Ok) (w0 : World) (hrd : Rd (fun g => g < w0.heap.size) w0 A (mcells ms)) (hn : ms.length < 10000) : ∀ ad, Calls Try.prog 12 (SV.dens ad [bx v M A ms.length c, .agg t.segs]).toArray w0 (PutRR v M A c ms (putS v M ms t) w0) := by
  refine calls_sound tabOK Try.func12 rfl (by kernel_rfl) (Nat.le_of_ble_eq_true rfl) ⟨⟨rfl, rfl, rfl, trivial⟩, t.sok, trivial⟩ ?_
  conv => whnf
  have hsz : ∀ x ∈ ms, (flat x.segs).length = 3 := fun x _ => segs_len x
  have hA : ∀ {k : Nat}, k < ms.length → A ≠ none := fun {k} h => hrd.some fun e => by
    have := congrArg List.length e
    rw [mcells_len ms] at this
    simp at this; omega
  have fin : ∀ {s : St} {z : Int}, putS v M ms t = (ms, z) → FinVC (.of w0) (PutRR v M A c ms (putS v M ms t) w0) s [bx v M A ms.length c, .v (.int .i64 z)] := fun {s z} h => by
    rw [h]
    exact ⟨fun ad w hw => ⟨.inl ⟨rfl, rfl⟩, hw.bel.below⟩⟩
  refine call_det (.v (.bool (rightB v M ms))) ent30 (fun ad w hw => rightR_calls h0 h1 hms w (hw.rd hrd) (by omega) ad) rfl ?_
  conv => whnf
  refine ⟨fun ha => ?_, fun ha => ?_⟩
  · conv => whnf
    have ha : rightB v M ms = false := by simpa using ha
    exact fin (by simp [putS, ha])
  conv => whnf
  have ha : rightB v M ms = true := by simpa using ha
  have hso := sorted_of ha
  refine call_det (.v (.bool (hasB M t.who))) ent23 (fun ad w _ => hasR_calls h0 h1 ht.1.1 ht.1.2 w ad) rfl ?_
  conv => whnf
  refine ⟨fun hb => ?_, fun hb => ?_⟩
  · conv => whnf
    have hb : hasB M t.who = false := by simpa using hb
    exact fin (by simp [putS, ha, hb])
  conv => whnf
  have hb : hasB M t.who = true := by simpa using hb
  refine loop_rule tabOK (by kernel_rfl) (fun i : PI => ⟨[(8, .v (.int .i64 i.k)), (7, .v (.bool (doneB ms t i.k))), (6, .v (.slice i.A (insK ms t i.k).length i.c)), (5, .v (.int .i64 0)), (4, .ptr 4 0), (3, .ptr 3 0), (2, .ptr 2 0)],
      [(2, ([.one (.int .i64 v), .one (.int .u16 M), .one (.slice A ms.length c)], 28)), (3, (t.segs, 32)), (4, (ti28.zero, 28))], [], i.pr, i.sw⟩)
    (fun i => i.k ≤ ms.length ∧ (∀ j m, ms[j]? = some m → j < i.k → m.who ≠ t.who) ∧ Own i.sw w0.heap.size 32 3 i.A (insK ms t i.k).length i.c (mcells (insK ms t i.k)) ∧ (∀ g, wblk i.A i.c = some g → i.pr g) ∧ w0.heap.size ≤ i.sw.heap.size ∧ (∀ q, q < w0.heap.size → i.pr q ∧ i.sw.heap[q]? = w0.heap[q]?))
    (fun i => ms.length - i.k) ⟨0, none, 0, _, w0⟩ ⟨Nat.zero_le _, fun j m _ h => absurd h (Nat.not_lt_zero _), Own.nil _ _ _ _ _, fun g hg => (by cases hg), Nat.le_refl _, fun q hq => ⟨hq, rfl⟩⟩ ⟨⟨rfl, rfl, rfl, rfl, rfl, rfl, rfl, trivial⟩, ⟨rfl, rfl, rfl, trivial⟩, rfl, fun _ h => h, rfl⟩ ?_
  intro i ⟨hk, hno, hown, hp, hws, hkeep⟩
  have hrd1 : Rd i.pr i.sw A (mcells ms) := hrd.world (fun q hq => (hkeep q hq).2) (fun q hq => (hkeep q hq).1)
  conv => whnf
  refine ⟨fun hc => ?_, fun hc => ?_⟩
  · conv => whnf
    have hk' : i.k < ms.length := by have := of_decide_eq_true hc; omega
    obtain ⟨m, hm⟩ : ∃ m, ms[i.k]? = some m := ⟨_, List.getElem?_eq_getElem hk'⟩
    have hok := hms m (List.mem_of_getElem? hm)
    have hi : (0 : Int) ≤ i.k ∧ (i.k : Int) < ms.length ∧ A ≠ none := ⟨by omega, by omega, hA hk'⟩
    refine draw_rule tabOK mixed [] [] pP12_10 [] (by kernel_rfl) (by kernel_rfl) ?_
    conv => whnf
    refine ⟨hi, ?_⟩
    conv => whnf
    refine xload_row tabOK (t := 5) rfl Mk.segs hrd1 hsz m.sok hm (i := i.k) (o := 0) (by rw [Int.toNat_natCast]) (by decide) ?_
    conv => whnf
    refine ⟨fun he => ?_, fun he => ?_⟩
    · conv => whnf
      have he := of_decide_eq_true he
      have hany : ms.any (fun m => decide (m.who = t.who)) = true := List.any_eq_true.2 ⟨m, List.mem_of_getElem? hm, by simpa using he⟩
      exact fin (by simp only [putS, ha, hb, hany, if_true])
    conv => whnf
    have he := of_decide_eq_false he
    have hno' : ∀ j m, ms[j]? = some m → j < i.k + 1 → m.who ≠ t.who := fun j m' hj hjl => by
      by_cases e : j = i.k
      · subst e; rw [hm] at hj; cases hj; exact he
      · exact hno j m' hj (by omega)
    refine draw_rule tabOK mixed [] [] pP12_12 [] (by kernel_rfl) (by kernel_rfl) ?_
    conv => whnf
    refine ⟨fun hd => ?_, fun hd => ?_⟩
    · conv => whnf
      have hd : doneB ms t i.k = false := by simpa using hd
      refine ⟨hi, ?_⟩
      conv => whnf
      refine xload_row tabOK (t := 5) rfl Mk.segs hrd1 hsz m.sok hm (i := i.k) (o := 0) (by rw [Int.toNat_natCast]) (by decide) ?_
      conv => whnf
      refine ⟨fun hf => ?_, fun hf => ?_⟩
      · conv => whnf
        have hf : before t m = false := by simp only [before]; rw [hf]; rfl
        intro w1 g1 pr1 hg1 hlo1 hsame1 hs1 hsub1 hprg1 hprs1
        conv => whnf
        refine append_rule (base := w0.heap.size) (e := 32) (size := 3) (bytes := 3) (news := flat (t).segs) (by kernel_rfl) (by kernel_rfl) (by decide) (hown.world fun g hg => hsame1 g (hp g hg)) (fun g hg => ⟨hsub1 g (hp g hg), .inl (hown.block hg).1⟩) (rd_row hg1 hprg1) (segs_len t) (fun u hu => mcells_one [t] u (by simpa [mcells] using hu)) (by have := insK_len ms t hk; unfold maxLen; omega) (by have := insK_len ms t hk; omega) (by omega) ?_
        intro A2 c2 w2 pr2 hown2 hkeep2 hblk2 hs2 hprs2
        have HK2 : ∀ q, q < w0.heap.size → pr2 q ∧ w2.heap[q]? = w0.heap[q]? := fun q hq => by
          obtain ⟨p, e⟩ := hkeep q hq
          have h1 := hkeep2 q (hsub1 q p) (fun h => by have := (hown.block h.symm).1; omega)
          exact ⟨h1.2, h1.1.trans ((hsame1 q p).trans e)⟩
        have HO2 : Own w2 w0.heap.size 32 3 A2 (insK ms t i.k ++ [t]).length c2 (mcells (insK ms t i.k ++ [t])) := by rw [mcells_snoc, List.length_append]; exact hown2
        have HP2 : ∀ g, wblk A2 c2 = some g → pr2 g := fun g hg => (hblk2 g hg).1
        have hws2 : w0.heap.size ≤ w2.heap.size := by omega
        have hrd2 : Rd pr2 w2 A (mcells ms) := hrd.world (fun q hq => (HK2 q hq).2) (fun q hq => (HK2 q hq).1)
        conv => whnf
        refine ⟨hi, ?_⟩
        conv => whnf
        refine xload_row tabOK (t := 32) rfl Mk.segs hrd2 hsz m.sok hm (i := i.k) (o := 0) (by rw [Int.toNat_natCast]; rfl) (by decide) ?_
        conv => whnf
        intro w1' g1' pr1' hg1' hlo1' hsame1' hs1' hsub1' hprg1' hprs1'
        conv => whnf
        rw [show (insK ms t i.k).length + 1 = (insK ms t i.k ++ [t]).length from (by rw [List.length_append]; rfl)]
        refine append_rule (base := w0.heap.size) (e := 32) (size := 3) (bytes := 3) (news := flat (m).segs) (by kernel_rfl) (by kernel_rfl) (by decide) (HO2.world fun g hg => hsame1' g (HP2 g hg)) (fun g hg => ⟨hsub1' g (HP2 g hg), .inl (HO2.block hg).1⟩) (rd_row hg1' hprg1') (segs_len m) (fun u hu => mcells_one [m] u (by simpa [mcells] using hu)) (by have := insK_len ms t hk; rw [List.length_append, List.length_singleton]; unfold maxLen; omega) (by have := insK_len ms t hk; rw [List.length_append, List.length_singleton]; omega) (by omega) ?_
        intro A2' c2' w2' pr2' hown2' hkeep2' hblk2' hs2' hprs2'
        have HK2' : ∀ q, q < w0.heap.size → pr2' q ∧ w2'.heap[q]? = w0.heap[q]? := fun q hq => by
          obtain ⟨p, e⟩ := HK2 q hq
          have h1 := hkeep2' q (hsub1' q p) (fun h => by have := (HO2.block h.symm).1; omega)
          exact ⟨h1.2, h1.1.trans ((hsame1' q p).trans e)⟩
        have HO2' : Own w2' w0.heap.size 32 3 A2' (insK ms t i.k ++ [t] ++ [m]).length c2' (mcells (insK ms t i.k ++ [t] ++ [m])) := by rw [mcells_snoc, List.length_append]; exact hown2'
        have HP2' : ∀ g, wblk A2' c2' = some g → pr2' g := fun g hg => (hblk2' g hg).1
        have hws2' : w0.heap.size ≤ w2'.heap.size := by omega
        conv => whnf
        have hE : insK ms t (i.k + 1) = (insK ms t i.k ++ [t]) ++ [m] := insK_now hm hd hf
        refine ⟨⟨i.k + 1, A2', c2', pr2', w2'⟩, ⟨by show i.k + 1 ≤ ms.length; omega, hno', ?_, HP2', hws2', HK2'⟩, by show ms.length - (i.k + 1) < ms.length - i.k; omega, ⟨i64_step (m := 10000) (by omega) (by omega), (by rw [doneB_succ hm, hd, hf]; rfl), ?_, rfl, rfl, rfl, rfl, trivial⟩, ⟨rfl, rfl, rfl, trivial⟩, rfl, fun _ h => h, rfl⟩
        · show Own w2' _ 32 3 A2' (insK ms t (i.k + 1)).length c2' (mcells (insK ms t (i.k + 1)))
          rw [hE]; exact HO2'
        · show SV.v _ = SV.v (.slice A2' (insK ms t (i.k + 1)).length c2')
          rw [hE, show ((insK ms t i.k ++ [t]) ++ [m]).length = (insK ms t i.k ++ [t]).length + 1 from List.length_append]
      · conv => whnf
        have hf : before t m = true := by simp only [before]; rw [hf]; rfl
        refine ⟨hi, ?_⟩
        conv => whnf
        refine xload_row tabOK (t := 32) rfl Mk.segs hrd1 hsz m.sok hm (i := i.k) (o := 0) (by rw [Int.toNat_natCast]; rfl) (by decide) ?_
        conv => whnf
        intro w1 g1 pr1 hg1 hlo1 hsame1 hs1 hsub1 hprg1 hprs1
        conv => whnf
        refine append_rule (base := w0.heap.size) (e := 32) (size := 3) (bytes := 3) (news := flat (m).segs) (by kernel_rfl) (by kernel_rfl) (by decide) (hown.world fun g hg => hsame1 g (hp g hg)) (fun g hg => ⟨hsub1 g (hp g hg), .inl (hown.block hg).1⟩) (rd_row hg1 hprg1) (segs_len m) (fun u hu => mcells_one [m] u (by simpa [mcells] using hu)) (by have := insK_len ms t hk; unfold maxLen; omega) (by have := insK_len ms t hk; omega) (by omega) ?_
        intro A2 c2 w2 pr2 hown2 hkeep2 hblk2 hs2 hprs2
        have HK2 : ∀ q, q < w0.heap.size → pr2 q ∧ w2.heap[q]? = w0.heap[q]? := fun q hq => by
          obtain ⟨p, e⟩ := hkeep q hq
          have h1 := hkeep2 q (hsub1 q p) (fun h => by have := (hown.block h.symm).1; omega)
          exact ⟨h1.2, h1.1.trans ((hsame1 q p).trans e)⟩
        have HO2 : Own w2 w0.heap.size 32 3 A2 (insK ms t i.k ++ [m]).length c2 (mcells (insK ms t i.k ++ [m])) := by rw [mcells_snoc, List.length_append]; exact hown2
        have HP2 : ∀ g, wblk A2 c2 = some g → pr2 g := fun g hg => (hblk2 g hg).1
        have hws2 : w0.heap.size ≤ w2.heap.size := by omega
        conv => whnf
        have hE : insK ms t (i.k + 1) = (insK ms t i.k) ++ [m] := insK_more hm hd hf
        refine ⟨⟨i.k + 1, A2, c2, pr2, w2⟩, ⟨by show i.k + 1 ≤ ms.length; omega, hno', ?_, HP2, hws2, HK2⟩, by show ms.length - (i.k + 1) < ms.length - i.k; omega, ⟨i64_step (m := 10000) (by omega) (by omega), (by rw [doneB_succ hm, hd, hf]; rfl), ?_, rfl, rfl, rfl, rfl, trivial⟩, ⟨rfl, rfl, rfl, trivial⟩, rfl, fun _ h => h, rfl⟩
        · show Own w2 _ 32 3 A2 (insK ms t (i.k + 1)).length c2 (mcells (insK ms t (i.k + 1)))
          rw [hE]; exact HO2
        · show SV.v _ = SV.v (.slice A2 (insK ms t (i.k + 1)).length c2)
          rw [hE, show ((insK ms t i.k) ++ [m]).length = (insK ms t i.k).length + 1 from List.length_append]
    · conv => whnf
      have hd : doneB ms t i.k = true := by simpa using hd
      refine ⟨hi, ?_⟩
      conv => whnf
      refine xload_row tabOK (t := 32) rfl Mk.segs hrd1 hsz m.sok hm (i := i.k) (o := 0) (by rw [Int.toNat_natCast]; rfl) (by decide) ?_
      conv => whnf
      intro w1 g1 pr1 hg1 hlo1 hsame1 hs1 hsub1 hprg1 hprs1
      conv => whnf
      refine append_rule (base := w0.heap.size) (e := 32) (size := 3) (bytes := 3) (news := flat (m).segs) (by kernel_rfl) (by kernel_rfl) (by decide) (hown.world fun g hg => hsame1 g (hp g hg)) (fun g hg => ⟨hsub1 g (hp g hg), .inl (hown.block hg).1⟩) (rd_row hg1 hprg1) (segs_len m) (fun u hu => mcells_one [m] u (by simpa [mcells] using hu)) (by have := insK_len ms t hk; unfold maxLen; omega) (by have := insK_len ms t hk; omega) (by omega) ?_
      intro A2 c2 w2 pr2 hown2 hkeep2 hblk2 hs2 hprs2
      have HK2 : ∀ q, q < w0.heap.size → pr2 q ∧ w2.heap[q]? = w0.heap[q]? := fun q hq => by
        obtain ⟨p, e⟩ := hkeep q hq
        have h1 := hkeep2 q (hsub1 q p) (fun h => by have := (hown.block h.symm).1; omega)
        exact ⟨h1.2, h1.1.trans ((hsame1 q p).trans e)⟩
      have HO2 : Own w2 w0.heap.size 32 3 A2 (insK ms t i.k ++ [m]).length c2 (mcells (insK ms t i.k ++ [m])) := by rw [mcells_snoc, List.length_append]; exact hown2
      have HP2 : ∀ g, wblk A2 c2 = some g → pr2 g := fun g hg => (hblk2 g hg).1
      have hws2 : w0.heap.size ≤ w2.heap.size := by omega
      conv => whnf
      have hE : insK ms t (i.k + 1) = (insK ms t i.k) ++ [m] := insK_done hm hd
      refine ⟨⟨i.k + 1, A2, c2, pr2, w2⟩, ⟨by show i.k + 1 ≤ ms.length; omega, hno', ?_, HP2, hws2, HK2⟩, by show ms.length - (i.k + 1) < ms.length - i.k; omega, ⟨i64_step (m := 10000) (by omega) (by omega), (by rw [doneB_succ hm, hd]; rfl), ?_, rfl, rfl, rfl, rfl, trivial⟩, ⟨rfl, rfl, rfl, trivial⟩, rfl, fun _ h => h, rfl⟩
      · show Own w2 _ 32 3 A2 (insK ms t (i.k + 1)).length c2 (mcells (insK ms t (i.k + 1)))
        rw [hE]; exact HO2
      · show SV.v _ = SV.v (.slice A2 (insK ms t (i.k + 1)).length c2)
        rw [hE, show ((insK ms t i.k) ++ [m]).length = (insK ms t i.k).length + 1 from List.length_append]
  · conv => whnf
    have hk' : i.k = ms.length := by have := of_decide_eq_false hc; omega
    have hany : ms.any (fun m => decide (m.who = t.who)) = false := by
      rw [List.any_eq_false]
      intro m hm
      obtain ⟨j, hj⟩ := List.mem_iff_getElem?.1 hm
      have := hno j m hj (by rw [hk']; exact (List.getElem?_eq_some_iff.1 hj).1)
      simpa using this
    have htk : ms.take i.k = ms := by rw [hk', List.take_length]
    have fin2 : ∀ {tm : List (Nat × SV)} {bl : List (Nat × (List Seg × TypeId))} {A2 : Option Addr} {c2 : Nat} {L : List Mk} {pr2 : Nat → Prop} {w2 : World}, (applyS v M t.add t.id).2 = 0 → L = insS ms t → Own w2 w0.heap.size 32 3 A2 L.length c2 (mcells L) → (∀ g, wblk A2 c2 = some g → pr2 g) → FinVC (.of w0) (PutRR v M A c ms (putS v M ms t) w0) ⟨tm, bl, [], pr2, w2⟩ [bx v M A2 L.length c2, .v (.int .i64 0)] := fun {tm bx A2 c2 L pr2 w2} hfit hL hO hP => by
      subst hL
      have hput : putS v M ms t = (insS ms t, 0) := by simp only [putS, ha, hb, hany, hfit, if_true, Bool.false_eq_true, if_false]
      rw [hput]
      refine ⟨fun ad w hw => ⟨.inr ⟨A2, c2, rfl, ?_⟩, hw.bel.below⟩⟩
      intro j u hj
      obtain ⟨a, haa, hpa, hcell⟩ := (hO.rd (pr := fun g => wblk A2 c2 = some g) (fun g hg => hg)) j u hj
      have h3 := hO.block hpa
      have h4 := hw.pl _ (hP _ hpa)
      have h5 : w2.heap.size ≤ w.heap.size := hw.sn
      have h6 : a.block < w2.heap.size := h4.1
      exact ⟨a, haa, ⟨h3.1, by omega⟩, (cell_same (by rw [add_block]; exact h4.2)).trans hcell⟩
    refine ⟨fun hd => ?_, fun hd => ?_⟩
    · conv => whnf
      have hd : doneB ms t i.k = false := by simpa using hd
      intro w1 g1 pr1 hg1 hlo1 hsame1 hs1 hsub1 hprg1 hprs1
      conv => whnf
      refine append_rule (base := w0.heap.size) (e := 32) (size := 3) (bytes := 3) (news := flat (t).segs) (by kernel_rfl) (by kernel_rfl) (by decide) (hown.world fun g hg => hsame1 g (hp g hg)) (fun g hg => ⟨hsub1 g (hp g hg), .inl (hown.block hg).1⟩) (rd_row hg1 hprg1) (segs_len t) (fun u hu => mcells_one [t] u (by simpa [mcells] using hu)) (by have := insK_len ms t hk; unfold maxLen; omega) (by have := insK_len ms t hk; omega) (by omega) ?_
      intro A2 c2 w2 pr2 hown2 hkeep2 hblk2 hs2 hprs2
      have HK2 : ∀ q, q < w0.heap.size → pr2 q ∧ w2.heap[q]? = w0.heap[q]? := fun q hq => by
        obtain ⟨p, e⟩ := hkeep q hq
        have h1 := hkeep2 q (hsub1 q p) (fun h => by have := (hown.block h.symm).1; omega)
        exact ⟨h1.2, h1.1.trans ((hsame1 q p).trans e)⟩
      have HO2 : Own w2 w0.heap.size 32 3 A2 (insK ms t i.k ++ [t]).length c2 (mcells (insK ms t i.k ++ [t])) := by rw [mcells_snoc, List.length_append]; exact hown2
      have HP2 : ∀ g, wblk A2 c2 = some g → pr2 g := fun g hg => (hblk2 g hg).1
      have hws2 : w0.heap.size ≤ w2.heap.size := by omega
      conv => whnf
      refine call_det (apV v M t) ent31 (fun ad w _ => applyR_calls h0 h1 ht.2.1 ht.2.2 w ad) ⟨⟨rfl, rfl, trivial⟩, rfl, trivial⟩ ?_
      conv => whnf
      refine ⟨fun hf => ?_, fun hf => ?_⟩
      · conv => whnf
        have hf : (applyS v M t.add t.id).2 ≠ 0 := by simpa using hf
        exact fin (by simp only [putS, ha, hb, hany, hf, if_true, Bool.false_eq_true, if_false])
      · conv => whnf
        have hf : (applyS v M t.add t.id).2 = 0 := by simpa using hf
        rw [show (insK ms t i.k).length + 1 = (insK ms t i.k ++ [t]).length from (by rw [List.length_append]; rfl)]
        refine fin2 hf ?_ HO2 HP2
        have hd2 := hd
        unfold doneB at hd2
        simp only [insK, hd, Bool.false_eq_true, if_false]
        rw [htk] at hd2 ⊢
        exact (ins_end hd2).symm
    · conv => whnf
      have hd : doneB ms t i.k = true := by simpa using hd
      conv => whnf
      refine call_det (apV v M t) ent31 (fun ad w _ => applyR_calls h0 h1 ht.2.1 ht.2.2 w ad) ⟨⟨rfl, rfl, trivial⟩, rfl, trivial⟩ ?_
      conv => whnf
      refine ⟨fun hf => ?_, fun hf => ?_⟩
      · conv => whnf
        have hf : (applyS v M t.add t.id).2 ≠ 0 := by simpa using hf
        exact fin (by simp only [putS, ha, hb, hany, hf, if_true, Bool.false_eq_true, if_false])
      · conv => whnf
        have hf : (applyS v M t.add t.id).2 = 0 := by simpa using hf
        refine fin2 hf ?_ hown hp
        simp only [insK, hd, if_true]
        rw [htk]
end Go.Proofs.Ytcgkeepihinegaa
