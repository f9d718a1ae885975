/-
  Put, walked.
-/
import Derived.Test.YtcgkeepihinegaaH
set_option linter.unusedVariables false
set_option linter.unusedSimpArgs false
namespace Go.Proofs.Ytcgkeepihinegaa
open Go Go.Sx Go.RowKit
set_option maxHeartbeats 1000000
set_option maxRecDepth 20000
def before (t : Mk) (m : Mk) : Bool := !decide (t.who < m.who)
def insS (ms : List Mk) (t : Mk) : List Mk := ms.takeWhile (before t) ++ t :: ms.dropWhile (before t)
def putS (v M : Int) (ms : List Mk) (t : Mk) : List Mk × Int :=
  if rightB v M ms = true then
    if hasB M t.who = true then
      if ms.any (fun m => decide (m.who = t.who)) = true then (ms, 9)
      else if (applyS v M t.add t.id).2 = 0 then (insS ms t, 0) else (ms, (applyS v M t.add t.id).2)
    else (ms, 10)
  else (ms, 2)
theorem sorted_of {v M : Int} {ms : List Mk} (h : rightB v M ms = true) : Sorted ms := by
  simp only [rightB, Bool.and_eq_true, List.all_eq_true, List.mem_range] at h
  have step : ∀ (j : Nat) (p q : Mk), ms[j]? = some p → ms[j + 1]? = some q → p.who < q.who := fun j p q hp hq => by
    have := h.1 (j + 1) (List.getElem?_eq_some_iff.1 hq).1
    simp only [at1, hq, hp, Bool.and_eq_true, decide_eq_true_eq] at this
    exact this.2
  intro i j p q hij hp hq
  obtain ⟨d, rfl⟩ : ∃ d, j = i + 1 + d := ⟨j - (i + 1), by omega⟩
  induction d generalizing q with
  | zero => exact step i p q hp hq
  | succ d ih =>
    have hlt := (List.getElem?_eq_some_iff.1 hq).1
    obtain ⟨r, hr⟩ : ∃ r, ms[i + 1 + d]? = some r := ⟨_, List.getElem?_eq_getElem (by omega)⟩
    have h1 := ih r (by omega) hr
    have h2 := step (i + 1 + d) r q hr hq
    omega
theorem while_at {α : Type} {q : α → Bool} : ∀ {l : List α} {p : Nat}, (∀ (j : Nat) (x : α), l[j]? = some x → j < p → q x = true) → (∀ x, l[p]? = some x → q x = false) → p ≤ l.length → l.takeWhile q = l.take p ∧ l.dropWhile q = l.drop p
  | [], p, _, _, hp => by simp at hp; subst hp; simp
  | x :: r, 0, _, h2, _ => by
    have := h2 x rfl
    simp [List.takeWhile_cons, List.dropWhile_cons, this]
  | x :: r, p + 1, h1, h2, hp => by
    have hx := h1 0 x rfl (by omega)
    have := while_at (l := r) (p := p) (q := q) (fun j y hj hl => h1 (j + 1) y (by simpa using hj) (by omega)) (fun y hy => h2 y (by simpa using hy)) (by simpa using hp)
    simp [List.takeWhile_cons, List.dropWhile_cons, hx, this.1, this.2]
theorem found_any {ms : List Mk} {t : Int} {p : Nat} {b : Bool} (hs : Sorted ms) (h : Found ms t p b) : b = ms.any (fun m => decide (m.who = t)) := by
  obtain ⟨h0, h1, h2, h3⟩ := h
  cases hb : b
  · symm
    rw [List.any_eq_false]
    intro m hm
    simp only [decide_eq_true_eq]
    intro e
    obtain ⟨j, hj⟩ := List.mem_iff_getElem?.1 hm
    rw [hb] at h3
    have hpj : p ≤ j := by
      rcases Nat.lt_or_ge j p with h | h
      · have := h1 j m hj h; omega
      · exact h
    have hlt := (List.getElem?_eq_some_iff.1 hj).1
    obtain ⟨q, hq⟩ : ∃ q, ms[p]? = some q := ⟨_, List.getElem?_eq_getElem (by omega)⟩
    have h4 := h2 p q hq (Nat.le_refl _)
    have h5 : q.who = t := by
      rcases Nat.lt_or_ge p j with h | h
      · have := hs p j q m h hq hj; omega
      · have : p = j := by omega
        subst this; rw [hq] at hj; cases hj; exact e
    exact absurd (h3.2 ⟨q, hq, h5⟩) (by simp)
  · symm
    rw [List.any_eq_true]
    obtain ⟨m, hm, he⟩ := h3.1 hb
    exact ⟨m, List.mem_of_getElem? hm, by simpa using he⟩
theorem found_ins {ms : List Mk} {t : Mk} {p : Nat} (h : Found ms t.who p false) : insS ms t = ms.take p ++ t :: ms.drop p := by
  obtain ⟨h0, h1, h2, h3⟩ := h
  have := while_at (l := ms) (q := before t) (p := p) (fun j x hj hl => by have := h1 j x hj hl; simp only [before]; rw [decide_eq_false (by omega)]; rfl) (fun x hx => by
    have h4 := h2 p x hx (Nat.le_refl _)
    have h5 : x.who ≠ t.who := fun e => by have := h3.2 ⟨x, hx, e⟩; cases this
    simp only [before]; rw [decide_eq_true (by omega)]; rfl) h0
  rw [insS, this.1, this.2]
def PutR (v M : Int) (r : List Mk × Int) (w : World) (e : Ending) (w' : World) : Prop :=
  (∃ A c, e = .returned (retV [(bx v M A r.1.length c).den id, .int .i64 r.2]) ∧ Rd (fun g => w.heap.size ≤ g ∧ g < w'.heap.size) w' A (mcells r.1)) ∧ Below w.heap.size w w'
theorem ent24 : Ent Try.prog 24 := by unfold Ent; kernel_rfl
theorem ent25 : Ent Try.prog 25 := by unfold Ent; kernel_rfl
theorem ent26 : Ent Try.prog 26 := by unfold Ent; kernel_rfl
theorem ent29 : Ent Try.prog 29 := by unfold Ent; kernel_rfl
theorem put_calls {v M : Int} (h0 : 0 ≤ M) (h1 : M < 65536) {A : Option Addr} {c : Nat} {ms : List Mk} {t : Mk} (hms : ∀ m ∈ ms, m.Ok) (ht : t.Ok) (w0 : World) (hrd : Rd (fun g => g < w0.heap.size) w0 A (mcells ms)) (hn : ms.length < 10000) : ∀ ad, Calls Try.prog 9 (SV.dens ad [bx v M A ms.length c, .agg t.segs]).toArray w0 (PutR v M (putS v M ms t) w0) := by
  refine calls_sound tabOK Try.func9 rfl (by kernel_rfl) (Nat.le_of_ble_eq_true rfl) ⟨⟨rfl, rfl, rfl, trivial⟩, t.sok, trivial⟩ ?_
  conv => whnf
  refine call_new (fun _ w => CloneR ms w) ent24 (fun ad w hw => clone_calls hms w (hw.rd hrd) (by omega) ad) ?_
  rintro ad0 wa e wb hwa ⟨⟨A1, c1, rfl, hown⟩, hbb⟩
  refine ⟨.v (.slice A1 ms.length c1), rfl, rfl, hbb, fun pr1 hsame hsn hsub hnew hprs => ?_⟩
  have hwsz : w0.heap.size ≤ wa.heap.size := hwa.bel.size
  have hp1 : ∀ g, wblk A1 c1 = some g → pr1 g := fun g hg => hnew g (hown.block hg).1 (hown.block hg).2.1
  have hrd1 : Rd pr1 wb A1 (mcells ms) := hown.rd hp1
  -- what an early end hands back
  have fin : ∀ {tm : List (Nat × SV)} {bl : List (Nat × (List Seg × TypeId))} {r : List Mk × Int}, r.1 = ms → putS v M ms t = r → FinVC (.of w0) (PutR v M (putS v M ms t) w0) ⟨tm, bl, [], pr1, wb⟩ [bx v M A1 ms.length c1, .v (.int .i64 r.2)] := fun {tm bl r} hr1 hr2 => by
    refine ⟨fun ad w hw => ⟨⟨A1, c1, by rw [hr2, hr1]; rfl, ?_⟩, hw.bel.below⟩⟩
    rw [hr2, hr1]
    intro j u hj
    obtain ⟨a, ha, hpa, hcell⟩ := (hown.rd (pr := fun g => wblk A1 c1 = some g) (fun g hg => hg)) j u hj
    have h3 := hown.block hpa
    have h4 := hw.pl _ (hp1 _ hpa)
    have h5 := hw.sn
    have h6 : a.block < wb.heap.size := h4.1
    have h7 : wb.heap.size ≤ w.heap.size := h5
    exact ⟨a, ha, ⟨Nat.le_trans hwsz h3.1, by omega⟩, (cell_same (by rw [add_block]; exact h4.2)).trans hcell⟩
  conv => whnf
  refine call_det (.v (.bool (rightB v M ms))) ent25 (fun ad w hw => right_calls h0 h1 hms w (hw.rd hrd1) (by omega) ad) rfl ?_
  conv => whnf
  refine ⟨fun ha => ?_, fun ha => ?_⟩
  · conv => whnf
    have ha : rightB v M ms = false := by simpa using ha
    exact fin (r := (ms, 2)) rfl (by simp [putS, ha])
  · conv => whnf
    have ha : rightB v M ms = true := by simpa using ha
    have hso := sorted_of ha
    refine call_ex (fun x => ∃ (p : Nat) (b : Bool), x = .tup [.v (.int .i64 p), .v (.bool b)] ∧ Found ms t.who p b) ent26 (fun ad w hw => (search_calls hms ht hso w (hw.rd hrd1) (by omega) ad).mono fun e w' => ?_) ?_
    · rintro ⟨⟨p, b, rfl, hf⟩, hb⟩
      exact ⟨⟨.tup [.v (.int .i64 p), .v (.bool b)], rfl, ⟨rfl, rfl, trivial⟩, p, b, rfl, hf⟩, hb⟩
    rintro x ⟨p, b, rfl, hf⟩
    conv => whnf
    refine call_det (.v (.bool (hasB M t.who))) ent28 (fun ad w _ => has_calls h0 h1 ht.1.1 w ad) rfl ?_
    conv => whnf
    refine ⟨fun hb => ?_, fun hb => ?_⟩
    · conv => whnf
      have hb : hasB M t.who = false := by simpa using hb
      exact fin (r := (ms, 10)) rfl (by simp [putS, ha, hb])
    · conv => whnf
      have hb : hasB M t.who = true := by simpa using hb
      have hany := found_any hso hf
      refine ⟨fun hc => ?_, fun hc => ?_⟩
      · conv => whnf
        rw [hc] at hany
        exact fin (r := (ms, 9)) rfl (by simp only [putS, ha, hb, ← hany, if_true])
      · conv => whnf
        rw [hc] at hany hf
        refine call_det (apV v M t) ent20 (fun ad w _ => apply_calls h0 h1 ht.2.1 ht.2.2 w ad) ⟨⟨rfl, rfl, trivial⟩, rfl, trivial⟩ ?_
        conv => whnf
        refine ⟨fun hd => ?_, fun hd => ?_⟩
        · conv => whnf
          have hd : (applyS v M t.add t.id).2 ≠ 0 := by simpa using hd
          exact fin (r := (ms, (applyS v M t.add t.id).2)) rfl (by simp only [putS, ha, hb, ← hany, hd, if_true, Bool.false_eq_true, if_false])
        · conv => whnf
          have hd : (applyS v M t.add t.id).2 = 0 := by simpa using hd
          intro wc gb pr2 hgb hlob hsame2 hsz2 hsub2 hprb hprs2
          conv => whnf
          have hown2 : Own wc wa.heap.size 44 3 A1 ms.length c1 (mcells ms) := hown.world fun g hg => hsame2 g (hp1 g hg)
          have hne : wblk A1 c1 ≠ some gb := fun e => by have := (hown.block e).2.1; omega
          refine call_mod (fun q => wblk A1 c1 = some q) rfl (InsR A1 c1 ms (ms.take p ++ t :: ms.drop p)) ent29 (fun q hq => ⟨hsub2 q (hp1 q hq), .inl (Nat.le_trans hwsz (hown.block hq).1)⟩) (fun ad w hw => insert_calls hms ht hf.1 w ((hown2.base (Nat.zero_le _)).world fun g hg => (hw.pl g (hsub2 g (hp1 g hg))).2) ((hw.pl gb hprb).2.trans hgb) hne (by omega) ad) ?_
          rintro ad w e w' hw ⟨⟨A', c', rfl, hown', hblk'⟩, hbx⟩
          refine ⟨.v (.slice A' (ms.length + 1) c'), rfl, rfl, hbx, fun pr3 hsame3 hsn3 hsub3 hnew3 hprs3 => ?_⟩
          have hbs : w.heap.size ≤ w'.heap.size := hbx.size
          conv => whnf
          have hput : putS v M ms t = (insS ms t, 0) := by simp only [putS, ha, hb, ← hany, hd, if_true, Bool.false_eq_true, if_false]
          have hlen : (insS ms t).length = ms.length + 1 := by
            rw [found_ins hf, List.length_append, List.length_cons, List.length_take, List.length_drop, Nat.min_eq_left hf.1]
            have := hf.1; omega
          refine ⟨fun ad2 w2 hw2 => ⟨⟨A', c', by rw [hput]; simp only [hlen]; rfl, ?_⟩, hw2.bel.below⟩⟩
          rw [hput]
          show Rd _ w2 A' (mcells (insS ms t))
          rw [found_ins hf]
          intro j u hj
          obtain ⟨a, haa, hpa, hcell⟩ := (hown'.rd (pr := fun g => wblk A' c' = some g) (fun g hg => hg)) j u hj
          have h3 := hown'.block hpa
          have h9 : w0.heap.size ≤ a.block ∧ pr3 a.block := by
            rcases hblk' _ hpa with h | h
            · exact ⟨Nat.le_trans hwsz (hown.block h).1, hsub3 _ (hsub2 _ (hp1 _ h))⟩
            · have h10 : w0.heap.size ≤ w.heap.size := hw.bel.size
              exact ⟨by omega, hnew3 _ h h3.2.1⟩
          have h4 := hw2.pl _ h9.2
          have h5 := hw2.sn
          have h6 : a.block < w'.heap.size := h4.1
          have h7 : w'.heap.size ≤ w2.heap.size := h5
          exact ⟨a, haa, ⟨h9.1, by omega⟩, (cell_same (by rw [add_block]; exact h4.2)).trans hcell⟩
end Go.Proofs.Ytcgkeepihinegaa
