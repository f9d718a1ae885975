/-
  BallotAlike: for every view and every two lists of casts the law returns true: walked, and told as the statement says it.
-/
import Derived.Test.YtcgkeepihinegaaQ
import Derived.Test.YtcgkeepihinegaaR
set_option linter.unusedVariables false
set_option linter.unusedSimpArgs false
namespace Go.Proofs.Ytcgkeepihinegaa
open Go Go.Sx Go.RowKit
set_option maxHeartbeats 1000000
set_option maxRecDepth 20000
theorem fine_roll {v M : Int} {ms : List Mk} (h : Fine v M ms) : rightB v M ms = rollB v M := by
  rcases h with h | ⟨h, rfl⟩
  · rw [h, (right_iff.1 h).2.2]
  · rw [h]
    cases hr : rightB v M []
    · rfl
    · rw [(right_iff.1 hr).2.2] at h; cases h
theorem put_zero {v M : Int} {ms : List Mk} {t : Mk} : (putS v M ms t).2 = 0 ↔ rightB v M ms = true ∧ okc v M t = true ∧ ∀ m ∈ ms, m.who ≠ t.who := by
  constructor
  · intro h
    obtain ⟨h1, h2, h3, _⟩ := put_ok h
    exact ⟨h1, h2, fun m hm => by simpa using List.any_eq_false.1 h3 m hm⟩
  · rintro ⟨h1, h2, h3⟩
    obtain ⟨g1, g2⟩ := who_has h2
    have : (ms.any fun m => decide (m.who = t.who)) = false := List.any_eq_false.2 fun m hm => by simpa using h3 m hm
    simp [putS, h1, g1, g2, this]
/-- But for those of O, the two boxes have the same. -/
def Alike (O a b : List Mk) : Prop := ∀ x : Mk, (∀ o ∈ O, o.who ≠ x.who) → (x ∈ a ↔ x ∈ b)
theorem put_mem {v M : Int} {ms : List Mk} {t x : Mk} : x ∈ (putS v M ms t).1 ↔ ((putS v M ms t).2 = 0 ∧ x = t) ∨ x ∈ ms := by
  by_cases hz : (putS v M ms t).2 = 0
  · rw [(put_ok hz).2.2.2, insS_mem]
    simp [hz]
  · rw [put_not hz]; simp [hz]
theorem alike_put {v M : Int} {O a b : List Mk} (t : Mk) (ha : Fine v M a) (hb : Fine v M b) (h : Alike O a b) : Alike O (putS v M a t).1 (putS v M b t).1 := by
  intro x hx
  rw [put_mem, put_mem, h x hx]
  by_cases hxt : x = t
  · subst hxt
    have : (putS v M a x).2 = 0 ↔ (putS v M b x).2 = 0 := by
      rw [put_zero, put_zero, fine_roll ha, fine_roll hb]
      have e : (∀ m ∈ a, m.who ≠ x.who) ↔ ∀ m ∈ b, m.who ≠ x.who := by
        constructor
        · intro g m hm he
          exact g m ((h m fun o ho => by rw [he]; exact hx o ho).2 hm) he
        · intro g m hm he
          exact g m ((h m fun o ho => by rw [he]; exact hx o ho).1 hm) he
      rw [e]
    rw [this]
  · simp [hxt]
theorem who_le {a b : List Mk} (ha : Sorted a) (hb : Sorted b) (wa : ∀ m ∈ a, 0 ≤ m.who ∧ m.who < 16) (wb : ∀ m ∈ b, 0 ≤ m.who ∧ m.who < 16) (h : ∀ m ∈ a, ∃ x ∈ b, x.who = m.who) : a.length ≤ b.length := by
  rw [who_count ha wa, who_count hb wb]
  refine (filter_sub fun i hi => ?_).1
  obtain ⟨m, hm, he⟩ := List.any_eq_true.1 hi
  obtain ⟨x, hx, hw⟩ := h m hm
  exact List.any_eq_true.2 ⟨x, hx, by rw [decide_eq_true_eq] at he ⊢; omega⟩
theorem filter_two (p q : Mk → Bool) : ∀ l : List Mk, (l.filter p).length = (l.filter fun m => p m && q m).length + (l.filter fun m => p m && !q m).length
  | [] => rfl
  | m :: r => by
    have ih := filter_two p q r
    simp only [List.filter_cons]
    cases p m <;> cases q m <;> simp <;> omega
/-- No two unlike changes. -/
theorem alike_one {v M : Int} {O a b : List Mk} (oka : ∀ m ∈ a, m.Ok) (okb : ∀ m ∈ b, m.Ok) (okO : ∀ m ∈ O, m.Ok) (hO : Fine v M O) (hlen : (O.length : Int) ≤ faultyB (sizeB M)) (h : Alike O a b) (h1 : (chS v M a).2 = true) (h2 : (chS v M b).2 = true) : (chS v M a).1 = (chS v M b).1 := by
  obtain ⟨x, hx, ex, cx⟩ := ch_some h1
  obtain ⟨y, hy, ey, cy⟩ := ch_some h2
  rw [cx, cy]
  have ra := enough_right ex
  have rb := enough_right ey
  have n1 := (enough_iff oka ra x).1 ex
  have n2 := (enough_iff okb rb y).1 ey
  obtain ⟨a1, a2, a3⟩ := right_iff.1 ra
  obtain ⟨b1, b2, b3⟩ := right_iff.1 rb
  apply Classical.byContradiction
  intro hne
  have hne2 : ¬ (x.add = y.add ∧ x.id = y.id) := fun e => hne (by rw [e.1, e.2])
  have rO : rightB v M O = true := by rw [fine_roll hO]; exact a3
  obtain ⟨o1, o2, o3⟩ := right_iff.1 rO
  have wa : ∀ m ∈ a, 0 ≤ m.who ∧ m.who < 16 := fun m hm => ⟨(oka m hm).1.1, has_lt (who_has (a1 m hm)).1⟩
  have wb : ∀ m ∈ b, 0 ≤ m.who ∧ m.who < 16 := fun m hm => ⟨(okb m hm).1.1, has_lt (who_has (b1 m hm)).1⟩
  have wO : ∀ m ∈ O, 0 ≤ m.who ∧ m.who < 16 := fun m hm => ⟨(okO m hm).1.1, has_lt (who_has (o1 m hm)).1⟩
  have s1 := filter_two (wants x.add x.id) (fun m => O.any fun o => decide (o.who = m.who)) a
  have l1 : (a.filter fun m => wants x.add x.id m && O.any fun o => decide (o.who = m.who)).length ≤ O.length :=
    who_le (sorted_filter _ a2) o2 (fun m hm => wa m (List.mem_filter.1 hm).1) wO fun m hm => by
      have := (List.mem_filter.1 hm).2
      simp only [Bool.and_eq_true, List.any_eq_true, decide_eq_true_eq] at this
      exact this.2
  have l2 : (a.filter fun m => wants x.add x.id m && !O.any fun o => decide (o.who = m.who)).length ≤ (b.filter (wants x.add x.id)).length :=
    who_le (sorted_filter _ a2) (sorted_filter _ b2) (fun m hm => wa m (List.mem_filter.1 hm).1) (fun m hm => wb m (List.mem_filter.1 hm).1) fun m hm => by
      obtain ⟨g1, g2⟩ := List.mem_filter.1 hm
      simp only [Bool.and_eq_true, Bool.not_eq_true'] at g2
      refine ⟨m, List.mem_filter.2 ⟨(h m fun o ho e => ?_).1 g1, g2.1⟩, rfl⟩
      have := List.any_eq_false.1 g2.2 o ho
      simp [e] at this
  have l3 := two_wants hne2 b
  have l4 := right_len okb rb
  have l5 := echoes_big (size_le M)
  omega
def putsL (v M : Int) (l : List Mk) (s : List Mk) : List Mk := l.foldl (fun acc t => (putS v M acc t).1) s
theorem putsL_succ {v M : Int} {l s : List Mk} {k : Nat} {m : Mk} (hm : l[k]? = some m) : putsL v M (l.take (k + 1)) s = (putS v M (putsL v M (l.take k) s) m).1 := by
  unfold putsL; rw [take_step hm, List.foldl_append]; rfl
theorem putsL_ok (v M : Int) {l s : List Mk} (h : ∀ m ∈ l, m.Ok) (hs : ∀ m ∈ s, m.Ok) (hf : Fine v M s) : ∀ k, k ≤ l.length → (∀ m ∈ putsL v M (l.take k) s, m.Ok) ∧ (putsL v M (l.take k) s).length ≤ s.length + k ∧ Fine v M (putsL v M (l.take k) s)
  | 0, _ => ⟨fun m hm => hs m (by simpa [putsL] using hm), by simp [putsL], by simpa [putsL] using hf⟩
  | k + 1, hk => by
    obtain ⟨h1, h2, h3⟩ := putsL_ok v M h hs hf k (by omega)
    obtain ⟨m, hm⟩ : ∃ m, l[k]? = some m := ⟨_, List.getElem?_eq_getElem (by omega)⟩
    rw [putsL_succ hm]
    refine ⟨putS_ok h1 (h m (List.mem_of_getElem? hm)), ?_, fine_put m h3⟩
    have := putS_len v M (putsL v M (l.take k) s) m
    omega
structure VI where
  k : Nat
  A : Option Addr
  c : Nat
  pr : Nat → Prop
  sw : World
structure VJ where
  k : Nat
  A : Option Addr
  c : Nat
  B : Option Addr
  d : Nat
  pr : Nat → Prop
  sw : World
theorem ballotAlike_calls {v M : Int} (h0 : 0 ≤ M) (h1 : M < 65536) {A B : Option Addr} {c d : Nat} {l l2 : List Mk} (hl : ∀ m ∈ l, m.Ok) (hl2 : ∀ m ∈ l2, m.Ok) (w0 : World) (hrd : Rd (fun g => g < w0.heap.size) w0 A (mcells l)) (hrd2 : Rd (fun g => g < w0.heap.size) w0 B (mcells l2)) :
    ∀ ad, Calls Try.prog 6 (SV.dens ad [rol v M, .v (.slice A l.length c), .v (.slice B l2.length d)]).toArray w0 (Ret w0 (.bool true)) := by
  refine calls_sound tabOK Try.func6 rfl (by kernel_rfl) (Nat.le_of_ble_eq_true rfl) ⟨⟨rfl, rfl, trivial⟩, rfl, rfl, trivial⟩ ?_
  conv => whnf
  refine call_det (.lit true) (show Ent Try.prog 8 by unfold Ent; kernel_rfl) (fun ad w _ => alive_calls w ad) trivial ?_
  conv => whnf
  refine draw_rule tabOK mixed [4, 5] [7] pP6_3 [7, 8] (by kernel_rfl) (by kernel_rfl) ?_
  conv => whnf
  refine ⟨rfl, ?_⟩
  conv => whnf
  refine ⟨fun hc => ?_, fun hc => ?_⟩
  · conv => whnf
    exact fin_ret fun ad => rfl
  have hn : l.length ≤ 60 := by have := of_decide_eq_false hc; omega
  conv => whnf
  refine ⟨fun hc => ?_, fun hc => ?_⟩
  · conv => whnf
    exact fin_ret fun ad => rfl
  have hn2 : l2.length ≤ 60 := by have := of_decide_eq_false hc; omega
  conv => whnf
  refine loop_rule tabOK (by kernel_rfl) (fun i : VI => ⟨[(33, .v (.int .i64 i.k)), (32, .v (.int .i64 l2.length)), (31, .v (.slice B l2.length d)), (8, .ptr 8 0), (7, .ptr 7 0), (3, .ptr 3 0), (1, .v (.slice A l.length c))], [(8, ([.one (.int .i64 v), .one (.int .u16 M), .one (.slice i.A (rowS v M l2 i.k).length i.c)], 37)), (7, ([.one (.int .i64 v), .one (.int .u16 M), .one (.slice none 0 0)], 37)), (3, ([.one (.int .i64 v), .one (.int .u16 M)], 25))], [], i.pr, i.sw⟩)
    (fun i => i.k ≤ l2.length ∧ Rd i.pr i.sw i.A (mcells (rowS v M l2 i.k)) ∧ Rd i.pr i.sw A (mcells l) ∧ Rd i.pr i.sw B (mcells l2))
    (fun i => l2.length - i.k) ⟨0, none, 0, _, w0⟩ ⟨Nat.zero_le _, Rd.empty _ _ _, hrd, hrd2⟩ ⟨⟨rfl, rfl, rfl, rfl, rfl, rfl, rfl, trivial⟩, ⟨rfl, rfl, rfl, trivial⟩, rfl, fun _ h => h, rfl⟩ ?_
  intro i ⟨hk, hra, hrl, hrb⟩
  obtain ⟨hok, hlen, hfine⟩ := rowS_ok v M hl2 i.k hk
  conv => whnf
  refine ⟨fun hc => ?_, fun hc => ?_⟩
  · conv => whnf
    have hk' : i.k < l2.length := by have := of_decide_eq_true hc; omega
    obtain ⟨m, hm⟩ : ∃ m, l2[i.k]? = some m := ⟨_, List.getElem?_eq_getElem hk'⟩
    have hmk := hl2 m (List.mem_of_getElem? hm)
    have hi : (0 : Int) ≤ i.k ∧ (i.k : Int) < l2.length ∧ B ≠ none := ⟨by omega, by omega, some_of hrb hk'⟩
    refine ⟨hi, ?_⟩
    conv => whnf
    refine xload_row tabOK (t := 32) rfl Mk.segs hrb (fun x _ => segs_len x) m.sok hm (i := i.k) (o := 0) (by rw [Int.toNat_natCast]; rfl) (by decide) ?_
    conv => whnf
    refine draw_rule tabOK mixed [] [7] pP6_9 [] (by kernel_rfl) (by kernel_rfl) ?_
    conv => whnf
    refine call_det (.agg m.segs) ent11 (fun ad w _ => theirs1_calls m w ad) m.sok ?_
    conv => whnf
    refine put_rule h0 h1 hok hmk hra (by omega) fun A1 c1 w1 pr1 hr1 hk1 => ?_
    have hrl1 := Rd.keep hrl hk1
    have hrb1 := Rd.keep hrb hk1
    rw [← rowS_succ hm] at hr1 ⊢
    conv => whnf
    exact ⟨⟨i.k + 1, A1, c1, pr1, w1⟩, ⟨hk', hr1, hrl1, hrb1⟩, by show l2.length - (i.k + 1) < l2.length - i.k; omega, ⟨i64_step (m := 100) (by omega) (by omega), rfl, rfl, rfl, rfl, rfl, rfl, trivial⟩, ⟨rfl, rfl, rfl, trivial⟩, rfl, fun _ h => h, rfl⟩
  conv => whnf
  generalize rowS v M l2 i.k = O at hra hok hlen hfine ⊢
  refine draw_rule tabOK mixed [] [] pP6_11 [] (by kernel_rfl) (by kernel_rfl) ?_
  conv => whnf
  refine call_det (.v (.int .i64 (sizeB M))) ent19 (fun ad w _ => sizeR_calls h0 h1 w ad) rfl ?_
  conv => whnf
  refine call_det (.v (.int .i64 (faultyB (sizeB M)))) (show Ent Try.prog 22 by unfold Ent; kernel_rfl) (fun ad w _ => faultyR_calls _ w ad) rfl ?_
  conv => whnf
  refine ⟨fun hc => ?_, fun hf => ?_⟩
  · conv => whnf
    exact fin_ret fun ad => rfl
  have hf : (O.length : Int) ≤ faultyB (sizeB M) := by have := of_decide_eq_false hf; omega
  conv => whnf
  obtain ⟨k0, A0, c0, pr0, sw0⟩ := i
  simp only at hra hrl hlen hk ⊢
  refine loop_rule tabOK (by kernel_rfl) (fun i : VJ => ⟨[(55, .v (.int .i64 i.k)), (54, .v (.int .i64 l.length)), (53, .v (.slice A l.length c)), (8, .ptr 8 0), (7, .ptr 7 0)], [(8, ([.one (.int .i64 v), .one (.int .u16 M), .one (.slice i.B (putsL v M (l.take i.k) O).length i.d)], 37)), (7, ([.one (.int .i64 v), .one (.int .u16 M), .one (.slice i.A (rowS v M l i.k).length i.c)], 37))], [], i.pr, i.sw⟩)
    (fun i => i.k ≤ l.length ∧ Rd i.pr i.sw i.A (mcells (rowS v M l i.k)) ∧ Rd i.pr i.sw i.B (mcells (putsL v M (l.take i.k) O)) ∧ Rd i.pr i.sw A (mcells l) ∧ Alike O (rowS v M l i.k) (putsL v M (l.take i.k) O))
    (fun i => l.length - i.k) ⟨0, none, 0, A0, c0, _, sw0⟩ ⟨Nat.zero_le _, Rd.empty _ _ _, hra, hrl, fun x hx => ⟨fun h => by simp [rowS] at h, fun h => absurd rfl (hx x (by simpa [putsL] using h))⟩⟩ ⟨⟨rfl, rfl, rfl, rfl, rfl, trivial⟩, ⟨rfl, rfl, trivial⟩, rfl, fun _ h => h, rfl⟩ ?_
  clear hra hrl
  intro i ⟨hk, hra, hrb, hrl, hal⟩
  obtain ⟨hoka, hlena, hfina⟩ := rowS_ok v M hl i.k hk
  obtain ⟨hokb, hlenb, hfinb⟩ := putsL_ok v M hl hok hfine i.k hk
  conv => whnf
  refine ⟨fun hc => ?_, fun hc => ?_⟩
  · conv => whnf
    have hk' : i.k < l.length := by have := of_decide_eq_true hc; omega
    obtain ⟨m, hm⟩ : ∃ m, l[i.k]? = some m := ⟨_, List.getElem?_eq_getElem hk'⟩
    have hmk := hl m (List.mem_of_getElem? hm)
    have hi : (0 : Int) ≤ i.k ∧ (i.k : Int) < l.length ∧ A ≠ none := ⟨by omega, by omega, some_of hrl hk'⟩
    refine ⟨hi, ?_⟩
    conv => whnf
    refine xload_row tabOK (t := 32) rfl Mk.segs hrl (fun x _ => segs_len x) m.sok hm (i := i.k) (o := 0) (by rw [Int.toNat_natCast]; rfl) (by decide) ?_
    conv => whnf
    refine draw_rule tabOK mixed [] [7] pP6_16 [] (by kernel_rfl) (by kernel_rfl) ?_
    conv => whnf
    refine call_det (.agg m.segs) ent11 (fun ad w _ => theirs1_calls m w ad) m.sok ?_
    conv => whnf
    refine put_rule h0 h1 hoka hmk hra (by omega) fun A1 c1 w1 pr1 hr1 hk1 => ?_
    have hrl1 := Rd.keep hrl hk1
    have hrb1 := Rd.keep hrb hk1
    conv => whnf
    refine draw_rule tabOK mixed [] [7] pP6_17 [] (by kernel_rfl) (by kernel_rfl) ?_
    conv => whnf
    refine call_det (.agg m.segs) ent11 (fun ad w _ => theirs1_calls m w ad) m.sok ?_
    conv => whnf
    refine put_rule h0 h1 hokb hmk hrb1 (by omega) fun A2 c2 w2 pr2 hr2 hk2 => ?_
    have hrl2 := Rd.keep hrl1 hk2
    have hr12 := Rd.keep hr1 hk2
    have hal2 := alike_put m hfina hfinb hal
    rw [← putsL_succ hm] at hr2 hal2 ⊢
    rw [← rowS_succ hm] at hr12 hal2 ⊢
    conv => whnf
    exact ⟨⟨i.k + 1, A1, c1, A2, c2, pr2, w2⟩, ⟨hk', hr12, hr2, hrl2, hal2⟩, by show l.length - (i.k + 1) < l.length - i.k; omega, ⟨i64_step (m := 100) (by omega) (by omega), rfl, rfl, rfl, rfl, trivial⟩, ⟨rfl, rfl, trivial⟩, rfl, fun _ h => h, rfl⟩
  conv => whnf
  have hone := alike_one (v := v) (M := M) hoka hokb hok hfine hf hal
  generalize rowS v M l i.k = a at *
  generalize putsL v M (l.take i.k) O = b at *
  refine call_det (chV (chS v M a)) ent13 (fun ad w hw => chosen_calls h0 h1 hoka w (hw.rd hra) (by omega) ad) (chV_ok _) ?_
  conv => whnf
  refine call_det (chV (chS v M b)) ent13 (fun ad w hw => chosen_calls h0 h1 hokb w (hw.rd hrb) (by omega) ad) (chV_ok _) ?_
  conv => whnf
  refine ⟨fun ha => ?_, fun ha => ?_⟩
  · conv => whnf
    exact fin_ret fun ad => rfl
  have ha : (chS v M a).2 = true := by simpa using ha
  conv => whnf
  refine ⟨fun hb => ?_, fun hb => ?_⟩
  · conv => whnf
    exact fin_ret fun ad => rfl
  have hb : (chS v M b).2 = true := by simpa using hb
  conv => whnf
  refine eq_plain (ks := ksChg) (by kernel_rfl) rfl rfl rfl (by exact ⟨rfl, rfl, trivial⟩) (by exact ⟨rfl, rfl, trivial⟩) ?_
  conv => whnf
  refine fin_ret fun ad => ?_
  simp [retV, SV.dens, SV.den, eqS, eq1, hone ha hb]
section
open Go.ChangeShapes Go.WideShapes Go.ChangeAt
namespace ballotAlike
set_option maxRecDepth 100000 in
theorem lifted (os : Os) (started : os.Started) (H : Type) (enc : TypeId × Value → H) :
    ReturnsInHanded {} Try.checked os 6 .any (Rows.ballotAlikeSpec.pre6 enc Try.prog Try.f6 Rows.ballotAlikeRow.domain false) (Rows.ballotAlikeSpec.post enc Try.prog Try.f6 false true false false) := by
  refine returnsInHanded_of_change_sized (C := Try.checked) own started (by kernel_rfl) Try.func6
    (ChangeSpec.witness6 (enc := enc) (C := Try.checked) false ⟨#[], #[.agg #[.int .i64 0, .int .u16 0], .slice none 0 0, .slice none 0 0], []⟩ 8 (by kernel_rfl) (by kernel_rfl) (by kernel_rfl) (by kernel_rfl)) ?_
  intro W base args ds gs before hval0 hW hcnd hsz0 _
  have hval : ∀ (j : Nat) t v, Try.f6.params[j]? = some t → args[j]? = some v → Value.okWide Try.prog W .any base t v := hval0
  have hW' := hW
  obtain ⟨p, q, hA0, hV, rfl, hfz, hnd⟩ := hW
  have hA : DataW.TrodAll enc Try.prog W 0 (fun _ => true) true Try.f6.params.toList args.toList ds p := hA0
  rw [Try.params6] at hA hval
  obtain ⟨v0, vs0, d0, ds0, p0, q0, hargs, rfl, rfl, h0, r0⟩ := trodAll_cons hA
  obtain ⟨v1, vs1, d1, ds1, p1, q1, rfl, rfl, rfl, h1, r1⟩ := trodAll_cons r0
  obtain ⟨v2, vs2, d2, ds2, p2, q2, rfl, rfl, rfl, h2, r2⟩ := trodAll_cons r1
  obtain ⟨rfl, rfl, rfl⟩ := trodAll_nil r2
  obtain rfl : args = #[v0, v1, v2] := by cases args; simp_all
  obtain ⟨rfl, rfl⟩ := trodVars_none hV
  have k0 := h0
  have lt0 : ∀ x ∈ p0, x.block < W.heap.size := by obtain ⟨m, hm⟩ := k0; exact DataW.trod_lt m _ _ _ hm
  have k1 := h1
  have lt1 : ∀ x ∈ p1, x.block < W.heap.size := by obtain ⟨m, hm⟩ := k1; exact DataW.trod_lt m _ _ _ hm
  have k2 := h2
  have lt2 : ∀ x ∈ p2, x.block < W.heap.size := by obtain ⟨m, hm⟩ := k2; exact DataW.trod_lt m _ _ _ hm
  obtain ⟨vw, M, rfl, m0, m1⟩ := roll_arg (hval 0 25 v0 rfl rfl) h0
  obtain ⟨A, c, l, rfl, hl, hrd⟩ := casts_arg (hval 1 26 v1 rfl rfl) h1
  obtain ⟨B, d, l2, rfl, hl2, hrd2⟩ := casts_arg (hval 2 26 v2 rfl rfl) h2
  clear hA0 hval0 hsz0
  refine (ballotAlike_calls m0 m1 hl hl2 W hrd hrd2 id).mono fun e W' ⟨he, bel⟩ => ?_
  subst he
  exact ⟨_, rfl, _, _, _, [], _, [], hW', trodAll_mk1 (shut_bool Try.underlying4 _), (trodAll_cons_mk (Below.trod laidOut (by kernel_rfl) (of_decide_eq_true (by kernel_rfl)) k0 bel lt0) (trodAll_cons_mk (Below.trod laidOut (by kernel_rfl) (of_decide_eq_true (by kernel_rfl)) k1 bel lt1) (trodAll_cons_mk (Below.trod laidOut (by kernel_rfl) (of_decide_eq_true (by kernel_rfl)) k2 bel lt2) trodAll_mk0))), rfl, bel.frame _, fun h => by cases h⟩
theorem over : Rows.ballotAlikeRow.holds Try.pinned (OpenSpec.ofChange Rows.ballotAlikeSpec) :=
  OpenClaim.holds_of_wide 6 Try.f6 rfl rfl rfl rfl rfl rfl rfl ⟨rfl, rfl, rfl, rfl, rfl⟩ rfl rfl rfl rfl rfl (by kernel_rfl) Try.func6 (by kernel_rfl)
    (of_decide_eq_true (by kernel_rfl)) (by unfold Func.isWrapper; first | (rw [if_pos (by decide +kernel)]; kernel_rfl) | (rw [if_neg (by decide +kernel)]; exact ⟨rfl, rfl⟩))
    (fun os started H enc _ => lifted os started H enc)
end ballotAlike
theorem ballotAlike_holds : Rows.BallotAlikeSaid := ballotAlike.over
#print axioms ballotAlike_holds
end
end Go.Proofs.Ytcgkeepihinegaa
