/-
  FlushLate: for every number of members, every list of marks and every vector the law returns true: walked, and told as the statement says it.
-/
import Derived.Test.YtcmooifiiakbdaaQ
set_option linter.unusedVariables false
set_option linter.unusedSimpArgs false
namespace Go.Proofs.Ytcmooifiiakbdaa
open Go Go.Sx Go.RowKit
set_option maxHeartbeats 1000000
set_option maxRecDepth 20000
/-- What had is, behind some puts. -/
structure Had (M : Int) (ms : List Mk) (had : Int) : Prop where
  rng : 0 ≤ had ∧ had < 65536
  bits : ∀ i : Nat, i < 16 → hasB had i = whoB ms i
  right : rightB M ms = true ∨ (M = 0 ∧ ms = [])
theorem had_start (M : Int) : Had M [] 0 := by
  refine ⟨by decide, fun i hi => ?_, ?_⟩
  · have := has_bit 0 i hi
    rw [show ((0 : Nat) : Int) = 0 from rfl] at this
    rw [this]; simp [whoB]
  · by_cases h : M = 0
    · exact .inr ⟨h, rfl⟩
    · exact .inl (right_iff.2 ⟨fun m hm => (by cases hm), fun i j p q _ hp => (by cases hp), h⟩)
theorem had_put {M had : Int} {ms : List Mk} {t : Mk} (ht : t.Ok) (h : Had M ms had) (hz : (putS M ms t).2 = 0) : Had M (putS M ms t).1 (bor .u16 had (bshl .u16 1 t.who)) := by
  obtain ⟨h1, h2, h3, h4, h5⟩ := put_ok hz
  have hw : t.who < 16 := by
    simp only [hasB, Bool.and_eq_true, decide_eq_true_eq] at h2
    exact h2.1
  obtain ⟨b1, b2⟩ := bor_bit h.rng ⟨ht.1.1, hw⟩
  refine ⟨b1, fun i hi => ?_, .inl (put_right hz)⟩
  rw [b2 i hi, h.bits i hi, h5, whoB_ins]
theorem had_not {M had : Int} {ms : List Mk} {t : Mk} (h : Had M ms had) (hz : (putS M ms t).2 ≠ 0) : Had M (putS M ms t).1 had := by rw [put_not hz]; exact h
theorem decide_eq_comm' (v x : List Int) : decide (v = x) = decide (x = v) := by rw [decide_eq_decide]; exact eq_comm
structure TI where
  k : Nat
  had : Int
  A : Option Addr
  c : Nat
  pr : Nat → Prop
  sw : World
theorem flushLate_calls {M : Int} (h0 : 0 ≤ M) (h1 : M < 65536) {A : Option Addr} {c : Nat} {l : List Mk} {v : List Int} (hl : ∀ m ∈ l, m.Ok) (hv : v.length = 16) (w0 : World) (hrd : Rd (fun g => g < w0.heap.size) w0 A (mcells l)) :
    ∀ ad, Calls Try.prog 6 (SV.dens ad [.v (.int .u16 M), .v (.slice A l.length c), vec v]).toArray w0 (Ret w0 (.bool true)) := by
  refine calls_sound tabOK Try.func6 rfl (by kernel_rfl) (Nat.le_of_ble_eq_true rfl) ⟨rfl, rfl, ⟨hv, trivial⟩, trivial⟩ ?_
  conv => whnf
  have hsz : ∀ x ∈ l, (flat x.segs).length = 17 := fun x hx => segs_len (hl x hx)
  have hA : ∀ {k : Nat}, k < l.length → A ≠ none := fun {k} h => hrd.some fun e => by
    have := congrArg List.length e
    rw [mcells_len hl] at this
    simp at this; omega
  refine call_det (.lit true) (show Ent Try.prog 8 by unfold Ent; kernel_rfl) (fun ad w _ => alive_calls w ad) trivial ?_
  conv => whnf
  refine loop_rule tabOK (by kernel_rfl) (fun i : TI => ⟨[(9, .v (.int .i64 i.k)), (8, .v (.int .u16 i.had)), (7, .ptr 7 0), (5, .ptr 5 0), (1, .v (.slice A l.length c)), (0, .v (.int .u16 M))], [(7, ([.one (.int .u16 M), .one (.slice i.A (rowS M l i.k).length i.c)], 34)), (5, ([.ints .u16 16 v], 28))], [], i.pr, i.sw⟩)
    (fun i => i.k ≤ l.length ∧ i.k ≤ 40 ∧ Rd i.pr i.sw i.A (mcells (rowS M l i.k)) ∧ Rd i.pr i.sw A (mcells l) ∧ Had M (rowS M l i.k) i.had)
    (fun i => l.length - i.k) ⟨0, 0, none, 0, _, w0⟩ ⟨Nat.zero_le _, Nat.zero_le _, Rd.empty _ _ _, hrd, had_start M⟩ ⟨⟨rfl, rfl, rfl, rfl, rfl, rfl, trivial⟩, ⟨rfl, rfl, trivial⟩, rfl, fun _ h => h, rfl⟩ ?_
  intro i ⟨hk, hk40, hra, hrl, hhad⟩
  obtain ⟨hok, hlen⟩ := rowS_ok M hl i.k hk
  conv => whnf
  refine ⟨fun hc => ?_, fun hc => ?_⟩
  · conv => whnf
    refine ⟨fun hd => ?_, fun hd => ?_⟩
    · conv => whnf
      have hk' : i.k < l.length := by have := of_decide_eq_true hc; omega
      have hk4 : i.k < 40 := by have := of_decide_eq_true hd; omega
      obtain ⟨m, hm⟩ : ∃ m, l[i.k]? = some m := ⟨_, List.getElem?_eq_getElem hk'⟩
      have hmk := hl m (List.mem_of_getElem? hm)
      have hi : (0 : Int) ≤ i.k ∧ (i.k : Int) < l.length ∧ A ≠ none := ⟨by omega, by omega, hA hk'⟩
      refine draw_rule tabOK mixed [9] [10, 11] pP6_8 [10] (by kernel_rfl) (by kernel_rfl) ?_
      conv => whnf
      refine ⟨hi, ?_⟩
      conv => whnf
      refine xload_row tabOK (t := 30) rfl Mk.segs hrl hsz ⟨rfl, hmk.2.1, trivial⟩ hm (i := i.k) (o := 0) (by rw [Int.toNat_natCast]; rfl) (by decide) ?_
      conv => whnf
      refine put_rule h0 h1 hok hmk hra (by omega) fun A1 c1 w1 pr1 hr1 hk1 => ?_
      have hrl1 := Rd.keep hrl hk1
      have hput : ∀ had', Had M (putS M (rowS M l i.k) m).1 had' → Had M (rowS M l (i.k + 1)) had' := fun had' h => by rw [rowS_succ hm]; exact h
      rw [← rowS_succ hm] at hr1 ⊢
      obtain ⟨hok', hlen'⟩ := rowS_ok M hl (i.k + 1) hk'
      have fin : ∀ (had' : Int), Had M (rowS M l (i.k + 1)) had' → tgtB M (rowS M l (i.k + 1)) = (decide (had' = M) && !decide (M = 0)) := fun had' h => tgt_had ⟨h0, h1⟩ h.rng h.bits hok' h.right
      conv => whnf
      refine ⟨fun he => ?_, fun he => ?_⟩
      · conv => whnf
        refine ⟨hi, ?_⟩
        conv => whnf
        refine xload_row tabOK (t := 5) rfl Mk.segs hrl1 hsz ⟨rfl, hmk.2.1, trivial⟩ hm (i := i.k) (o := 0) (by rw [Int.toNat_natCast]) (by decide) ?_
        conv => whnf
        refine ⟨hmk.1.1, ?_⟩
        conv => whnf
        have hnew := hput _ (had_put hmk hhad (of_decide_eq_true he))
        have hT := fin _ hnew
        generalize bor .u16 i.had (bshl .u16 1 m.who) = had' at hnew hT ⊢
        refine call_det (.tup [vec (tgtV M (rowS M l (i.k + 1))), .v (.bool (tgtB M (rowS M l (i.k + 1))))]) ent12 (fun ad w hw => target_calls h0 h1 hok' w (hw.rd hr1) (by omega) ad) ⟨⟨tgtV_len hok', trivial⟩, rfl, trivial⟩ ?_
        conv => whnf
        refine ⟨fun hq => ?_, fun hq => ?_⟩
        · conv => whnf
          refine ⟨fun h => absurd h (by rw [hT, hq]; simp), fun _ => ?_⟩
          conv => whnf
          refine call_det (.v (.bool (overB M (rowS M l (i.k + 1)) v))) ent16 (fun ad w hw => over_calls h0 h1 hok' hv w (hw.rd hr1) (by omega) ad) rfl ?_
          conv => whnf
          refine ⟨fun ht => ?_, fun ht => ?_⟩
          · conv => whnf
            refine eq_arr (e := 22) (n := 16) (k := .u16) (by kernel_rfl) hv (tgtV_len hok') ?_
            conv => whnf
            refine ⟨fun h => absurd h (by simp only [overB, ht, Bool.true_and, decide_eq_comm' v]; simp), fun _ => ?_⟩
            conv => whnf
            exact ⟨⟨i.k + 1, had', A1, c1, pr1, w1⟩, ⟨hk', by show i.k + 1 ≤ 40; omega, hr1, hrl1, hnew⟩, by show l.length - (i.k + 1) < l.length - i.k; omega, ⟨i64_step (m := 100) (by omega) (by omega), rfl, rfl, rfl, rfl, rfl, trivial⟩, ⟨rfl, rfl, trivial⟩, rfl, fun _ h => h, rfl⟩
          · conv => whnf
            refine ⟨fun h => absurd h (by simp [overB, ht]), fun _ => ?_⟩
            conv => whnf
            exact ⟨⟨i.k + 1, had', A1, c1, pr1, w1⟩, ⟨hk', by show i.k + 1 ≤ 40; omega, hr1, hrl1, hnew⟩, by show l.length - (i.k + 1) < l.length - i.k; omega, ⟨i64_step (m := 100) (by omega) (by omega), rfl, rfl, rfl, rfl, rfl, trivial⟩, ⟨rfl, rfl, trivial⟩, rfl, fun _ h => h, rfl⟩
        · conv => whnf
          refine ⟨fun h => absurd h (by rw [hT, hq]; simp), fun _ => ?_⟩
          conv => whnf
          refine call_det (.v (.bool (overB M (rowS M l (i.k + 1)) v))) ent16 (fun ad w hw => over_calls h0 h1 hok' hv w (hw.rd hr1) (by omega) ad) rfl ?_
          conv => whnf
          refine ⟨fun ht => ?_, fun ht => ?_⟩
          · conv => whnf
            refine eq_arr (e := 22) (n := 16) (k := .u16) (by kernel_rfl) hv (tgtV_len hok') ?_
            conv => whnf
            refine ⟨fun h => absurd h (by simp only [overB, ht, Bool.true_and, decide_eq_comm' v]; simp), fun _ => ?_⟩
            conv => whnf
            exact ⟨⟨i.k + 1, had', A1, c1, pr1, w1⟩, ⟨hk', by show i.k + 1 ≤ 40; omega, hr1, hrl1, hnew⟩, by show l.length - (i.k + 1) < l.length - i.k; omega, ⟨i64_step (m := 100) (by omega) (by omega), rfl, rfl, rfl, rfl, rfl, trivial⟩, ⟨rfl, rfl, trivial⟩, rfl, fun _ h => h, rfl⟩
          · conv => whnf
            refine ⟨fun h => absurd h (by simp [overB, ht]), fun _ => ?_⟩
            conv => whnf
            exact ⟨⟨i.k + 1, had', A1, c1, pr1, w1⟩, ⟨hk', by show i.k + 1 ≤ 40; omega, hr1, hrl1, hnew⟩, by show l.length - (i.k + 1) < l.length - i.k; omega, ⟨i64_step (m := 100) (by omega) (by omega), rfl, rfl, rfl, rfl, rfl, trivial⟩, ⟨rfl, rfl, trivial⟩, rfl, fun _ h => h, rfl⟩
      · conv => whnf
        have hnew := hput _ (had_not hhad (of_decide_eq_false he))
        have hT := fin _ hnew
        refine call_det (.tup [vec (tgtV M (rowS M l (i.k + 1))), .v (.bool (tgtB M (rowS M l (i.k + 1))))]) ent12 (fun ad w hw => target_calls h0 h1 hok' w (hw.rd hr1) (by omega) ad) ⟨⟨tgtV_len hok', trivial⟩, rfl, trivial⟩ ?_
        conv => whnf
        refine ⟨fun hq => ?_, fun hq => ?_⟩
        · conv => whnf
          refine ⟨fun h => absurd h (by rw [hT, hq]; simp), fun _ => ?_⟩
          conv => whnf
          refine call_det (.v (.bool (overB M (rowS M l (i.k + 1)) v))) ent16 (fun ad w hw => over_calls h0 h1 hok' hv w (hw.rd hr1) (by omega) ad) rfl ?_
          conv => whnf
          refine ⟨fun ht => ?_, fun ht => ?_⟩
          · conv => whnf
            refine eq_arr (e := 22) (n := 16) (k := .u16) (by kernel_rfl) hv (tgtV_len hok') ?_
            conv => whnf
            refine ⟨fun h => absurd h (by simp only [overB, ht, Bool.true_and, decide_eq_comm' v]; simp), fun _ => ?_⟩
            conv => whnf
            exact ⟨⟨i.k + 1, i.had, A1, c1, pr1, w1⟩, ⟨hk', by show i.k + 1 ≤ 40; omega, hr1, hrl1, hnew⟩, by show l.length - (i.k + 1) < l.length - i.k; omega, ⟨i64_step (m := 100) (by omega) (by omega), rfl, rfl, rfl, rfl, rfl, trivial⟩, ⟨rfl, rfl, trivial⟩, rfl, fun _ h => h, rfl⟩
          · conv => whnf
            refine ⟨fun h => absurd h (by simp [overB, ht]), fun _ => ?_⟩
            conv => whnf
            exact ⟨⟨i.k + 1, i.had, A1, c1, pr1, w1⟩, ⟨hk', by show i.k + 1 ≤ 40; omega, hr1, hrl1, hnew⟩, by show l.length - (i.k + 1) < l.length - i.k; omega, ⟨i64_step (m := 100) (by omega) (by omega), rfl, rfl, rfl, rfl, rfl, trivial⟩, ⟨rfl, rfl, trivial⟩, rfl, fun _ h => h, rfl⟩
        · conv => whnf
          refine ⟨fun h => absurd h (by rw [hT, hq]; simp), fun _ => ?_⟩
          conv => whnf
          refine call_det (.v (.bool (overB M (rowS M l (i.k + 1)) v))) ent16 (fun ad w hw => over_calls h0 h1 hok' hv w (hw.rd hr1) (by omega) ad) rfl ?_
          conv => whnf
          refine ⟨fun ht => ?_, fun ht => ?_⟩
          · conv => whnf
            refine eq_arr (e := 22) (n := 16) (k := .u16) (by kernel_rfl) hv (tgtV_len hok') ?_
            conv => whnf
            refine ⟨fun h => absurd h (by simp only [overB, ht, Bool.true_and, decide_eq_comm' v]; simp), fun _ => ?_⟩
            conv => whnf
            exact ⟨⟨i.k + 1, i.had, A1, c1, pr1, w1⟩, ⟨hk', by show i.k + 1 ≤ 40; omega, hr1, hrl1, hnew⟩, by show l.length - (i.k + 1) < l.length - i.k; omega, ⟨i64_step (m := 100) (by omega) (by omega), rfl, rfl, rfl, rfl, rfl, trivial⟩, ⟨rfl, rfl, trivial⟩, rfl, fun _ h => h, rfl⟩
          · conv => whnf
            refine ⟨fun h => absurd h (by simp [overB, ht]), fun _ => ?_⟩
            conv => whnf
            exact ⟨⟨i.k + 1, i.had, A1, c1, pr1, w1⟩, ⟨hk', by show i.k + 1 ≤ 40; omega, hr1, hrl1, hnew⟩, by show l.length - (i.k + 1) < l.length - i.k; omega, ⟨i64_step (m := 100) (by omega) (by omega), rfl, rfl, rfl, rfl, rfl, trivial⟩, ⟨rfl, rfl, trivial⟩, rfl, fun _ h => h, rfl⟩
    · conv => whnf
      exact fin_ret fun ad => rfl
  · conv => whnf
    exact fin_ret fun ad => rfl
section
open Go.ChangeShapes Go.WideShapes Go.ChangeAt
namespace flushLate
set_option maxRecDepth 100000 in
theorem lifted (os : Os) (started : os.Started) (H : Type) (enc : TypeId × Value → H) :
    ReturnsInHanded {} Try.checked os 6 .any (Rows.flushLateSpec.pre6 enc Try.prog Try.f6 Rows.flushLateRow.domain false) (Rows.flushLateSpec.post enc Try.prog Try.f6 false true false false) := by
  refine returnsInHanded_of_change_sized (C := Try.checked) own started (by kernel_rfl) Try.func6
    (ChangeSpec.witness6 (enc := enc) (C := Try.checked) false ⟨#[], #[.int .u16 0, .slice none 0 0, .agg (Array.replicate 16 (.int .u16 0))], []⟩ 8 (by kernel_rfl) (by kernel_rfl) (by kernel_rfl) (by kernel_rfl)) ?_
  intro W base args ds gs before hval0 hW hcnd hsz0 _
  have hval : ∀ (j : Nat) t v, Try.f6.params[j]? = some t → args[j]? = some v → Value.okWide Try.prog W .any base t v := hval0
  have hW' := hW
  obtain ⟨p, q, hA0, hV, rfl, hfz, hnd⟩ := hW
  have hA : DataW.TrodAll enc Try.prog W 0 (fun _ => true) true Try.f6.params.toList args.toList ds p := hA0
  rw [Try.params6] at hA hval
  obtain ⟨v0, vs0, d0, ds0, p0, q0, hargs, rfl, rfl, h0, r0⟩ := trodAll_cons hA
  obtain ⟨v1, vs1, d1, ds1, p1, q1, rfl, rfl, rfl, h1, r1⟩ := trodAll_cons r0
  obtain ⟨v2, vs2, d2, ds2, p2, q2, rfl, rfl, rfl, h2, r2⟩ := trodAll_cons r1
  obtain ⟨rfl, rfl, rfl⟩ := trodAll_nil r2
  obtain rfl : args = #[v0, v1, v2] := by cases args; simp_all
  obtain ⟨rfl, rfl⟩ := trodVars_none hV
  have k0 := h0
  have lt0 : ∀ x ∈ p0, x.block < W.heap.size := by obtain ⟨m, hm⟩ := k0; exact DataW.trod_lt m _ _ _ hm
  have k1 := h1
  have lt1 : ∀ x ∈ p1, x.block < W.heap.size := by obtain ⟨m, hm⟩ := k1; exact DataW.trod_lt m _ _ _ hm
  have k2 := h2
  have lt2 : ∀ x ∈ p2, x.block < W.heap.size := by obtain ⟨m, hm⟩ := k2; exact DataW.trod_lt m _ _ _ hm
  obtain ⟨z0, rfl, a0, b0⟩ := u16_arg (hval 0 23 v0 rfl rfl) h0
  obtain ⟨A1, c1, ms1, rfl, hms1, hrd1⟩ := marks_arg (hval 1 24 v1 rfl rfl) h1
  obtain ⟨x2, rfl, hx2, hr2⟩ := vec_arg (hval 2 28 v2 rfl rfl) h2
  clear hA0 hval0 hsz0
  refine (flushLate_calls a0 b0 hms1 hx2 W hrd1 id).mono fun e W' ⟨he, bel⟩ => ?_
  subst he
  exact ⟨_, rfl, _, _, _, [], _, [], hW', trodAll_mk1 (shut_bool Try.underlying4 _), (trodAll_cons_mk (Below.trod laidOut (by kernel_rfl) (of_decide_eq_true (by kernel_rfl)) k0 bel lt0) (trodAll_cons_mk (Below.trod laidOut (by kernel_rfl) (of_decide_eq_true (by kernel_rfl)) k1 bel lt1) (trodAll_cons_mk (Below.trod laidOut (by kernel_rfl) (of_decide_eq_true (by kernel_rfl)) k2 bel lt2) trodAll_mk0))), rfl, bel.frame _, fun h => by cases h⟩
theorem over : Rows.flushLateRow.holds Try.pinned (OpenSpec.ofChange Rows.flushLateSpec) :=
  OpenClaim.holds_of_wide 6 Try.f6 rfl rfl rfl rfl rfl rfl rfl ⟨rfl, rfl, rfl, rfl, rfl⟩ rfl rfl rfl rfl rfl (by kernel_rfl) Try.func6 (by kernel_rfl)
    (of_decide_eq_true (by kernel_rfl)) (by unfold Func.isWrapper; first | (rw [if_pos (by decide +kernel)]; kernel_rfl) | (rw [if_neg (by decide +kernel)]; exact ⟨rfl, rfl⟩))
    (fun os started H enc _ => lifted os started H enc)
end flushLate
theorem flushLate_holds : Rows.FlushLateSaid := flushLate.over
#print axioms flushLate_holds
end
end Go.Proofs.Ytcmooifiiakbdaa
