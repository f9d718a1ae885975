/-
  BallotOne: for every view and every list of casts the law returns true: walked, and told as the statement says it.
-/
import Derived.Test.YtcgkeepihinegaaQ
import Derived.Test.YtcgkeepihinegaaR
set_option linter.unusedVariables false
set_option linter.unusedSimpArgs false
namespace Go.Proofs.Ytcgkeepihinegaa
open Go Go.Sx Go.RowKit
set_option maxHeartbeats 1000000
set_option maxRecDepth 20000
structure OI where
  k : Nat
  A : Option Addr
  c : Nat
  add : Bool
  id : Int
  any : Bool
  pr : Nat → Prop
  sw : World
def st5 (v M : Int) (A : Option Addr) (c : Nat) (l : List Mk) (i : OI) : St := ⟨[(9, .v (.int .i64 i.k)), (8, .v (.bool i.any)), (7, .ptr 7 0), (6, .v (.int .i64 (sizeB M))), (5, .ptr 5 0), (2, .ptr 2 0), (1, .v (.slice A l.length c))], [(7, ([.one (.bool i.add), .one (.int .u8 i.id)], 42)), (5, ([.one (.int .i64 v), .one (.int .u16 M), .one (.slice i.A (rowS v M l i.k).length i.c)], 37)), (2, ([.one (.int .i64 v), .one (.int .u16 M)], 25))], [], i.pr, i.sw⟩
theorem ballotOne_calls {v M : Int} (h0 : 0 ≤ M) (h1 : M < 65536) {A : Option Addr} {c : Nat} {l : List Mk} (hl : ∀ m ∈ l, m.Ok) (w0 : World) (hrd : Rd (fun g => g < w0.heap.size) w0 A (mcells l)) :
    ∀ ad, Calls Try.prog 5 (SV.dens ad [rol v M, .v (.slice A l.length c)]).toArray w0 (Ret w0 (.bool true)) := by
  refine calls_sound tabOK Try.func5 rfl (by kernel_rfl) (Nat.le_of_ble_eq_true rfl) ⟨⟨rfl, rfl, trivial⟩, rfl, trivial⟩ ?_
  conv => whnf
  refine call_det (.lit true) (show Ent Try.prog 8 by unfold Ent; kernel_rfl) (fun ad w _ => alive_calls w ad) trivial ?_
  conv => whnf
  refine call_det (.v (.int .i64 (sizeB M))) ent19 (fun ad w _ => sizeR_calls h0 h1 w ad) rfl ?_
  conv => whnf
  refine loop_rule tabOK (by kernel_rfl) (st5 v M A c l)
    (fun i => i.k ≤ l.length ∧ i.k ≤ 60 ∧ Rd i.pr i.sw i.A (mcells (rowS v M l i.k)) ∧ Rd i.pr i.sw A (mcells l) ∧ (i.any = true → chS v M (rowS v M l i.k) = ((i.add, i.id), true)))
    (fun i => l.length - i.k) ⟨0, none, 0, false, 0, false, _, w0⟩ ⟨Nat.zero_le _, Nat.zero_le _, Rd.empty _ _ _, hrd, fun h => (by cases h)⟩ ⟨⟨rfl, rfl, rfl, rfl, rfl, rfl, rfl, trivial⟩, ⟨rfl, rfl, rfl, trivial⟩, rfl, fun _ h => h, rfl⟩ ?_
  intro i ⟨hk, hk60, hra, hrl, hch⟩
  obtain ⟨hok, hlen, hfine⟩ := rowS_ok v M hl i.k hk
  conv => whnf
  refine ⟨fun hc => ?_, fun hc => ?_⟩
  · conv => whnf
    refine ⟨fun hd => ?_, fun hd => ?_⟩
    · conv => whnf
      have hk' : i.k < l.length := by have := of_decide_eq_true hc; omega
      have hk6 : i.k < 60 := by have := of_decide_eq_true hd; omega
      obtain ⟨m, hm⟩ : ∃ m, l[i.k]? = some m := ⟨_, List.getElem?_eq_getElem hk'⟩
      have hmk := hl m (List.mem_of_getElem? hm)
      have hi : (0 : Int) ≤ i.k ∧ (i.k : Int) < l.length ∧ A ≠ none := ⟨by omega, by omega, some_of hrl hk'⟩
      refine draw_rule tabOK mixed [10] [11, 12] pP5_10 [10] (by kernel_rfl) (by kernel_rfl) ?_
      conv => whnf
      refine ⟨hi, ?_⟩
      conv => whnf
      refine xload_row tabOK (t := 32) rfl Mk.segs hrl (fun x _ => segs_len x) m.sok hm (i := i.k) (o := 0) (by rw [Int.toNat_natCast]; rfl) (by decide) ?_
      conv => whnf
      refine call_det (.agg m.segs) ent11 (fun ad w _ => theirs1_calls m w ad) m.sok ?_
      conv => whnf
      refine put_rule h0 h1 hok hmk hra (by omega) fun A1 c1 w1 pr1 hr1 hk1 => ?_
      have hra1 := Rd.keep hra hk1
      have hrl1 := Rd.keep hrl hk1
      have hnot := put_not (v := v) (M := M) (ms := rowS v M l i.k) (t := m)
      rw [← rowS_succ hm] at hr1 hnot ⊢
      obtain ⟨hok', hlen', hfine'⟩ := rowS_ok v M hl (i.k + 1) hk'
      have hstay : i.any = true → chS v M (rowS v M l (i.k + 1)) = ((i.add, i.id), true) := fun h => by
        rw [rowS_succ hm, ch_stays hok hmk (by rw [hch h]), hch h]
      generalize (putS v M (rowS v M l i.k) m).2 = e at hnot ⊢
      rcases hcs : chS v M (rowS v M l (i.k + 1)) with ⟨⟨ca, ci⟩, is⟩
      refine draw_rule tabOK mixed [] [] pP5_11 [] (by kernel_rfl) (by kernel_rfl) ?_
      conv => whnf
      refine ⟨fun he => ?_, fun he => ?_⟩
      · conv => whnf
        have he : e ≠ 0 := by simpa using he
        have hs : rowS v M l (i.k + 1) = rowS v M l i.k := hnot he
        refine told_rule ent16 (fun w hw => ours_calls hok' w hw (by omega)) hr1 fun A3 c3 w3 pr3 hr3 hk3 => ?_
        have hr13 := Rd.keep hr1 hk3
        have hra3 := Rd.keep hra1 hk3
        have hrl3 := Rd.keep hrl1 hk3
        conv => whnf
        refine told_rule ent16 (fun w hw => ours_calls hok w hw (by omega)) hra3 fun A4 c4 w4 pr4 hr4 hk4 => ?_
        have hr34 := Rd.keep hr3 hk4
        have hrl4 := Rd.keep hrl3 hk4
        have hr14 := Rd.keep hr13 hk4
        conv => whnf
        refine call_det (.lit true) ent15 (fun ad w hw => ?_) trivial ?_
        · have h4 := hw.rd hr4
          rw [← hs] at h4 ⊢
          exact same_calls w (hw.rd hr34) h4 (by omega) ad
        conv => whnf
        refine call_det (chV (chS v M (rowS v M l (i.k + 1)))) ent13 (fun ad w hw => chosen_calls h0 h1 hok' w (hw.rd hr14) (by omega) ad) (chV_ok _) ?_
        rw [hcs]
        cases is
        · conv => whnf
          refine ⟨fun h => absurd h (by simp), fun _ => ?_⟩
          conv => whnf
          refine ⟨fun ha => ?_, fun ha => ?_⟩
          · have := hstay ha
            rw [hcs] at this
            cases this
          · conv => whnf
            refine ⟨fun h => absurd (ha.symm.trans h) (by decide), fun _ => ?_⟩
            conv => whnf
            exact ⟨⟨i.k + 1, A1, c1, ca, ci, false, pr4, w4⟩, ⟨hk', by show i.k + 1 ≤ 60; omega, hr14, hrl4, fun h => by cases h⟩, by show l.length - (i.k + 1) < l.length - i.k; omega, ⟨i64_step (m := 100) (by omega) (by omega), rfl, rfl, rfl, rfl, rfl, rfl, trivial⟩, ⟨rfl, rfl, rfl, trivial⟩, rfl, fun _ h => h, rfl⟩
        · conv => whnf
          refine ⟨fun _ => ?_, fun h => absurd h (by simp)⟩
          conv => whnf
          obtain ⟨x, hx, hen, hxc⟩ := ch_some (v := v) (M := M) (ms := rowS v M l (i.k + 1)) (by rw [hcs])
          rw [hcs] at hxc
          cases hxc
          have hrt := enough_right hen
          have hap := (who_has ((right_iff.1 hrt).1 x hx)).2
          have hxo := hok' x hx
          have hF := forS_rng (v := v) (M := M) hok' x.add x.id
          refine call_det (apV v M x) ent20 (fun ad w _ => apply_calls h0 h1 hxo.2.1 hxo.2.2 w ad) ⟨⟨rfl, rfl, trivial⟩, rfl, trivial⟩ ?_
          conv => whnf
          refine ⟨fun h => absurd h (by rw [hap]; decide), fun _ => ?_⟩
          conv => whnf
          refine call_det (.v (.int .u16 (forS v M (rowS v M l (i.k + 1)) x.add x.id))) ent17 (fun ad w hw => for_calls h0 h1 hok' w (hw.rd hr14) (by omega) ad) rfl ?_
          conv => whnf
          refine call_det (.v (.int .i64 (sizeB (forS v M (rowS v M l (i.k + 1)) x.add x.id)))) ent19 (fun ad w _ => sizeR_calls hF.1 hF.2 w ad) rfl ?_
          conv => whnf
          refine call_det (.v (.int .i64 (echoesB (sizeB M)))) ent21 (fun ad w _ => echoesR_calls _ w ad) rfl ?_
          conv => whnf
          have hle := of_decide_eq_true hen
          refine ⟨fun h => absurd (of_decide_eq_true h) (by omega), fun _ => ?_⟩
          conv => whnf
          refine ⟨fun ha => ?_, fun ha => ?_⟩
          · conv => whnf
            have hst := hstay ha
            rw [hcs] at hst
            simp only [Prod.mk.injEq, and_true] at hst
            refine ⟨fun h => absurd h (by simp), fun _ => ?_⟩
            conv => whnf
            refine eq_plain (ks := ksChg) (by kernel_rfl) rfl rfl rfl (by exact ⟨rfl, rfl, trivial⟩) (by exact ⟨rfl, rfl, trivial⟩) ?_
            conv => whnf
            refine ⟨fun h => absurd h (by simp [eqS, eq1, hst.1, hst.2]), fun _ => ?_⟩
            conv => whnf
            refine ⟨fun _ => ?_, fun h => absurd (ha.symm.trans h) (by decide)⟩
            conv => whnf
            exact ⟨⟨i.k + 1, A1, c1, x.add, x.id, true, pr4, w4⟩, ⟨hk', by show i.k + 1 ≤ 60; omega, hr14, hrl4, fun _ => hcs⟩, by show l.length - (i.k + 1) < l.length - i.k; omega, ⟨i64_step (m := 100) (by omega) (by omega), rfl, rfl, rfl, rfl, rfl, rfl, trivial⟩, ⟨rfl, rfl, rfl, trivial⟩, rfl, fun _ h => h, rfl⟩
          · conv => whnf
            refine ⟨fun h => absurd (ha.symm.trans h) (by decide), fun _ => ?_⟩
            conv => whnf
            exact ⟨⟨i.k + 1, A1, c1, x.add, x.id, true, pr4, w4⟩, ⟨hk', by show i.k + 1 ≤ 60; omega, hr14, hrl4, fun _ => hcs⟩, by show l.length - (i.k + 1) < l.length - i.k; omega, ⟨i64_step (m := 100) (by omega) (by omega), rfl, rfl, rfl, rfl, rfl, rfl, trivial⟩, ⟨rfl, rfl, rfl, trivial⟩, rfl, fun _ h => h, rfl⟩
      · conv => whnf
        refine call_det (chV (chS v M (rowS v M l (i.k + 1)))) ent13 (fun ad w hw => chosen_calls h0 h1 hok' w (hw.rd hr1) (by omega) ad) (chV_ok _) ?_
        rw [hcs]
        cases is
        · conv => whnf
          refine ⟨fun h => absurd h (by simp), fun _ => ?_⟩
          conv => whnf
          refine ⟨fun ha => ?_, fun ha => ?_⟩
          · have := hstay ha
            rw [hcs] at this
            cases this
          · conv => whnf
            refine ⟨fun h => absurd (ha.symm.trans h) (by decide), fun _ => ?_⟩
            conv => whnf
            exact ⟨⟨i.k + 1, A1, c1, ca, ci, false, pr1, w1⟩, ⟨hk', by show i.k + 1 ≤ 60; omega, hr1, hrl1, fun h => by cases h⟩, by show l.length - (i.k + 1) < l.length - i.k; omega, ⟨i64_step (m := 100) (by omega) (by omega), rfl, rfl, rfl, rfl, rfl, rfl, trivial⟩, ⟨rfl, rfl, rfl, trivial⟩, rfl, fun _ h => h, rfl⟩
        · conv => whnf
          refine ⟨fun _ => ?_, fun h => absurd h (by simp)⟩
          conv => whnf
          obtain ⟨x, hx, hen, hxc⟩ := ch_some (v := v) (M := M) (ms := rowS v M l (i.k + 1)) (by rw [hcs])
          rw [hcs] at hxc
          cases hxc
          have hrt := enough_right hen
          have hap := (who_has ((right_iff.1 hrt).1 x hx)).2
          have hxo := hok' x hx
          have hF := forS_rng (v := v) (M := M) hok' x.add x.id
          refine call_det (apV v M x) ent20 (fun ad w _ => apply_calls h0 h1 hxo.2.1 hxo.2.2 w ad) ⟨⟨rfl, rfl, trivial⟩, rfl, trivial⟩ ?_
          conv => whnf
          refine ⟨fun h => absurd h (by rw [hap]; decide), fun _ => ?_⟩
          conv => whnf
          refine call_det (.v (.int .u16 (forS v M (rowS v M l (i.k + 1)) x.add x.id))) ent17 (fun ad w hw => for_calls h0 h1 hok' w (hw.rd hr1) (by omega) ad) rfl ?_
          conv => whnf
          refine call_det (.v (.int .i64 (sizeB (forS v M (rowS v M l (i.k + 1)) x.add x.id)))) ent19 (fun ad w _ => sizeR_calls hF.1 hF.2 w ad) rfl ?_
          conv => whnf
          refine call_det (.v (.int .i64 (echoesB (sizeB M)))) ent21 (fun ad w _ => echoesR_calls _ w ad) rfl ?_
          conv => whnf
          have hle := of_decide_eq_true hen
          refine ⟨fun h => absurd (of_decide_eq_true h) (by omega), fun _ => ?_⟩
          conv => whnf
          refine ⟨fun ha => ?_, fun ha => ?_⟩
          · conv => whnf
            have hst := hstay ha
            rw [hcs] at hst
            simp only [Prod.mk.injEq, and_true] at hst
            refine ⟨fun h => absurd h (by simp), fun _ => ?_⟩
            conv => whnf
            refine eq_plain (ks := ksChg) (by kernel_rfl) rfl rfl rfl (by exact ⟨rfl, rfl, trivial⟩) (by exact ⟨rfl, rfl, trivial⟩) ?_
            conv => whnf
            refine ⟨fun h => absurd h (by simp [eqS, eq1, hst.1, hst.2]), fun _ => ?_⟩
            conv => whnf
            refine ⟨fun _ => ?_, fun h => absurd (ha.symm.trans h) (by decide)⟩
            conv => whnf
            exact ⟨⟨i.k + 1, A1, c1, x.add, x.id, true, pr1, w1⟩, ⟨hk', by show i.k + 1 ≤ 60; omega, hr1, hrl1, fun _ => hcs⟩, by show l.length - (i.k + 1) < l.length - i.k; omega, ⟨i64_step (m := 100) (by omega) (by omega), rfl, rfl, rfl, rfl, rfl, rfl, trivial⟩, ⟨rfl, rfl, rfl, trivial⟩, rfl, fun _ h => h, rfl⟩
          · conv => whnf
            refine ⟨fun h => absurd (ha.symm.trans h) (by decide), fun _ => ?_⟩
            conv => whnf
            exact ⟨⟨i.k + 1, A1, c1, x.add, x.id, true, pr1, w1⟩, ⟨hk', by show i.k + 1 ≤ 60; omega, hr1, hrl1, fun _ => hcs⟩, by show l.length - (i.k + 1) < l.length - i.k; omega, ⟨i64_step (m := 100) (by omega) (by omega), rfl, rfl, rfl, rfl, rfl, rfl, trivial⟩, ⟨rfl, rfl, rfl, trivial⟩, rfl, fun _ h => h, rfl⟩
    · conv => whnf
      exact fin_ret fun ad => rfl
  · conv => whnf
    exact fin_ret fun ad => rfl
section
open Go.ChangeShapes Go.WideShapes Go.ChangeAt
namespace ballotOne
set_option maxRecDepth 100000 in
theorem lifted (os : Os) (started : os.Started) (H : Type) (enc : TypeId × Value → H) :
    ReturnsInHanded {} Try.checked os 5 .any (Rows.ballotOneSpec.pre6 enc Try.prog Try.f5 Rows.ballotOneRow.domain false) (Rows.ballotOneSpec.post enc Try.prog Try.f5 false true false false) := by
  refine returnsInHanded_of_change_sized (C := Try.checked) own started (by kernel_rfl) Try.func5
    (ChangeSpec.witness6 (enc := enc) (C := Try.checked) false ⟨#[], #[.agg #[.int .i64 0, .int .u16 0], .slice none 0 0], []⟩ 8 (by kernel_rfl) (by kernel_rfl) (by kernel_rfl) (by kernel_rfl)) ?_
  intro W base args ds gs before hval0 hW hcnd hsz0 _
  have hval : ∀ (j : Nat) t v, Try.f5.params[j]? = some t → args[j]? = some v → Value.okWide Try.prog W .any base t v := hval0
  have hW' := hW
  obtain ⟨p, q, hA0, hV, rfl, hfz, hnd⟩ := hW
  have hA : DataW.TrodAll enc Try.prog W 0 (fun _ => true) true Try.f5.params.toList args.toList ds p := hA0
  rw [Try.params5] at hA hval
  obtain ⟨v0, vs0, d0, ds0, p0, q0, hargs, rfl, rfl, h0, r0⟩ := trodAll_cons hA
  obtain ⟨v1, vs1, d1, ds1, p1, q1, rfl, rfl, rfl, h1, r1⟩ := trodAll_cons r0
  obtain ⟨rfl, rfl, rfl⟩ := trodAll_nil r1
  obtain rfl : args = #[v0, v1] := by cases args; simp_all
  obtain ⟨rfl, rfl⟩ := trodVars_none hV
  have k0 := h0
  have lt0 : ∀ x ∈ p0, x.block < W.heap.size := by obtain ⟨m, hm⟩ := k0; exact DataW.trod_lt m _ _ _ hm
  have k1 := h1
  have lt1 : ∀ x ∈ p1, x.block < W.heap.size := by obtain ⟨m, hm⟩ := k1; exact DataW.trod_lt m _ _ _ hm
  obtain ⟨vw, M, rfl, m0, m1⟩ := roll_arg (hval 0 25 v0 rfl rfl) h0
  obtain ⟨A, c, l, rfl, hl, hrd⟩ := casts_arg (hval 1 26 v1 rfl rfl) h1
  clear hA0 hval0 hsz0
  refine (ballotOne_calls m0 m1 hl W hrd id).mono fun e W' ⟨he, bel⟩ => ?_
  subst he
  exact ⟨_, rfl, _, _, _, [], _, [], hW', trodAll_mk1 (shut_bool Try.underlying4 _), (trodAll_cons_mk (Below.trod laidOut (by kernel_rfl) (of_decide_eq_true (by kernel_rfl)) k0 bel lt0) (trodAll_cons_mk (Below.trod laidOut (by kernel_rfl) (of_decide_eq_true (by kernel_rfl)) k1 bel lt1) trodAll_mk0)), rfl, bel.frame _, fun h => by cases h⟩
theorem over : Rows.ballotOneRow.holds Try.pinned (OpenSpec.ofChange Rows.ballotOneSpec) :=
  OpenClaim.holds_of_wide 5 Try.f5 rfl rfl rfl rfl rfl rfl rfl ⟨rfl, rfl, rfl, rfl, rfl⟩ rfl rfl rfl rfl rfl (by kernel_rfl) Try.func5 (by kernel_rfl)
    (of_decide_eq_true (by kernel_rfl)) (by unfold Func.isWrapper; first | (rw [if_pos (by decide +kernel)]; kernel_rfl) | (rw [if_neg (by decide +kernel)]; exact ⟨rfl, rfl⟩))
    (fun os started H enc _ => lifted os started H enc)
end ballotOne
theorem ballotOne_holds : Rows.BallotOneSaid := ballotOne.over
#print axioms ballotOne_holds
end
end Go.Proofs.Ytcgkeepihinegaa
