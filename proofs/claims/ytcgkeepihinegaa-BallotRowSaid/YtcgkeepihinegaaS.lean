/-
  BallotRow: for every view and every list of casts the law returns true: walked, and told as the statement says it.
-/
import Derived.Test.YtcgkeepihinegaaQ
import Derived.Test.YtcgkeepihinegaaR
set_option linter.unusedVariables false
set_option linter.unusedSimpArgs false
namespace Go.Proofs.Ytcgkeepihinegaa
open Go Go.Sx Go.RowKit
set_option maxHeartbeats 1000000
set_option maxRecDepth 20000
structure RI where
  k : Nat
  A : Option Addr
  c : Nat
  B : Option Addr
  d : Nat
  pr : Nat → Prop
  sw : World
theorem ballotRow_calls {v M : Int} (h0 : 0 ≤ M) (h1 : M < 65536) {A : Option Addr} {c : Nat} {l : List Mk} (hl : ∀ m ∈ l, m.Ok) (w0 : World) (hrd : Rd (fun g => g < w0.heap.size) w0 A (mcells l)) :
    ∀ ad, Calls Try.prog 4 (SV.dens ad [rol v M, .v (.slice A l.length c)]).toArray w0 (Ret w0 (.bool true)) := by
  refine calls_sound tabOK Try.func4 rfl (by kernel_rfl) (Nat.le_of_ble_eq_true rfl) ⟨⟨rfl, rfl, trivial⟩, rfl, trivial⟩ ?_
  conv => whnf
  refine call_det (.lit true) (show Ent Try.prog 8 by unfold Ent; kernel_rfl) (fun ad w _ => alive_calls w ad) trivial ?_
  conv => whnf
  refine loop_rule tabOK (by kernel_rfl) (fun i : RI => ⟨[(7, .v (.int .i64 i.k)), (6, .ptr 6 0), (5, .ptr 5 0), (1, .v (.slice A l.length c))], [(5, ([.one (.int .i64 v), .one (.int .u16 M), .one (.slice i.A (rowS v M l i.k).length i.c)], 37)), (6, ([.one (.int .i64 v), .one (.int .u16 M), .one (.slice i.B (rowS v M l i.k).length i.d)], 28))], [], i.pr, i.sw⟩)
    (fun i => i.k ≤ l.length ∧ i.k ≤ 60 ∧ Rd i.pr i.sw i.A (mcells (rowS v M l i.k)) ∧ Rd i.pr i.sw i.B (mcells (rowS v M l i.k)) ∧ Rd i.pr i.sw A (mcells l))
    (fun i => l.length - i.k) ⟨0, none, 0, none, 0, _, w0⟩ ⟨Nat.zero_le _, Nat.zero_le _, Rd.empty _ _ _, Rd.empty _ _ _, hrd⟩ ⟨⟨rfl, rfl, rfl, rfl, trivial⟩, ⟨rfl, rfl, trivial⟩, rfl, fun _ h => h, rfl⟩ ?_
  intro i ⟨hk, hk60, hra, hrb, hrl⟩
  obtain ⟨hok, hlen, hfine⟩ := rowS_ok v M hl i.k hk
  conv => whnf
  refine ⟨fun hc => ?_, fun hc => ?_⟩
  · conv => whnf
    refine ⟨fun hd => ?_, fun hd => ?_⟩
    · conv => whnf
      have hk' : i.k < l.length := by have := of_decide_eq_true hc; omega
      have hk6 : i.k < 60 := by have := of_decide_eq_true hd; omega
      obtain ⟨m, hm⟩ : ∃ m, l[i.k]? = some m := ⟨_, List.getElem?_eq_getElem hk'⟩
      have hmk := hl m (List.mem_of_getElem? hm)
      have hi : (0 : Int) ≤ i.k ∧ (i.k : Int) < l.length ∧ A ≠ none := ⟨by omega, by omega, some_of hrl hk'⟩
      refine draw_rule tabOK mixed [10] [11, 12] pP4_8 [8] (by kernel_rfl) (by kernel_rfl) ?_
      conv => whnf
      refine ⟨hi, ?_⟩
      conv => whnf
      refine xload_row tabOK (t := 32) rfl Mk.segs hrl (fun x _ => segs_len x) m.sok hm (i := i.k) (o := 0) (by rw [Int.toNat_natCast]; rfl) (by decide) ?_
      conv => whnf
      refine call_det (.agg m.segs) ent11 (fun ad w _ => theirs1_calls m w ad) m.sok ?_
      conv => whnf
      refine put_rule h0 h1 hok hmk hra (by omega) fun A1 c1 w1 pr1 hr1 hk1 => ?_
      have hrb1 := Rd.keep hrb hk1
      have hrl1 := Rd.keep hrl hk1
      conv => whnf
      refine draw_rule tabOK mixed [9] [10, 11] pP4_9 [10] (by kernel_rfl) (by kernel_rfl) ?_
      conv => whnf
      refine ⟨hi, ?_⟩
      conv => whnf
      refine xload_row tabOK (t := 32) rfl Mk.segs hrl1 (fun x _ => segs_len x) m.sok hm (i := i.k) (o := 0) (by rw [Int.toNat_natCast]; rfl) (by decide) ?_
      conv => whnf
      refine putR_rule h0 h1 hok hmk hrb1 (by omega) fun A2 c2 w2 pr2 hr2 hk2 => ?_
      have hr12 := Rd.keep hr1 hk2
      have hrl2 := Rd.keep hrl1 hk2
      rw [← rowS_succ hm] at hr12 hr2 ⊢
      obtain ⟨hok', hlen', hfine'⟩ := rowS_ok v M hl (i.k + 1) hk'
      conv => whnf
      refine call_det (chV (chS v M (rowS v M l (i.k + 1)))) ent13 (fun ad w hw => chosen_calls h0 h1 hok' w (hw.rd hr12) (by omega) ad) (chV_ok _) ?_
      conv => whnf
      refine call_det (chV (chS v M (rowS v M l (i.k + 1)))) ent14 (fun ad w hw => chosenR_calls h0 h1 hok' w (hw.rd hr2) (by omega) ad) (chV_ok _) ?_
      conv => whnf
      refine draw_rule tabOK mixed [] [] pP4_14 [] (by kernel_rfl) (by kernel_rfl) ?_
      conv => whnf
      refine ⟨fun h => absurd h (by simp), fun _ => ?_⟩
      conv => whnf
      refine told_rule ent16 (fun w hw => ours_calls hok' w hw (by omega)) hr12 fun A5 c5 w5 pr5 hr5 hk5 => ?_
      have hr25 := Rd.keep hr2 hk5
      have hr15 := Rd.keep hr12 hk5
      have hrl5 := Rd.keep hrl2 hk5
      conv => whnf
      refine call_det (.lit true) ent15 (fun ad w hw => same_calls w (hw.rd hr5) (hw.rd hr25) (by omega) ad) trivial ?_
      conv => whnf
      refine eq_plain (ks := ksChg) (by kernel_rfl) rfl rfl rfl (by exact ⟨rfl, rfl, trivial⟩) (by exact ⟨rfl, rfl, trivial⟩) ?_
      conv => whnf
      refine ⟨fun h => absurd h (by simp [eqS, eq1]), fun _ => ?_⟩
      conv => whnf
      refine ⟨fun h => absurd h (by simp), fun _ => ?_⟩
      conv => whnf
      exact ⟨⟨i.k + 1, A1, c1, A2, c2, pr5, w5⟩, ⟨hk', by show i.k + 1 ≤ 60; omega, hr15, hr25, hrl5⟩, by show l.length - (i.k + 1) < l.length - i.k; omega, ⟨i64_step (m := 100) (by omega) (by omega), rfl, rfl, rfl, trivial⟩, ⟨rfl, rfl, trivial⟩, rfl, fun _ h => h, rfl⟩
    · conv => whnf
      exact fin_ret fun ad => rfl
  · conv => whnf
    exact fin_ret fun ad => rfl
section
open Go.ChangeShapes Go.WideShapes Go.ChangeAt
namespace ballotRow
set_option maxRecDepth 100000 in
theorem lifted (os : Os) (started : os.Started) (H : Type) (enc : TypeId × Value → H) :
    ReturnsInHanded {} Try.checked os 4 .any (Rows.ballotRowSpec.pre6 enc Try.prog Try.f4 Rows.ballotRowRow.domain false) (Rows.ballotRowSpec.post enc Try.prog Try.f4 false true false false) := by
  refine returnsInHanded_of_change_sized (C := Try.checked) own started (by kernel_rfl) Try.func4
    (ChangeSpec.witness6 (enc := enc) (C := Try.checked) false ⟨#[], #[.agg #[.int .i64 0, .int .u16 0], .slice none 0 0], []⟩ 8 (by kernel_rfl) (by kernel_rfl) (by kernel_rfl) (by kernel_rfl)) ?_
  intro W base args ds gs before hval0 hW hcnd hsz0 _
  have hval : ∀ (j : Nat) t v, Try.f4.params[j]? = some t → args[j]? = some v → Value.okWide Try.prog W .any base t v := hval0
  have hW' := hW
  obtain ⟨p, q, hA0, hV, rfl, hfz, hnd⟩ := hW
  have hA : DataW.TrodAll enc Try.prog W 0 (fun _ => true) true Try.f4.params.toList args.toList ds p := hA0
  rw [Try.params4] at hA hval
  obtain ⟨v0, vs0, d0, ds0, p0, q0, hargs, rfl, rfl, h0, r0⟩ := trodAll_cons hA
  obtain ⟨v1, vs1, d1, ds1, p1, q1, rfl, rfl, rfl, h1, r1⟩ := trodAll_cons r0
  obtain ⟨rfl, rfl, rfl⟩ := trodAll_nil r1
  obtain rfl : args = #[v0, v1] := by cases args; simp_all
  obtain ⟨rfl, rfl⟩ := trodVars_none hV
  have k0 := h0
  have lt0 : ∀ x ∈ p0, x.block < W.heap.size := by obtain ⟨m, hm⟩ := k0; exact DataW.trod_lt m _ _ _ hm
  have k1 := h1
  have lt1 : ∀ x ∈ p1, x.block < W.heap.size := by obtain ⟨m, hm⟩ := k1; exact DataW.trod_lt m _ _ _ hm
  obtain ⟨vw, M, rfl, m0, m1⟩ := roll_arg (hval 0 25 v0 rfl rfl) h0
  obtain ⟨A, c, l, rfl, hl, hrd⟩ := casts_arg (hval 1 26 v1 rfl rfl) h1
  clear hA0 hval0 hsz0
  refine (ballotRow_calls m0 m1 hl W hrd id).mono fun e W' ⟨he, bel⟩ => ?_
  subst he
  exact ⟨_, rfl, _, _, _, [], _, [], hW', trodAll_mk1 (shut_bool Try.underlying4 _), (trodAll_cons_mk (Below.trod laidOut (by kernel_rfl) (of_decide_eq_true (by kernel_rfl)) k0 bel lt0) (trodAll_cons_mk (Below.trod laidOut (by kernel_rfl) (of_decide_eq_true (by kernel_rfl)) k1 bel lt1) trodAll_mk0)), rfl, bel.frame _, fun h => by cases h⟩
theorem over : Rows.ballotRowRow.holds Try.pinned (OpenSpec.ofChange Rows.ballotRowSpec) :=
  OpenClaim.holds_of_wide 4 Try.f4 rfl rfl rfl rfl rfl rfl rfl ⟨rfl, rfl, rfl, rfl, rfl⟩ rfl rfl rfl rfl rfl (by kernel_rfl) Try.func4 (by kernel_rfl)
    (of_decide_eq_true (by kernel_rfl)) (by unfold Func.isWrapper; first | (rw [if_pos (by decide +kernel)]; kernel_rfl) | (rw [if_neg (by decide +kernel)]; exact ⟨rfl, rfl⟩))
    (fun os started H enc _ => lifted os started H enc)
end ballotRow
theorem ballotRow_holds : Rows.BallotRowSaid := ballotRow.over
#print axioms ballotRow_holds
end
end Go.Proofs.Ytcgkeepihinegaa
