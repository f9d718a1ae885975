/-
  FlushRow: for every number of members and every list of marks the law returns true: walked, and told as the statement says it.
-/
import Derived.Test.YtcmooifiiakbdaaO
set_option linter.unusedVariables false
set_option linter.unusedSimpArgs false
namespace Go.Proofs.Ytcmooifiiakbdaa
open Go Go.Sx Go.RowKit
set_option maxHeartbeats 1000000
set_option maxRecDepth 20000
/-- The marks behind the first k puts. -/
def rowS (M : Int) (l : List Mk) (k : Nat) : List Mk := (l.take k).foldl (fun acc t => (putS M acc t).1) []
theorem rowS_succ {M : Int} {l : List Mk} {k : Nat} {m : Mk} (hm : l[k]? = some m) : rowS M l (k + 1) = (putS M (rowS M l k) m).1 := by
  unfold rowS; rw [take_step hm, List.foldl_append]; rfl
theorem rowS_ok (M : Int) {l : List Mk} (h : ∀ m ∈ l, m.Ok) : ∀ k, k ≤ l.length → (∀ m ∈ rowS M l k, m.Ok) ∧ (rowS M l k).length ≤ k
  | 0, _ => ⟨fun m hm => by simp [rowS] at hm, by simp [rowS]⟩
  | k + 1, hk => by
    obtain ⟨h1, h2⟩ := rowS_ok M h k (by omega)
    obtain ⟨m, hm⟩ : ∃ m, l[k]? = some m := ⟨_, List.getElem?_eq_getElem (by omega)⟩
    rw [rowS_succ hm]
    refine ⟨putS_ok h1 (h m (List.mem_of_getElem? hm)), ?_⟩
    have := putS_len M (rowS M l k) m
    omega
structure RI where
  k : Nat
  A : Option Addr
  c : Nat
  B : Option Addr
  d : Nat
  pr : Nat → Prop
  sw : World
theorem flushRow_calls {M : Int} (h0 : 0 ≤ M) (h1 : M < 65536) {A : Option Addr} {c : Nat} {l : List Mk} (hl : ∀ m ∈ l, m.Ok) (w0 : World) (hrd : Rd (fun g => g < w0.heap.size) w0 A (mcells l)) :
    ∀ ad, Calls Try.prog 4 (SV.dens ad [.v (.int .u16 M), .v (.slice A l.length c)]).toArray w0 (Ret w0 (.bool true)) := by
  refine calls_sound tabOK Try.func4 rfl (by kernel_rfl) (Nat.le_of_ble_eq_true rfl) ⟨rfl, rfl, trivial⟩ ?_
  conv => whnf
  have hsz : ∀ x ∈ l, (flat x.segs).length = 17 := fun x hx => segs_len (hl x hx)
  have hA : ∀ {k : Nat}, k < l.length → A ≠ none := fun {k} h => hrd.some fun e => by
    have := congrArg List.length e
    rw [mcells_len hl] at this
    simp at this; omega
  refine call_det (.lit true) (show Ent Try.prog 8 by unfold Ent; kernel_rfl) (fun ad w _ => alive_calls w ad) trivial ?_
  conv => whnf
  refine loop_rule tabOK (by kernel_rfl) (fun i : RI => ⟨[(7, .v (.int .i64 i.k)), (6, .ptr 6 0), (5, .ptr 5 0), (1, .v (.slice A l.length c))], [(5, ([.one (.int .u16 M), .one (.slice i.A (rowS M l i.k).length i.c)], 34)), (6, ([.one (.int .u16 M), .one (.slice i.B (rowS M l i.k).length i.d)], 26))], [], i.pr, i.sw⟩)
    (fun i => i.k ≤ l.length ∧ i.k ≤ 40 ∧ Rd i.pr i.sw i.A (mcells (rowS M l i.k)) ∧ Rd i.pr i.sw i.B (mcells (rowS M l i.k)) ∧ Rd i.pr i.sw A (mcells l))
    (fun i => l.length - i.k) ⟨0, none, 0, none, 0, _, w0⟩ ⟨Nat.zero_le _, Nat.zero_le _, Rd.empty _ _ _, Rd.empty _ _ _, hrd⟩ ⟨⟨rfl, rfl, rfl, rfl, trivial⟩, ⟨rfl, rfl, trivial⟩, rfl, fun _ h => h, rfl⟩ ?_
  intro i ⟨hk, hk40, hra, hrb, hrl⟩
  obtain ⟨hok, hlen⟩ := rowS_ok M hl i.k hk
  conv => whnf
  refine ⟨fun hc => ?_, fun hc => ?_⟩
  · conv => whnf
    refine ⟨fun hd => ?_, fun hd => ?_⟩
    · conv => whnf
      have hk' : i.k < l.length := by have := of_decide_eq_true hc; omega
      have hk4 : i.k < 40 := by have := of_decide_eq_true hd; omega
      obtain ⟨m, hm⟩ : ∃ m, l[i.k]? = some m := ⟨_, List.getElem?_eq_getElem hk'⟩
      have hmk := hl m (List.mem_of_getElem? hm)
      have hi : (0 : Int) ≤ i.k ∧ (i.k : Int) < l.length ∧ A ≠ none := ⟨by omega, by omega, hA hk'⟩
      refine draw_rule tabOK mixed [9] [10, 11] pP4_8 [8] (by kernel_rfl) (by kernel_rfl) ?_
      conv => whnf
      refine ⟨hi, ?_⟩
      conv => whnf
      refine xload_row tabOK (t := 30) rfl Mk.segs hrl hsz ⟨rfl, hmk.2.1, trivial⟩ hm (i := i.k) (o := 0) (by rw [Int.toNat_natCast]; rfl) (by decide) ?_
      conv => whnf
      refine put_rule h0 h1 hok hmk hra (by omega) fun A1 c1 w1 pr1 hr1 hk1 => ?_
      have hrb1 := Rd.keep hrb hk1
      have hrl1 := Rd.keep hrl hk1
      conv => whnf
      refine draw_rule tabOK mixed [9] [10, 11] pP4_9 [10] (by kernel_rfl) (by kernel_rfl) ?_
      conv => whnf
      refine ⟨hi, ?_⟩
      conv => whnf
      refine xload_row tabOK (t := 30) rfl Mk.segs hrl1 hsz ⟨rfl, hmk.2.1, trivial⟩ hm (i := i.k) (o := 0) (by rw [Int.toNat_natCast]; rfl) (by decide) ?_
      conv => whnf
      refine putR_rule h0 h1 hok hmk hrb1 (by omega) fun A2 c2 w2 pr2 hr2 hk2 => ?_
      have hr12 := Rd.keep hr1 hk2
      have hrl2 := Rd.keep hrl1 hk2
      rw [← rowS_succ hm] at hr12 hr2 ⊢
      obtain ⟨hok', hlen'⟩ := rowS_ok M hl (i.k + 1) hk'
      conv => whnf
      refine call_det (.tup [vec (tgtV M (rowS M l (i.k + 1))), .v (.bool (tgtB M (rowS M l (i.k + 1))))]) ent12 (fun ad w hw => target_calls h0 h1 hok' w (hw.rd hr12) (by omega) ad) ⟨⟨tgtV_len hok', trivial⟩, rfl, trivial⟩ ?_
      conv => whnf
      refine call_det (.tup [vec (tgtV M (rowS M l (i.k + 1))), .v (.bool (tgtB M (rowS M l (i.k + 1))))]) ent13 (fun ad w hw => targetR_calls h0 h1 hok' w (hw.rd hr2) (by omega) ad) ⟨⟨tgtV_len hok', trivial⟩, rfl, trivial⟩ ?_
      conv => whnf
      refine draw_rule tabOK mixed [] [] pP4_14 [] (by kernel_rfl) (by kernel_rfl) ?_
      conv => whnf
      refine ⟨fun h => absurd h (by simp), fun _ => ?_⟩
      conv => whnf
      refine told_rule ent15 (fun w hw => ours_calls hok' w hw (by omega)) hr12 fun A5 c5 w5 pr5 hr5 hk5 => ?_
      have hr25 := Rd.keep hr2 hk5
      have hr15 := Rd.keep hr12 hk5
      have hrl5 := Rd.keep hrl2 hk5
      conv => whnf
      refine call_det (.lit true) ent14 (fun ad w hw => same_calls hok' w (hw.rd hr5) (hw.rd hr25) (by omega) ad) trivial ?_
      conv => whnf
      refine eq_arr (e := 22) (n := 16) (k := .u16) (by kernel_rfl) (tgtV_len hok') (tgtV_len hok') ?_
      conv => whnf
      refine ⟨fun h => absurd h (by simp), fun _ => ?_⟩
      conv => whnf
      refine ⟨fun h => absurd h (by simp), fun _ => ?_⟩
      conv => whnf
      exact ⟨⟨i.k + 1, A1, c1, A2, c2, pr5, w5⟩, ⟨hk', by show i.k + 1 ≤ 40; omega, hr15, hr25, hrl5⟩, by show l.length - (i.k + 1) < l.length - i.k; omega, ⟨i64_step (m := 100) (by omega) (by omega), rfl, rfl, rfl, trivial⟩, ⟨rfl, rfl, trivial⟩, rfl, fun _ h => h, rfl⟩
    · conv => whnf
      exact fin_ret fun ad => rfl
  · conv => whnf
    exact fin_ret fun ad => rfl
section
open Go.ChangeShapes Go.WideShapes Go.ChangeAt
variable {H : Type} {enc : TypeId × Value → H} {w : World} {base : Nat} {spare : Nat → Bool} {held : Bool}
theorem marks_arg {r : Reach} {b : Nat} {v : Value} {d : DataW H} {p : List MemPlace} (hv : Value.okWide Try.prog w r b 24 v) (h : DataW.Trod enc Try.prog w base spare held 24 v d p) : ∃ (A : Option Addr) (c : Nat) (ms : List Mk), v = .slice A ms.length c ∧ (∀ m ∈ ms, m.Ok) ∧ Rd (fun g => g < w.heap.size) w A (mcells ms) := by
  obtain ⟨a, n, c, rfl⟩ := okWide_slice Try.underlying24 hv
  obtain ⟨fuel, hf⟩ := h
  obtain ⟨A, c', ms, e, h1, h2⟩ := marks_open hf
  have e : [Value.slice a n c] = [.slice A ms.length c'] := e
  simp only [List.cons.injEq, and_true] at e
  exact ⟨A, c', ms, e, h1, h2⟩
theorem u16_arg {r : Reach} {b : Nat} {v : Value} {d : DataW H} {p : List MemPlace} (hv : Value.okWide Try.prog w r b 23 v) (h : DataW.Trod enc Try.prog w base spare held 23 v d p) : ∃ z : Int, v = .int .u16 z ∧ 0 ≤ z ∧ z < 65536 := by
  obtain ⟨z, rfl, _, _, wf⟩ := open_int Try.underlying23 hv h
  have := wf_range wf
  refine ⟨z, rfl, this.1, ?_⟩
  have : z ≤ 65535 := this.2
  omega
theorem u8_arg {r : Reach} {b : Nat} {v : Value} {d : DataW H} {p : List MemPlace} (hv : Value.okWide Try.prog w r b 5 v) (h : DataW.Trod enc Try.prog w base spare held 5 v d p) : ∃ z : Int, v = .int .u8 z ∧ 0 ≤ z ∧ z < 256 := by
  obtain ⟨z, rfl, _, _, wf⟩ := open_int Try.underlying5 hv h
  have := wf_range wf
  refine ⟨z, rfl, this.1, ?_⟩
  have : z ≤ 255 := this.2
  omega
namespace flushRow
set_option maxRecDepth 100000 in
theorem lifted (os : Os) (started : os.Started) (H : Type) (enc : TypeId × Value → H) :
    ReturnsInHanded {} Try.checked os 4 .any (Rows.flushRowSpec.pre6 enc Try.prog Try.f4 Rows.flushRowRow.domain false) (Rows.flushRowSpec.post enc Try.prog Try.f4 false true false false) := by
  refine returnsInHanded_of_change_sized (C := Try.checked) own started (by kernel_rfl) Try.func4
    (ChangeSpec.witness6 (enc := enc) (C := Try.checked) false ⟨#[], #[.int .u16 0, .slice none 0 0], []⟩ 8 (by kernel_rfl) (by kernel_rfl) (by kernel_rfl) (by kernel_rfl)) ?_
  intro W base args ds gs before hval0 hW hcnd hsz0 _
  have hval : ∀ (j : Nat) t v, Try.f4.params[j]? = some t → args[j]? = some v → Value.okWide Try.prog W .any base t v := hval0
  have hW' := hW
  obtain ⟨p, q, hA0, hV, rfl, hfz, hnd⟩ := hW
  have hA : DataW.TrodAll enc Try.prog W 0 (fun _ => true) true Try.f4.params.toList args.toList ds p := hA0
  rw [Try.params4] at hA hval
  obtain ⟨v0, vs0, d0, ds0, p0, q0, hargs, rfl, rfl, h0, r0⟩ := trodAll_cons hA
  obtain ⟨v1, vs1, d1, ds1, p1, q1, rfl, rfl, rfl, h1, r1⟩ := trodAll_cons r0
  obtain ⟨rfl, rfl, rfl⟩ := trodAll_nil r1
  obtain rfl : args = #[v0, v1] := by cases args; simp_all
  obtain ⟨rfl, rfl⟩ := trodVars_none hV
  have k0 := h0
  have lt0 : ∀ x ∈ p0, x.block < W.heap.size := by obtain ⟨m, hm⟩ := k0; exact DataW.trod_lt m _ _ _ hm
  have k1 := h1
  have lt1 : ∀ x ∈ p1, x.block < W.heap.size := by obtain ⟨m, hm⟩ := k1; exact DataW.trod_lt m _ _ _ hm
  obtain ⟨z0, rfl, a0, b0⟩ := u16_arg (hval 0 23 v0 rfl rfl) h0
  obtain ⟨A1, c1, ms1, rfl, hms1, hrd1⟩ := marks_arg (hval 1 24 v1 rfl rfl) h1
  clear hA0 hval0 hsz0
  refine (flushRow_calls a0 b0 hms1 W hrd1 id).mono fun e W' ⟨he, bel⟩ => ?_
  subst he
  exact ⟨_, rfl, _, _, _, [], _, [], hW', trodAll_mk1 (shut_bool Try.underlying4 _), (trodAll_cons_mk (Below.trod laidOut (by kernel_rfl) (of_decide_eq_true (by kernel_rfl)) k0 bel lt0) (trodAll_cons_mk (Below.trod laidOut (by kernel_rfl) (of_decide_eq_true (by kernel_rfl)) k1 bel lt1) trodAll_mk0)), rfl, bel.frame _, fun h => by cases h⟩
theorem over : Rows.flushRowRow.holds Try.pinned (OpenSpec.ofChange Rows.flushRowSpec) :=
  OpenClaim.holds_of_wide 4 Try.f4 rfl rfl rfl rfl rfl rfl rfl ⟨rfl, rfl, rfl, rfl, rfl⟩ rfl rfl rfl rfl rfl (by kernel_rfl) Try.func4 (by kernel_rfl)
    (of_decide_eq_true (by kernel_rfl)) (by unfold Func.isWrapper; first | (rw [if_pos (by decide +kernel)]; kernel_rfl) | (rw [if_neg (by decide +kernel)]; exact ⟨rfl, rfl⟩))
    (fun os started H enc _ => lifted os started H enc)
end flushRow
theorem flushRow_holds : Rows.FlushRowSaid := flushRow.over
#print axioms flushRow_holds
end
end Go.Proofs.Ytcmooifiiakbdaa
