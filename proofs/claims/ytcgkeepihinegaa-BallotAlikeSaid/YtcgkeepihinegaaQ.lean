/-
  The arguments of the laws, as the symbolic machine has them; BallotPuts, as the statement says it.
-/
import Derived.Test.YtcgkeepihinegaaRows
import Derived.Test.YtcgkeepihinegaaO
import Derived.Test.YtcgkeepihinegaaSxQ
import Derived.WalkKit
import Derived.ProofKit
import Derived.OpenShut
import Derived.ShutString
import Derived.ChangeOld
import Derived.Below
import Derived.SizedLaws
set_option linter.unusedVariables false
set_option linter.unusedSimpArgs false
namespace Go.Proofs.Ytcgkeepihinegaa
open Go.ChangeShapes Go.WideShapes Go.ChangeAt Go.RowKit Go.Sx
theorem own : ownKnob Try.prog.godebug = none := by kernel_rfl
theorem laidOut : laidOutB Try.prog = true := by kernel_rfl
section
variable {H : Type} {enc : TypeId × Value → H} {w : World} {base : Nat} {spare : Nat → Bool} {held : Bool}
theorem u8_rng {n : Int} (h : IntKind.min .u8 ≤ n ∧ n ≤ IntKind.max .u8) : 0 ≤ n ∧ n < 256 := by
  have h1 : (0 : Int) ≤ n := h.1
  have h2 : n ≤ 255 := h.2
  omega
theorem u16_rng {n : Int} (h : IntKind.min .u16 ≤ n ∧ n ≤ IntKind.max .u16) : 0 ≤ n ∧ n < 65536 := by
  have h1 : (0 : Int) ≤ n := h.1
  have h2 : n ≤ 65535 := h.2
  omega
theorem cast_open {fuel : Nat} {cs : List Value} {x : DataW H × List MemPlace} (h : DataW.trod enc Try.prog w base spare held fuel 32 cs = some x) : ∃ m : Mk, cs = flat m.segs ∧ m.Ok := by
  have hf := open_plain (ks := ksCast) (by kernel_rfl) h
  obtain ⟨_, _, rfl, ⟨a, rfl, ha⟩, hf1⟩ := hf.cons
  obtain ⟨_, _, rfl, ⟨b, rfl⟩, hf2⟩ := hf1.cons
  obtain ⟨_, _, rfl, ⟨c, rfl, hc⟩, hf3⟩ := hf2.cons
  obtain rfl := hf3.nil
  exact ⟨⟨a, b, c⟩, rfl, u8_rng ha, u8_rng hc⟩
theorem casts_open {fuel : Nat} {cs : List Value} {x : DataW H × List MemPlace} (h : DataW.trod enc Try.prog w base spare held fuel 26 cs = some x) : ∃ (A : Option Addr) (c : Nat) (ms : List Mk), cs = [.slice A ms.length c] ∧ (∀ m ∈ ms, m.Ok) ∧ Rd (fun g => g < w.heap.size) w A (mcells ms) := by
  obtain ⟨A, c, ms, h1, h2, h3⟩ := open_rows (P := Try.prog) (segs := Mk.segs) (Ok := Mk.Ok) Try.underlying26 rfl (fun n cs' y hy => cast_open hy) h
  exact ⟨A, c, ms, h1, h2, h3 _ fun a _ ha => ha⟩
theorem roll_open {fuel : Nat} {cs : List Value} {x : DataW H × List MemPlace} (h : DataW.trod enc Try.prog w base spare held fuel 25 cs = some x) : ∃ v M : Int, cs = [.int .i64 v, .int .u16 M] ∧ 0 ≤ M ∧ M < 65536 := by
  have hf := open_plain (ks := ksRoll) (by kernel_rfl) h
  obtain ⟨_, _, rfl, ⟨a, rfl, ha⟩, hf1⟩ := hf.cons
  obtain ⟨_, _, rfl, ⟨b, rfl, hb⟩, hf2⟩ := hf1.cons
  obtain rfl := hf2.nil
  exact ⟨a, b, rfl, (u16_rng hb).1, (u16_rng hb).2⟩
theorem agg_of {cs : Array Value} {l : List Value} (h : cs.toList = l) : Value.agg cs = .agg l.toArray := by rw [← h]
theorem box_arg {r : Reach} {b : Nat} {v : Value} {d : DataW H} {p : List MemPlace} (hv : Value.okWide Try.prog w r b 28 v) (h : DataW.Trod enc Try.prog w base spare held 28 v d p) :
    ∃ (vw M : Int) (A : Option Addr) (c : Nat) (ms : List Mk), v = (bx vw M A ms.length c).den id ∧ 0 ≤ M ∧ M < 65536 ∧ (∀ m ∈ ms, m.Ok) ∧ Rd (fun g => g < w.heap.size) w A (mcells ms) := by
  obtain ⟨cs, rfl, hs⟩ := okWide_struct Try.underlying28 hv
  obtain ⟨fuel, hf⟩ := h
  obtain ⟨y0, y1, m, _, hl, g0, g1⟩ := trod_struct2 Try.underlying28 hf
  have g0 : DataW.trod enc Try.prog w base spare held m 25 ((cs.toList.drop 0).take 2) = some y0 := g0
  have g1 : DataW.trod enc Try.prog w base spare held m 26 ((cs.toList.drop 2).take 1) = some y1 := g1
  obtain ⟨vw, M, e0, m0, m1⟩ := roll_open g0
  obtain ⟨A, c, ms, e1, hms, hrd⟩ := casts_open g1
  have hl : cs.toList.length = 3 := by rw [Array.length_toList, hs]; rfl
  have e : cs.toList = [.int .i64 vw, .int .u16 M, .slice A ms.length c] := by
    generalize cs.toList = l at *
    match l, hl with
    | [x, y, z], _ =>
      simp at e0 e1
      rw [e0.1, e0.2, e1]
  exact ⟨vw, M, A, c, ms, (agg_of e).trans rfl, m0, m1, hms, hrd⟩
theorem cast_arg {r : Reach} {b : Nat} {v : Value} {d : DataW H} {p : List MemPlace} (hv : Value.okWide Try.prog w r b 32 v) (h : DataW.Trod enc Try.prog w base spare held 32 v d p) : ∃ t : Mk, v = (SV.agg t.segs).den id ∧ t.Ok := by
  obtain ⟨cs, rfl, hs⟩ := okWide_struct Try.underlying32 hv
  obtain ⟨fuel, hf⟩ := h
  obtain ⟨t, e, ht⟩ := cast_open hf
  exact ⟨t, (agg_of (cs := cs) e).trans rfl, ht⟩
theorem roll_arg {r : Reach} {b : Nat} {v : Value} {d : DataW H} {p : List MemPlace} (hv : Value.okWide Try.prog w r b 25 v) (h : DataW.Trod enc Try.prog w base spare held 25 v d p) : ∃ vw M : Int, v = (rol vw M).den id ∧ 0 ≤ M ∧ M < 65536 := by
  obtain ⟨cs, rfl, hs⟩ := okWide_struct Try.underlying25 hv
  obtain ⟨fuel, hf⟩ := h
  obtain ⟨vw, M, e, m0, m1⟩ := roll_open hf
  exact ⟨vw, M, (agg_of (cs := cs) e).trans rfl, m0, m1⟩
theorem casts_arg {r : Reach} {b : Nat} {v : Value} {d : DataW H} {p : List MemPlace} (hv : Value.okWide Try.prog w r b 26 v) (h : DataW.Trod enc Try.prog w base spare held 26 v d p) : ∃ (A : Option Addr) (c : Nat) (ms : List Mk), v = .slice A ms.length c ∧ (∀ m ∈ ms, m.Ok) ∧ Rd (fun g => g < w.heap.size) w A (mcells ms) := by
  obtain ⟨a, n, c, rfl⟩ := okWide_slice Try.underlying26 hv
  obtain ⟨fuel, hf⟩ := h
  obtain ⟨A, c', ms, e, h1, h2⟩ := casts_open hf
  have e : [Value.slice a n c] = [.slice A ms.length c'] := e
  simp only [List.cons.injEq, and_true] at e
  exact ⟨A, c', ms, e, h1, h2⟩
end
namespace ballotPuts
set_option maxRecDepth 100000 in
theorem lifted (os : Os) (started : os.Started) (H : Type) (enc : TypeId × Value → H) :
    ReturnsInHanded {} Try.checked os 3 .any (Rows.ballotPutsSpec.pre6 enc Try.prog Try.f3 Rows.ballotPutsRow.domain false) (Rows.ballotPutsSpec.post enc Try.prog Try.f3 false true false false) := by
  refine returnsInHanded_of_change_sized (C := Try.checked) own started (by kernel_rfl) Try.func3
    (ChangeSpec.witness6 (enc := enc) (C := Try.checked) false ⟨#[], #[.agg #[.int .i64 0, .int .u16 0, .slice none 0 0], .agg #[.int .u8 0, .bool false, .int .u8 0]], []⟩ 8 (by kernel_rfl) (by kernel_rfl) (by kernel_rfl) (by kernel_rfl)) ?_
  intro W base args ds gs before hval0 hW hcnd hsz0 _
  have hval : ∀ (j : Nat) t v, Try.f3.params[j]? = some t → args[j]? = some v → Value.okWide Try.prog W .any base t v := hval0
  have hW' := hW
  obtain ⟨p, q, hA0, hV, rfl, hfz, hnd⟩ := hW
  have hA : DataW.TrodAll enc Try.prog W 0 (fun _ => true) true Try.f3.params.toList args.toList ds p := hA0
  rw [Try.params3] at hA hval
  obtain ⟨v0, vs0, d0, ds0, p0, q0, hargs, rfl, rfl, h0, r0⟩ := trodAll_cons hA
  obtain ⟨v1, vs1, d1, ds1, p1, q1, rfl, rfl, rfl, h1, r1⟩ := trodAll_cons r0
  obtain ⟨rfl, rfl, rfl⟩ := trodAll_nil r1
  obtain rfl : args = #[v0, v1] := by cases args; simp_all
  obtain ⟨rfl, rfl⟩ := trodVars_none hV
  have k0 := h0
  have lt0 : ∀ x ∈ p0, x.block < W.heap.size := by obtain ⟨m, hm⟩ := k0; exact DataW.trod_lt m _ _ _ hm
  have k1 := h1
  have lt1 : ∀ x ∈ p1, x.block < W.heap.size := by obtain ⟨m, hm⟩ := k1; exact DataW.trod_lt m _ _ _ hm
  obtain ⟨vw, M, A, c, ms, rfl, m0, m1, hms, hrd⟩ := box_arg (hval 0 28 v0 rfl rfl) h0
  obtain ⟨t, rfl, ht⟩ := cast_arg (hval 1 32 v1 rfl rfl) h1
  clear hA0 hval0 hsz0
  refine (ballotPuts_calls m0 m1 hms ht W hrd id).mono fun e W' ⟨he, bel⟩ => ?_
  subst he
  exact ⟨_, rfl, _, _, _, [], _, [], hW', trodAll_mk1 (shut_bool Try.underlying4 _), (trodAll_cons_mk (Below.trod laidOut (by kernel_rfl) (of_decide_eq_true (by kernel_rfl)) k0 bel lt0) (trodAll_cons_mk (Below.trod laidOut (by kernel_rfl) (of_decide_eq_true (by kernel_rfl)) k1 bel lt1) trodAll_mk0)), rfl, bel.frame _, fun h => by cases h⟩
theorem over : Rows.ballotPutsRow.holds Try.pinned (OpenSpec.ofChange Rows.ballotPutsSpec) :=
  OpenClaim.holds_of_wide 3 Try.f3 rfl rfl rfl rfl rfl rfl rfl ⟨rfl, rfl, rfl, rfl, rfl⟩ rfl rfl rfl rfl rfl (by kernel_rfl) Try.func3 (by kernel_rfl)
    (of_decide_eq_true (by kernel_rfl)) (by unfold Func.isWrapper; first | (rw [if_pos (by decide +kernel)]; kernel_rfl) | (rw [if_neg (by decide +kernel)]; exact ⟨rfl, rfl⟩))
    (fun os started H enc _ => lifted os started H enc)
end ballotPuts
theorem ballotPuts_holds : Rows.BallotPutsSaid := ballotPuts.over
#print axioms ballotPuts_holds
end Go.Proofs.Ytcgkeepihinegaa
