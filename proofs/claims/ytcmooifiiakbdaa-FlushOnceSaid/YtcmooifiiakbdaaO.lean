/-
  The arguments of the laws, as the symbolic machine has them; FlushPuts, as the statement says it.
-/
import Derived.Test.YtcmooifiiakbdaaRows
import Derived.Test.YtcmooifiiakbdaaN
import Derived.Test.YtcmooifiiakbdaaSxN
import Derived.WalkKit
import Derived.ProofKit
import Derived.OpenShut
import Derived.ShutString
import Derived.ChangeOld
import Derived.Below
import Derived.SizedLaws
set_option linter.unusedVariables false
set_option linter.unusedSimpArgs false
namespace Go.Proofs.Ytcmooifiiakbdaa
open Go.ChangeShapes Go.WideShapes Go.ChangeAt Go.RowKit Go.Sx
theorem own : ownKnob Try.prog.godebug = none := by kernel_rfl
theorem laidOut : laidOutB Try.prog = true := by kernel_rfl
section
variable {H : Type} {enc : TypeId × Value → H} {w : World} {base : Nat} {spare : Nat → Bool} {held : Bool}
theorem mk_open {fuel : Nat} {cs : List Value} {x : DataW H × List MemPlace} (h : DataW.trod enc Try.prog w base spare held fuel 30 cs = some x) : ∃ m : Mk, cs = flat m.segs ∧ m.Ok := by
  obtain ⟨z, xs, rfl, h1, h2, h3⟩ := open_nv (f0 := 5) (f1 := 28) (e := 22) (n := 16) (k0 := .u8) (k := .u16) (P := Try.prog) Try.underlying30 rfl rfl rfl rfl Try.underlying5 (by kernel_rfl) Try.underlying28 Try.underlying22 (by kernel_rfl) (by kernel_rfl) (by kernel_rfl) h
  refine ⟨⟨z, xs⟩, by simp [Mk.segs, flat, Seg.cells], ⟨?_, ?_⟩, h1, fun x hx => ⟨?_, ?_⟩⟩
  · exact h2.1
  · have : z ≤ 255 := h2.2
    show z < 256
    omega
  · exact (h3 x hx).1
  · have : x ≤ 65535 := (h3 x hx).2
    omega
theorem marks_open {fuel : Nat} {cs : List Value} {x : DataW H × List MemPlace} (h : DataW.trod enc Try.prog w base spare held fuel 24 cs = some x) : ∃ (A : Option Addr) (c : Nat) (ms : List Mk), cs = [.slice A ms.length c] ∧ (∀ m ∈ ms, m.Ok) ∧ Rd (fun g => g < w.heap.size) w A (mcells ms) := by
  obtain ⟨A, c, ms, h1, h2, h3⟩ := open_rows (P := Try.prog) (segs := Mk.segs) (Ok := Mk.Ok) Try.underlying24 rfl (fun n cs' y hy => mk_open hy) h
  exact ⟨A, c, ms, h1, h2, h3 _ fun a _ ha => ha⟩
theorem vec_open {fuel : Nat} {cs : List Value} {x : DataW H × List MemPlace} (h : DataW.trod enc Try.prog w base spare held fuel 28 cs = some x) : ∃ v : List Int, cs = v.map (Value.int .u16) ∧ v.length = 16 ∧ ∀ x ∈ v, 0 ≤ x ∧ x < 65536 := by
  obtain ⟨v, h1, h2, h3⟩ := open_arr (P := Try.prog) Try.underlying28 Try.underlying22 (by kernel_rfl) (by kernel_rfl) h
  refine ⟨v, h1, h2, fun x hx => ⟨(h3 x hx).1, ?_⟩⟩
  have : x ≤ 65535 := (h3 x hx).2
  omega
theorem agg_of {cs : Array Value} {l : List Value} (h : cs.toList = l) : Value.agg cs = .agg l.toArray := by rw [← h]
theorem okWide_arr {P : Program} {r : Reach} {b : Nat} {t e : TypeId} {n : Nat} {v : Value} (ht : P.underlying t = some (.array n e)) (h : Value.okWide P w r b t v) : ∃ cs, v = .agg cs := by
  unfold Value.okWide at h
  rw [ht] at h
  obtain ⟨cs, h1, _⟩ := h
  exact ⟨cs, h1⟩
/-- A flush that comes in. -/
theorem flush_arg {r : Reach} {b : Nat} {v : Value} {d : DataW H} {p : List MemPlace} (hv : Value.okWide Try.prog w r b 26 v) (h : DataW.Trod enc Try.prog w base spare held 26 v d p) :
    ∃ (M : Int) (A : Option Addr) (c : Nat) (ms : List Mk), v = (flu M A ms.length c).den id ∧ 0 ≤ M ∧ M < 65536 ∧ (∀ m ∈ ms, m.Ok) ∧ Rd (fun g => g < w.heap.size) w A (mcells ms) := by
  obtain ⟨cs, rfl, hs⟩ := okWide_struct Try.underlying26 hv
  obtain ⟨fuel, hf⟩ := h
  obtain ⟨y0, y1, m, _, hl, g0, g1⟩ := trod_struct2 Try.underlying26 hf
  have g0 : DataW.trod enc Try.prog w base spare held m 23 ((cs.toList.drop 0).take 1) = some y0 := g0
  have g1 : DataW.trod enc Try.prog w base spare held m 24 ((cs.toList.drop 1).take 1) = some y1 := g1
  obtain ⟨M, e0, _, hM⟩ := DataW.trod_int Try.underlying23 g0
  obtain ⟨A, c, ms, e1, hms, hrd⟩ := marks_open g1
  have hl : cs.toList.length = 2 := by rw [Array.length_toList, hs]; rfl
  have e : cs.toList = [.int .u16 M, .slice A ms.length c] := by
    generalize cs.toList = l at *
    match l, hl with
    | [x, y], _ =>
      simp at e0 e1
      rw [e0, e1]
  have hM := wf_range hM
  refine ⟨M, A, c, ms, ?_, hM.1, ?_, hms, hrd⟩
  · rw [agg_of e]; rfl
  · have : M ≤ 65535 := hM.2
    omega
theorem mark_arg {r : Reach} {b : Nat} {v : Value} {d : DataW H} {p : List MemPlace} (hv : Value.okWide Try.prog w r b 30 v) (h : DataW.Trod enc Try.prog w base spare held 30 v d p) : ∃ t : Mk, v = (SV.agg t.segs).den id ∧ t.Ok := by
  obtain ⟨cs, rfl, hs⟩ := okWide_struct Try.underlying30 hv
  obtain ⟨fuel, hf⟩ := h
  obtain ⟨t, e, ht⟩ := mk_open hf
  exact ⟨t, (agg_of (cs := cs) e).trans rfl, ht⟩
theorem vec_arg {r : Reach} {b : Nat} {v : Value} {d : DataW H} {p : List MemPlace} (hv : Value.okWide Try.prog w r b 28 v) (h : DataW.Trod enc Try.prog w base spare held 28 v d p) : ∃ xs : List Int, v = (vec xs).den id ∧ xs.length = 16 ∧ ∀ x ∈ xs, 0 ≤ x ∧ x < 65536 := by
  obtain ⟨cs, rfl⟩ := okWide_arr Try.underlying28 hv
  obtain ⟨fuel, hf⟩ := h
  obtain ⟨xs, e, h1, h2⟩ := vec_open hf
  exact ⟨xs, (agg_of (cs := cs) e).trans (by simp [vec, SV.den, flat, Seg.cells]), h1, h2⟩
end
namespace flushPuts
set_option maxRecDepth 100000 in
theorem lifted (os : Os) (started : os.Started) (H : Type) (enc : TypeId × Value → H) :
    ReturnsInHanded {} Try.checked os 3 .any (Rows.flushPutsSpec.pre6 enc Try.prog Try.f3 Rows.flushPutsRow.domain false) (Rows.flushPutsSpec.post enc Try.prog Try.f3 false true false false) := by
  refine returnsInHanded_of_change_sized (C := Try.checked) own started (by kernel_rfl) Try.func3
    (ChangeSpec.witness6 (enc := enc) (C := Try.checked) false ⟨#[], #[.agg #[.int .u16 0, .slice none 0 0], .agg (#[.int .u8 0] ++ Array.replicate 16 (.int .u16 0)), .agg (Array.replicate 16 (.int .u16 0))], []⟩ 8 (by kernel_rfl) (by kernel_rfl) (by kernel_rfl) (by kernel_rfl)) ?_
  intro W base args ds gs before hval0 hW hcnd hsz0 _
  have hval : ∀ (j : Nat) t v, Try.f3.params[j]? = some t → args[j]? = some v → Value.okWide Try.prog W .any base t v := hval0
  have hW' := hW
  obtain ⟨p, q, hA0, hV, rfl, hfz, hnd⟩ := hW
  have hA : DataW.TrodAll enc Try.prog W 0 (fun _ => true) true Try.f3.params.toList args.toList ds p := hA0
  rw [Try.params3] at hA hval
  obtain ⟨v0, vs0, d0, ds0, p0, q0, hargs, rfl, rfl, h0, r0⟩ := trodAll_cons hA
  obtain ⟨v1, vs1, d1, ds1, p1, q1, rfl, rfl, rfl, h1, r1⟩ := trodAll_cons r0
  obtain ⟨v2, vs2, d2, ds2, p2, q2, rfl, rfl, rfl, h2, r2⟩ := trodAll_cons r1
  obtain ⟨rfl, rfl, rfl⟩ := trodAll_nil r2
  obtain rfl : args = #[v0, v1, v2] := by cases args; simp_all
  obtain ⟨rfl, rfl⟩ := trodVars_none hV
  have k0 := h0
  have k1 := h1
  have k2 := h2
  have lt0 : ∀ x ∈ p0, x.block < W.heap.size := by obtain ⟨m, hm⟩ := k0; exact DataW.trod_lt m _ _ _ hm
  have lt1 : ∀ x ∈ p1, x.block < W.heap.size := by obtain ⟨m, hm⟩ := k1; exact DataW.trod_lt m _ _ _ hm
  have lt2 : ∀ x ∈ p2, x.block < W.heap.size := by obtain ⟨m, hm⟩ := k2; exact DataW.trod_lt m _ _ _ hm
  obtain ⟨M, A, c, ms, rfl, m0, m1, hms, hrd⟩ := flush_arg (hval 0 26 v0 rfl rfl) h0
  obtain ⟨t, rfl, ht⟩ := mark_arg (hval 1 30 v1 rfl rfl) h1
  obtain ⟨v, rfl, hv, _⟩ := vec_arg (hval 2 28 v2 rfl rfl) h2
  clear hA0 hval0 hsz0
  refine (flushPuts_all m0 m1 hms ht hv W hrd id).mono fun e W' ⟨he, bel⟩ => ?_
  subst he
  exact ⟨_, rfl, _, _, _, [], _, [], hW', trodAll_mk1 (shut_bool Try.underlying4 _), (trodAll_cons_mk (Below.trod laidOut (by kernel_rfl) (of_decide_eq_true (by kernel_rfl)) k0 bel lt0) (trodAll_cons_mk (Below.trod laidOut (by kernel_rfl) (of_decide_eq_true (by kernel_rfl)) k1 bel lt1) (trodAll_cons_mk (Below.trod laidOut (by kernel_rfl) (of_decide_eq_true (by kernel_rfl)) k2 bel lt2) trodAll_mk0))), rfl, bel.frame _, fun h => by cases h⟩
theorem over : Rows.flushPutsRow.holds Try.pinned (OpenSpec.ofChange Rows.flushPutsSpec) :=
  OpenClaim.holds_of_wide 3 Try.f3 rfl rfl rfl rfl rfl rfl rfl ⟨rfl, rfl, rfl, rfl, rfl⟩ rfl rfl rfl rfl rfl (by kernel_rfl) Try.func3 (by kernel_rfl)
    (of_decide_eq_true (by kernel_rfl)) (by unfold Func.isWrapper; first | (rw [if_pos (by decide +kernel)]; kernel_rfl) | (rw [if_neg (by decide +kernel)]; exact ⟨rfl, rfl⟩))
    (fun os started H enc _ => lifted os started H enc)
end flushPuts
theorem flushPuts_holds : Rows.FlushPutsSaid := flushPuts.over
#print axioms flushPuts_holds
end Go.Proofs.Ytcmooifiiakbdaa
