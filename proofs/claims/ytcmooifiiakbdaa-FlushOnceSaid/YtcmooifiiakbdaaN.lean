/-
  The rules for the calls of the laws; alive, walked.
-/
import Derived.Test.YtcmooifiiakbdaaM
set_option linter.unusedVariables false
set_option linter.unusedSimpArgs false
namespace Go.Proofs.Ytcmooifiiakbdaa
open Go Go.Sx Go.RowKit
set_option maxHeartbeats 1000000
set_option maxRecDepth 20000
theorem ent9 : Ent Try.prog 9 := by unfold Ent; kernel_rfl
theorem ent10 : Ent Try.prog 10 := by unfold Ent; kernel_rfl
theorem ent11 : Ent Try.prog 11 := by unfold Ent; kernel_rfl
theorem ent14 : Ent Try.prog 14 := by unfold Ent; kernel_rfl
theorem ent15 : Ent Try.prog 15 := by unfold Ent; kernel_rfl
theorem ent16 : Ent Try.prog 16 := by unfold Ent; kernel_rfl
theorem ent17 : Ent Try.prog 17 := by unfold Ent; kernel_rfl
section
variable {n : Nat} {w0 : Base} {kp : Bool} {d : Nat} {ts : List (Nat × SV)} {bs : List (Nat × (List Seg × TypeId))} {ds : List (FuncId × List SV)} {pr : Nat → Prop} {sw : World} {K : St → Prop} {Q : Exit → St → Prop}
theorem put_rule {M : Int} (h0 : 0 ≤ M) (h1 : M < 65536) {A : Option Addr} {c : Nat} {ms : List Mk} {t : Mk} (hms : ∀ m ∈ ms, m.Ok) (ht : t.Ok) (hrd : Rd pr sw A (mcells ms)) (hn : ms.length < 10000)
    (hk : ∀ A' c' w' pr', Rd pr' w' A' (mcells (putS M ms t).1) → (∀ q, pr q → pr' q ∧ w'.heap[q]? = sw.heap[q]?) → K ⟨(d, .tup [flu M A' (putS M ms t).1.length c', .v (.int .i64 (putS M ms t).2)]) :: ts, bs, ds, pr', w'⟩) :
    CallVC Try.prog n w0 kp (some d) 9 [flu M A ms.length c, .agg t.segs] ⟨ts, bs, ds, pr, sw⟩ K Q := by
  refine call_new (fun _ w => PutR M (putS M ms t) w) ent9 (fun ad w hw => put_calls h0 h1 hms ht w (hw.rd hrd) hn ad) ?_
  rintro ad w e w' hw ⟨⟨A', c', rfl, hr⟩, hb⟩
  refine ⟨.tup [flu M A' (putS M ms t).1.length c', .v (.int .i64 (putS M ms t).2)], rfl, ⟨⟨rfl, rfl, trivial⟩, rfl, trivial⟩, hb, fun pr' h2 h3 h4 h5 h6 => hk A' c' w' pr' ?_ fun q hq => ⟨h4 q hq, h2 q hq⟩⟩
  intro j v hj
  obtain ⟨a, ha, hpa, hcell⟩ := hr j v hj
  exact ⟨a, ha, h5 _ hpa.1 hpa.2, hcell⟩
theorem putR_rule {M : Int} (h0 : 0 ≤ M) (h1 : M < 65536) {A : Option Addr} {c : Nat} {ms : List Mk} {t : Mk} (hms : ∀ m ∈ ms, m.Ok) (ht : t.Ok) (hrd : Rd pr sw A (mcells ms)) (hn : ms.length < 10000)
    (hk : ∀ A' c' w' pr', Rd pr' w' A' (mcells (putS M ms t).1) → (∀ q, pr q → pr' q ∧ w'.heap[q]? = sw.heap[q]?) → K ⟨(d, .tup [flu M A' (putS M ms t).1.length c', .v (.int .i64 (putS M ms t).2)]) :: ts, bs, ds, pr', w'⟩) :
    CallVC Try.prog n w0 kp (some d) 11 [flu M A ms.length c, .agg t.segs] ⟨ts, bs, ds, pr, sw⟩ K Q := by
  refine call_new (fun _ w => PutRR M A c ms (putS M ms t) w) ent11 (fun ad w hw => putR_calls h0 h1 hms ht w (hw.rd hrd) hn ad) ?_
  rintro ad w e w' hw ⟨h | ⟨A', c', rfl, hr⟩, hb⟩
  · obtain ⟨h7, rfl⟩ := h
    refine ⟨.tup [flu M A ms.length c, .v (.int .i64 (putS M ms t).2)], rfl, ⟨⟨rfl, rfl, trivial⟩, rfl, trivial⟩, hb, fun pr' h2 h3 h4 h5 h6 => ?_⟩
    have := hk A c w' pr' (by rw [h7]; exact hrd.world h2 h4) fun q hq => ⟨h4 q hq, h2 q hq⟩
    rw [h7] at this
    exact this
  · refine ⟨.tup [flu M A' (putS M ms t).1.length c', .v (.int .i64 (putS M ms t).2)], rfl, ⟨⟨rfl, rfl, trivial⟩, rfl, trivial⟩, hb, fun pr' h2 h3 h4 h5 h6 => hk A' c' w' pr' ?_ fun q hq => ⟨h4 q hq, h2 q hq⟩⟩
    intro j v hj
    obtain ⟨a, ha, hpa, hcell⟩ := hr j v hj
    exact ⟨a, ha, h5 _ hpa.1 hpa.2, hcell⟩
theorem told_rule {g : Nat} (hent : Ent Try.prog g) {M : Int} {A : Option Addr} {c : Nat} {ms : List Mk} (hg : ∀ (w : World), Rd (fun g => g < w.heap.size) w A (mcells ms) → ∀ ad, Calls Try.prog g (SV.dens ad [flu M A ms.length c]).toArray w (ToldR M ms w)) (hrd : Rd pr sw A (mcells ms))
    (hk : ∀ A' c' w' pr', Rd pr' w' A' (mcells ms) → (∀ q, pr q → pr' q ∧ w'.heap[q]? = sw.heap[q]?) → K ⟨(d, flu M A' ms.length c') :: ts, bs, ds, pr', w'⟩) :
    CallVC Try.prog n w0 kp (some d) g [flu M A ms.length c] ⟨ts, bs, ds, pr, sw⟩ K Q := by
  refine call_new (fun _ w => ToldR M ms w) hent (fun ad w hw => hg w (hw.rd hrd) ad) ?_
  rintro ad w e w' hw ⟨⟨A', c', rfl, hr⟩, hb⟩
  refine ⟨flu M A' ms.length c', rfl, ⟨rfl, rfl, trivial⟩, hb, fun pr' h2 h3 h4 h5 h6 => hk A' c' w' pr' ?_ fun q hq => ⟨h4 q hq, h2 q hq⟩⟩
  intro j v hj
  obtain ⟨a, ha, hpa, hcell⟩ := hr j v hj
  exact ⟨a, ha, h5 _ hpa.1 hpa.2, hcell⟩
end
theorem putS_ok {M : Int} {ms : List Mk} {t : Mk} (hms : ∀ m ∈ ms, m.Ok) (ht : t.Ok) : ∀ m ∈ (putS M ms t).1, m.Ok := by
  have hins : ∀ m ∈ insS ms t, m.Ok := fun m hm => by
    simp only [insS, List.mem_append, List.mem_cons] at hm
    rcases hm with hm | rfl | hm
    · exact hms m (List.takeWhile_subset _ hm)
    · exact ht
    · exact hms m (List.dropWhile_subset _ hm)
  unfold putS
  split
  · split
    · split
      · exact hms
      · split
        · exact hins
        · exact hms
    · exact hms
  · exact hms
theorem putS_len (M : Int) (ms : List Mk) (t : Mk) : (putS M ms t).1.length ≤ ms.length + 1 := by
  have hins : (insS ms t).length = ms.length + 1 := by
    have := congrArg List.length (List.takeWhile_append_dropWhile (p := before t) (l := ms))
    rw [List.length_append] at this
    rw [insS, List.length_append, List.length_cons]; omega
  unfold putS
  split
  · split
    · split
      · exact Nat.le_succ _
      · split
        · exact Nat.le_of_eq hins
        · exact Nat.le_succ _
    · exact Nat.le_succ _
  · exact Nat.le_succ _
theorem Rd.keep {pr pr' : Nat → Prop} {w w' : World} {A : Option Addr} {cs : List Value} (h : Rd pr w A cs) (hk : ∀ q, pr q → pr' q ∧ w'.heap[q]? = w.heap[q]?) : Rd pr' w' A cs := h.world (fun q hq => (hk q hq).2) (fun q hq => (hk q hq).1)
theorem flushPuts_calls (halive : ∀ (w : World) (ad : Nat → Nat), Calls Try.prog 8 (SV.dens ad []).toArray w (Ret w (.bool true))) {M : Int} (h0 : 0 ≤ M) (h1 : M < 65536) {A : Option Addr} {c : Nat} {ms : List Mk} {t : Mk} {v : List Int} (hms : ∀ m ∈ ms, m.Ok) (ht : t.Ok) (hv : v.length = 16) (w0 : World) (hrd : Rd (fun g => g < w0.heap.size) w0 A (mcells ms)) :
    ∀ ad, Calls Try.prog 3 (SV.dens ad [flu M A ms.length c, .agg t.segs, vec v]).toArray w0 (Ret w0 (.bool true)) := by
  refine calls_sound tabOK Try.func3 rfl (by kernel_rfl) (Nat.le_of_ble_eq_true rfl) ⟨⟨rfl, rfl, trivial⟩, ⟨rfl, ht.2.1, trivial⟩, ⟨hv, trivial⟩, trivial⟩ ?_
  conv => whnf
  refine call_det (.lit true) (show Ent Try.prog 8 by unfold Ent; kernel_rfl) (fun ad w _ => halive w ad) trivial ?_
  conv => whnf
  refine ⟨fun hc => ?_, fun hc => ?_⟩
  · conv => whnf
    exact fin_ret fun ad => rfl
  conv => whnf
  have hn : ms.length ≤ 40 := by have := of_decide_eq_false hc; omega
  refine draw_rule tabOK mixed [7] [8, 9] pP3_5 [7] (by kernel_rfl) (by kernel_rfl) ?_
  conv => whnf
  refine told_rule ent10 (fun w hw => theirs_calls hms w hw (by omega)) hrd fun A1 c1 w1 pr1 hr1 hk1 => ?_
  conv => whnf
  refine put_rule h0 h1 hms ht hr1 (by omega) fun A2 c2 w2 pr2 hr2 hk2 => ?_
  have hrd2 := Rd.keep (Rd.keep hrd hk1) hk2
  conv => whnf
  refine putR_rule h0 h1 hms ht hrd2 (by omega) fun A3 c3 w3 pr3 hr3 hk3 => ?_
  have hrd3 := Rd.keep hrd2 hk3
  have hr23 := Rd.keep hr2 hk3
  conv => whnf
  refine told_rule ent10 (fun w hw => theirs_calls hms w hw (by omega)) hrd3 fun A4 c4 w4 pr4 hr4 hk4 => ?_
  have hrd4 := Rd.keep hrd3 hk4
  have hr24 := Rd.keep hr23 hk4
  have hr34 := Rd.keep hr3 hk4
  conv => whnf
  refine call_det (.tup [vec (tgtV M ms), .v (.bool (tgtB M ms))]) ent12 (fun ad w hw => target_calls h0 h1 hms w (hw.rd hr4) (by omega) ad) ⟨⟨tgtV_len hms, trivial⟩, rfl, trivial⟩ ?_
  conv => whnf
  refine call_det (.tup [vec (tgtV M ms), .v (.bool (tgtB M ms))]) ent13 (fun ad w hw => targetR_calls h0 h1 hms w (hw.rd hrd4) (by omega) ad) ⟨⟨tgtV_len hms, trivial⟩, rfl, trivial⟩ ?_
  conv => whnf
  refine draw_rule tabOK mixed [] [] pP3_9 [] (by kernel_rfl) (by kernel_rfl) ?_
  conv => whnf
  have hpl := putS_len M ms t
  refine told_rule ent15 (fun w hw => ours_calls (putS_ok hms ht) w hw (by omega)) hr24 fun A5 c5 w5 pr5 hr5 hk5 => ?_
  have hrd5 := Rd.keep hrd4 hk5
  have hr35 := Rd.keep hr34 hk5
  conv => whnf
  refine call_det (.lit true) ent14 (fun ad w hw => same_calls (putS_ok hms ht) w (hw.rd hr5) (hw.rd hr35) (by omega) ad) trivial ?_
  conv => whnf
  refine ⟨fun _ => ?_, fun h => absurd h (by simp)⟩
  conv => whnf
  refine eq_arr (e := 22) (n := 16) (k := .u16) (by kernel_rfl) (tgtV_len hms) (tgtV_len hms) ?_
  conv => whnf
  refine ⟨fun _ => ?_, fun h => absurd h (by simp)⟩
  conv => whnf
  refine ⟨fun _ => ?_, fun h => absurd h (by simp)⟩
  conv => whnf
  refine told_rule ent10 (fun w hw => theirs_calls hms w hw (by omega)) hrd5 fun A6 c6 w6 pr6 hr6 hk6 => ?_
  have hrd6 := Rd.keep hrd5 hk6
  conv => whnf
  refine call_det (.v (.bool (overB M ms v))) ent16 (fun ad w hw => over_calls h0 h1 hms hv w (hw.rd hr6) (by omega) ad) rfl ?_
  conv => whnf
  refine call_det (.v (.bool (overB M ms v))) ent17 (fun ad w hw => overR_calls h0 h1 hms hv w (hw.rd hrd6) (by omega) ad) rfl ?_
  conv => whnf
  refine ⟨fun _ => ?_, fun h => absurd h (by simp)⟩
  conv => whnf
  refine told_rule ent10 (fun w hw => theirs_calls hms w hw (by omega)) hrd6 fun A7 c7 w7 pr7 hr7 hk7 => ?_
  conv => whnf
  refine call_det (.v (.bool (overB M ms (tgtV M ms)))) ent16 (fun ad w hw => over_calls h0 h1 hms (tgtV_len hms) w (hw.rd hr7) (by omega) ad) rfl ?_
  conv => whnf
  refine fin_ret fun ad => ?_
  simp [overB, retV, SV.dens, SV.den]
theorem mk_ok (who : Int) (past : List Int) (h : (decide (0 ≤ who ∧ who < 256) && decide (past.length = 16) && past.all fun x => decide (0 ≤ x ∧ x < 65536)) = true) : (Mk.mk who past).Ok := by
  simp only [Bool.and_eq_true, decide_eq_true_eq, List.all_eq_true] at h
  exact ⟨h.1.1, h.1.2, h.2⟩
def z16 : List Int := List.replicate 16 0
def t1 : Mk := ⟨1, (z16.set 0 1).set 1 1⟩
def t2 : Mk := ⟨0, (z16.set 0 2).set 1 1⟩
def t3 : Mk := ⟨1, z16⟩
theorem t1_ok : t1.Ok := mk_ok _ _ (by decide)
theorem t2_ok : t2.Ok := mk_ok _ _ (by decide)
theorem t3_ok : t3.Ok := mk_ok _ _ (by decide)
theorem Rd.empty (pr : Nat → Prop) (w : World) (A : Option Addr) : Rd pr w A (mcells []) := fun j v hj => by simp [mcells] at hj
theorem p1 : putS 3 [] t1 = ([t1], 0) := by rfl
theorem p2 : putS 3 [t1] t2 = ([t2, t1], 0) := by rfl
theorem p3 : putS 3 [t2, t1] t3 = ([t2, t1], 9) := by rfl
theorem alive_calls (w0 : World) : ∀ ad, Calls Try.prog 8 (SV.dens ad []).toArray w0 (Ret w0 (.bool true)) := by
  refine calls_sound tabOK Try.func8 rfl (by kernel_rfl) (Nat.zero_le _) trivial ?_
  conv => whnf
  refine put_rule (ms := []) (t := t1) (by decide) (by decide) (fun m hm => by cases hm) t1_ok (Rd.empty _ _ _) (by decide) fun A1 c1 w1 pr1 hr1 hk1 => ?_
  rw [p1] at hr1 ⊢
  have o1 : ∀ m ∈ [t1], m.Ok := fun m hm => by simp at hm; rw [hm]; exact t1_ok
  have o2 : ∀ m ∈ [t2, t1], m.Ok := fun m hm => by
    simp at hm
    rcases hm with rfl | rfl
    · exact t2_ok
    · exact t1_ok
  conv => whnf
  refine call_det (.tup [vec (tgtV 3 [t1]), .lit false]) ent12 (fun ad w hw => target_calls (M := 3) (by decide) (by decide) o1 w (hw.rd hr1) (by decide) ad) ⟨⟨tgtV_len o1, trivial⟩, trivial, trivial⟩ ?_
  conv => whnf
  refine put_rule (ms := [t1]) (t := t2) (by decide) (by decide) o1 t2_ok hr1 (by decide) fun A2 c2 w2 pr2 hr2 hk2 => ?_
  rw [p2] at hr2 ⊢
  conv => whnf
  refine call_det (.tup [vec (tgtV 3 [t2, t1]), .lit true]) ent12 (fun ad w hw => target_calls (M := 3) (by decide) (by decide) o2 w (hw.rd hr2) (by decide) ad) ⟨⟨tgtV_len o2, trivial⟩, trivial, trivial⟩ ?_
  conv => whnf
  refine put_rule (ms := [t2, t1]) (t := t3) (by decide) (by decide) o2 t3_ok hr2 (by decide) fun A3 c3 w3 pr3 hr3 hk3 => ?_
  rw [p3] at hr3 ⊢
  have hr23 := Rd.keep hr2 hk3
  conv => whnf
  refine ⟨fun _ => ?_, fun h => absurd h (by decide)⟩
  conv => whnf
  refine ⟨fun _ => ?_, fun h => absurd h (by decide)⟩
  conv => whnf
  refine eq_arr (e := 22) (n := 16) (k := .u16) (by kernel_rfl) (tgtV_len o2) (by decide) ?_
  conv => whnf
  refine ⟨fun _ => ?_, fun h => absurd h (by decide)⟩
  conv => whnf
  refine call_det (.lit true) ent16 (fun ad w hw => over_calls (M := 3) (ms := [t2, t1]) (v := tgtV 3 [t2, t1]) (by decide) (by decide) o2 (tgtV_len o2) w (hw.rd hr23) (by decide) ad) trivial ?_
  conv => whnf
  refine call_det (.lit false) ent16 (fun ad w hw => over_calls (M := 3) (ms := [t2, t1]) (v := (z16.set 0 3).set 1 3) (by decide) (by decide) o2 (by decide) w (hw.rd hr23) (by decide) ad) trivial ?_
  conv => whnf
  exact fin_ret fun ad => rfl
theorem flushPuts_all {M : Int} (h0 : 0 ≤ M) (h1 : M < 65536) {A : Option Addr} {c : Nat} {ms : List Mk} {t : Mk} {v : List Int} (hms : ∀ m ∈ ms, m.Ok) (ht : t.Ok) (hv : v.length = 16) (w0 : World) (hrd : Rd (fun g => g < w0.heap.size) w0 A (mcells ms)) :
    ∀ ad, Calls Try.prog 3 (SV.dens ad [flu M A ms.length c, .agg t.segs, vec v]).toArray w0 (Ret w0 (.bool true)) := flushPuts_calls alive_calls h0 h1 hms ht hv w0 hrd
end Go.Proofs.Ytcmooifiiakbdaa
