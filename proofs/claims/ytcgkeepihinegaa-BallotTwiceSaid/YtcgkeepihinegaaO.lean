/-
  The rules for the calls of the laws.
-/
import Derived.Test.YtcgkeepihinegaaN
set_option linter.unusedVariables false
set_option linter.unusedSimpArgs false
namespace Go.Proofs.Ytcgkeepihinegaa
open Go Go.Sx Go.RowKit
set_option maxHeartbeats 1000000
set_option maxRecDepth 20000
theorem ent9 : Ent Try.prog 9 := by unfold Ent; kernel_rfl
theorem ent10 : Ent Try.prog 10 := by unfold Ent; kernel_rfl
theorem ent12 : Ent Try.prog 12 := by unfold Ent; kernel_rfl
theorem ent13 : Ent Try.prog 13 := by unfold Ent; kernel_rfl
theorem ent14 : Ent Try.prog 14 := by unfold Ent; kernel_rfl
theorem ent15 : Ent Try.prog 15 := by unfold Ent; kernel_rfl
theorem ent16 : Ent Try.prog 16 := by unfold Ent; kernel_rfl
theorem ent18 : Ent Try.prog 18 := by unfold Ent; kernel_rfl
theorem ent11 : Ent Try.prog 11 := by unfold Ent; kernel_rfl
theorem ent19 : Ent Try.prog 19 := by unfold Ent; kernel_rfl
theorem ent21 : Ent Try.prog 21 := by unfold Ent; kernel_rfl
section
variable {n : Nat} {w0 : Base} {kp : Bool} {d : Nat} {ts : List (Nat × SV)} {bs : List (Nat × (List Seg × TypeId))} {ds : List (FuncId × List SV)} {pr : Nat → Prop} {sw : World} {K : St → Prop} {Q : Exit → St → Prop}
theorem put_rule {v M : Int} (h0 : 0 ≤ M) (h1 : M < 65536) {A : Option Addr} {c : Nat} {ms : List Mk} {t : Mk} (hms : ∀ m ∈ ms, m.Ok) (ht : t.Ok) (hrd : Rd pr sw A (mcells ms)) (hn : ms.length < 10000)
    (hk : ∀ A' c' w' pr', Rd pr' w' A' (mcells (putS v M ms t).1) → (∀ q, pr q → pr' q ∧ w'.heap[q]? = sw.heap[q]?) → K ⟨(d, .tup [bx v M A' (putS v M ms t).1.length c', .v (.int .i64 (putS v M ms t).2)]) :: ts, bs, ds, pr', w'⟩) :
    CallVC Try.prog n w0 kp (some d) 9 [bx v M A ms.length c, .agg t.segs] ⟨ts, bs, ds, pr, sw⟩ K Q := by
  refine call_new (fun _ w => PutR v M (putS v M ms t) w) ent9 (fun ad w hw => put_calls h0 h1 hms ht w (hw.rd hrd) hn ad) ?_
  rintro ad w e w' hw ⟨⟨A', c', rfl, hr⟩, hb⟩
  refine ⟨.tup [bx v M A' (putS v M ms t).1.length c', .v (.int .i64 (putS v M ms t).2)], rfl, ⟨⟨rfl, rfl, rfl, trivial⟩, rfl, trivial⟩, hb, fun pr' h2 h3 h4 h5 h6 => hk A' c' w' pr' ?_ fun q hq => ⟨h4 q hq, h2 q hq⟩⟩
  intro j u hj
  obtain ⟨a, ha, hpa, hcell⟩ := hr j u hj
  exact ⟨a, ha, h5 _ hpa.1 hpa.2, hcell⟩
theorem putR_rule {v M : Int} (h0 : 0 ≤ M) (h1 : M < 65536) {A : Option Addr} {c : Nat} {ms : List Mk} {t : Mk} (hms : ∀ m ∈ ms, m.Ok) (ht : t.Ok) (hrd : Rd pr sw A (mcells ms)) (hn : ms.length < 10000)
    (hk : ∀ A' c' w' pr', Rd pr' w' A' (mcells (putS v M ms t).1) → (∀ q, pr q → pr' q ∧ w'.heap[q]? = sw.heap[q]?) → K ⟨(d, .tup [bx v M A' (putS v M ms t).1.length c', .v (.int .i64 (putS v M ms t).2)]) :: ts, bs, ds, pr', w'⟩) :
    CallVC Try.prog n w0 kp (some d) 12 [bx v M A ms.length c, .agg t.segs] ⟨ts, bs, ds, pr, sw⟩ K Q := by
  refine call_new (fun _ w => PutRR v M A c ms (putS v M ms t) w) ent12 (fun ad w hw => putR_calls h0 h1 hms ht w (hw.rd hrd) hn ad) ?_
  rintro ad w e w' hw ⟨h | ⟨A', c', rfl, hr⟩, hb⟩
  · obtain ⟨h7, rfl⟩ := h
    refine ⟨.tup [bx v M A ms.length c, .v (.int .i64 (putS v M ms t).2)], rfl, ⟨⟨rfl, rfl, rfl, trivial⟩, rfl, trivial⟩, hb, fun pr' h2 h3 h4 h5 h6 => ?_⟩
    have := hk A c w' pr' (by rw [h7]; exact hrd.world h2 h4) fun q hq => ⟨h4 q hq, h2 q hq⟩
    rw [h7] at this
    exact this
  · refine ⟨.tup [bx v M A' (putS v M ms t).1.length c', .v (.int .i64 (putS v M ms t).2)], rfl, ⟨⟨rfl, rfl, rfl, trivial⟩, rfl, trivial⟩, hb, fun pr' h2 h3 h4 h5 h6 => hk A' c' w' pr' ?_ fun q hq => ⟨h4 q hq, h2 q hq⟩⟩
    intro j u hj
    obtain ⟨a, ha, hpa, hcell⟩ := hr j u hj
    exact ⟨a, ha, h5 _ hpa.1 hpa.2, hcell⟩
theorem told_rule {g : Nat} (hent : Ent Try.prog g) {v M : Int} {A : Option Addr} {c : Nat} {ms : List Mk} (hg : ∀ (w : World), Rd (fun g => g < w.heap.size) w A (mcells ms) → ∀ ad, Calls Try.prog g (SV.dens ad [bx v M A ms.length c]).toArray w (ToldR v M ms w)) (hrd : Rd pr sw A (mcells ms))
    (hk : ∀ A' c' w' pr', Rd pr' w' A' (mcells ms) → (∀ q, pr q → pr' q ∧ w'.heap[q]? = sw.heap[q]?) → K ⟨(d, bx v M A' ms.length c') :: ts, bs, ds, pr', w'⟩) :
    CallVC Try.prog n w0 kp (some d) g [bx v M A ms.length c] ⟨ts, bs, ds, pr, sw⟩ K Q := by
  refine call_new (fun _ w => ToldR v M ms w) hent (fun ad w hw => hg w (hw.rd hrd) ad) ?_
  rintro ad w e w' hw ⟨⟨A', c', rfl, hr⟩, hb⟩
  refine ⟨bx v M A' ms.length c', rfl, ⟨rfl, rfl, rfl, trivial⟩, hb, fun pr' h2 h3 h4 h5 h6 => hk A' c' w' pr' ?_ fun q hq => ⟨h4 q hq, h2 q hq⟩⟩
  intro j u hj
  obtain ⟨a, ha, hpa, hcell⟩ := hr j u hj
  exact ⟨a, ha, h5 _ hpa.1 hpa.2, hcell⟩
end
theorem putS_ok {v M : Int} {ms : List Mk} {t : Mk} (hms : ∀ m ∈ ms, m.Ok) (ht : t.Ok) : ∀ m ∈ (putS v M ms t).1, m.Ok := by
  have hins : ∀ m ∈ insS ms t, m.Ok := fun m hm => by
    simp only [insS, List.mem_append, List.mem_cons] at hm
    rcases hm with hm | rfl | hm
    · exact hms m (List.takeWhile_subset _ hm)
    · exact ht
    · exact hms m (List.dropWhile_subset _ hm)
  unfold putS
  split
  · split
    · split
      · exact hms
      · split
        · exact hins
        · exact hms
    · exact hms
  · exact hms
theorem putS_len (v M : Int) (ms : List Mk) (t : Mk) : (putS v M ms t).1.length ≤ ms.length + 1 := by
  have hins : (insS ms t).length = ms.length + 1 := by
    have := congrArg List.length (List.takeWhile_append_dropWhile (p := before t) (l := ms))
    rw [List.length_append] at this
    rw [insS, List.length_append, List.length_cons]; omega
  unfold putS
  split
  · split
    · split
      · exact Nat.le_succ _
      · split
        · exact Nat.le_of_eq hins
        · exact Nat.le_succ _
    · exact Nat.le_succ _
  · exact Nat.le_succ _
theorem Rd.keep {pr pr' : Nat → Prop} {w w' : World} {A : Option Addr} {cs : List Value} (h : Rd pr w A cs) (hk : ∀ q, pr q → pr' q ∧ w'.heap[q]? = w.heap[q]?) : Rd pr' w' A cs := h.world (fun q hq => (hk q hq).2) (fun q hq => (hk q hq).1)
def chV (r : (Bool × Int) × Bool) : SV := .tup [chg r.1.1 r.1.2, .v (.bool r.2)]
theorem chV_ok (r : (Bool × Int) × Bool) : (chV r).Ok := ⟨⟨rfl, rfl, trivial⟩, rfl, trivial⟩
theorem Rd.empty (pr : Nat → Prop) (w : World) (A : Option Addr) : Rd pr w A (mcells []) := fun j v hj => by simp [mcells] at hj
structure AI where
  k : Nat
  A : Option Addr
  c : Nat
  pr : Nat → Prop
  sw : World
def alT (k : Nat) : Mk := ⟨2 - k, true, 5⟩
def alL : Nat → List Mk
  | 0 => []
  | k + 1 => alT k :: alL k
theorem al_put : ∀ k : Nat, k < 3 → putS 0 15 (alL k) (alT k) = (alL (k + 1), 0)
  | 0, _ => by rfl
  | 1, _ => by rfl
  | 2, _ => by rfl
  | k + 3, h => by omega
theorem al_ch : ∀ k : Nat, k < 3 → chS 0 15 (alL k) = ((false, 0), false)
  | 0, _ => by rfl
  | 1, _ => by rfl
  | 2, _ => by rfl
  | k + 3, h => by omega
theorem al_ch3 : chS 0 15 (alL 3) = ((true, 5), true) := by rfl
theorem al_for : forS 0 15 (alL 3) true 5 = 7 := by rfl
theorem al_put3 : (putS 0 15 (alL 3) (alT 1)).2 = 9 := by rfl
theorem alT_ok (k : Nat) (h : k < 3) : (alT k).Ok := ⟨⟨by show (0 : Int) ≤ 2 - k; omega, by show (2 : Int) - k < 256; omega⟩, by show (0 : Int) ≤ 5; decide, by show (5 : Int) < 256; decide⟩
theorem alL_ok : ∀ k : Nat, k ≤ 3 → ∀ m ∈ alL k, m.Ok
  | 0, _, m, hm => by cases hm
  | k + 1, h, m, hm => by
    rcases List.mem_cons.1 hm with rfl | hm
    · exact alT_ok k (by omega)
    · exact alL_ok k (by omega) m hm
theorem alL_len : ∀ k : Nat, (alL k).length = k
  | 0 => rfl
  | k + 1 => by simp [alL, alL_len k]
theorem alive_calls (w0 : World) : ∀ ad, Calls Try.prog 8 (SV.dens ad []).toArray w0 (Ret w0 (.bool true)) := by
  refine calls_sound tabOK Try.func8 rfl (by kernel_rfl) (Nat.zero_le _) trivial ?_
  conv => whnf
  refine loop_rule tabOK (by kernel_rfl) (fun i : AI => ⟨[(15, .v (.int .u8 i.k)), (2, .ptr 2 0), (1, .ptr 1 0), (0, .lit false)], [(2, ([.one (.bool true), .one (.int .u8 5)], 42)), (1, ([.one (.int .i64 0), .one (.int .u16 15), .one (.slice i.A (alL i.k).length i.c)], 37))], [], i.pr, i.sw⟩)
    (fun i => i.k ≤ 3 ∧ Rd i.pr i.sw i.A (mcells (alL i.k))) (fun i => 3 - i.k) ⟨0, none, 0, _, w0⟩ ⟨Nat.zero_le _, Rd.empty _ _ _⟩ ⟨⟨rfl, rfl, rfl, rfl, trivial⟩, ⟨rfl, rfl, trivial⟩, rfl, fun _ h => h, rfl⟩ ?_
  intro i ⟨hk, hra⟩
  have hlen := alL_len i.k
  conv => whnf
  refine ⟨fun hc => ?_, fun hc => ?_⟩
  · conv => whnf
    have hk' : i.k < 3 := by have := of_decide_eq_true hc; omega
    refine call_det (chV (chS 0 15 (alL i.k))) ent13 (fun ad w hw => chosen_calls (by decide) (by decide) (alL_ok i.k hk) w (hw.rd hra) (by omega) ad) (chV_ok _) ?_
    rw [al_ch i.k hk']
    conv => whnf
    refine ⟨fun h => absurd h (by decide), fun _ => ?_⟩
    conv => whnf
    have e : IntKind.u8.wrap (2 - (i.k : Int)) = 2 - (i.k : Int) := u8_in (by omega)
    rw [e]
    refine put_rule (ms := alL i.k) (t := alT i.k) (by decide) (by decide) (alL_ok i.k hk) (alT_ok _ hk') hra (by omega) fun A1 c1 w1 pr1 hr1 hk1 => ?_
    rw [al_put i.k hk'] at hr1 ⊢
    conv => whnf
    refine ⟨fun h => absurd h (by simp), fun _ => ?_⟩
    conv => whnf
    refine ⟨⟨i.k + 1, A1, c1, pr1, w1⟩, ⟨hk', hr1⟩, by show 3 - (i.k + 1) < 3 - i.k; omega, ⟨?_, rfl, rfl, rfl, trivial⟩, ⟨rfl, rfl, trivial⟩, rfl, fun _ h => h, rfl⟩
    show (SV.v (.int .u8 (IntKind.u8.wrap ((i.k : Int) + 1)))).norm = (SV.v (.int .u8 ((i.k + 1 : Nat) : Int))).norm
    rw [u8_in (by omega)]
    rfl
  · conv => whnf
    have hk' : i.k = 3 := by have := of_decide_eq_false hc; omega
    rw [hk'] at hra ⊢
    refine call_det (chV (chS 0 15 (alL 3))) ent13 (fun ad w hw => chosen_calls (by decide) (by decide) (alL_ok 3 (by decide)) w (hw.rd hra) (by decide) ad) (chV_ok _) ?_
    rw [al_ch3]
    conv => whnf
    refine put_rule (ms := alL 3) (t := alT 1) (by decide) (by decide) (alL_ok 3 (by decide)) (alT_ok 1 (by decide)) hra (by decide) fun A1 c1 w1 pr1 hr1 hk1 => ?_
    rw [al_put3]
    have hra1 := Rd.keep hra hk1
    conv => whnf
    refine ⟨fun _ => ?_, fun h => absurd h (by decide)⟩
    conv => whnf
    refine eq_plain (ks := ksChg) (by kernel_rfl) rfl rfl rfl (by exact ⟨rfl, rfl, trivial⟩) (by exact ⟨rfl, rfl, trivial⟩) ?_
    conv => whnf
    refine ⟨fun _ => ?_, fun h => absurd h (by decide)⟩
    conv => whnf
    refine call_det (.v (.int .u16 (forS 0 15 (alL 3) true 5))) ent17 (fun ad w hw => for_calls (by decide) (by decide) (alL_ok 3 (by decide)) w (hw.rd hra1) (by decide) ad) rfl ?_
    rw [al_for]
    conv => whnf
    refine ⟨fun _ => ?_, fun h => absurd h (by decide)⟩
    conv => whnf
    exact fin_ret fun ad => rfl
theorem ballotPuts_calls {v M : Int} (h0 : 0 ≤ M) (h1 : M < 65536) {A : Option Addr} {c : Nat} {ms : List Mk} {t : Mk} (hms : ∀ m ∈ ms, m.Ok) (ht : t.Ok) (w0 : World) (hrd : Rd (fun g => g < w0.heap.size) w0 A (mcells ms)) :
    ∀ ad, Calls Try.prog 3 (SV.dens ad [bx v M A ms.length c, .agg t.segs]).toArray w0 (Ret w0 (.bool true)) := by
  refine calls_sound tabOK Try.func3 rfl (by kernel_rfl) (Nat.le_of_ble_eq_true rfl) ⟨⟨rfl, rfl, rfl, trivial⟩, t.sok, trivial⟩ ?_
  conv => whnf
  refine call_det (.lit true) (show Ent Try.prog 8 by unfold Ent; kernel_rfl) (fun ad w _ => alive_calls w ad) trivial ?_
  conv => whnf
  refine ⟨fun hc => ?_, fun hc => ?_⟩
  · conv => whnf
    exact fin_ret fun ad => rfl
  conv => whnf
  have hn : ms.length ≤ 60 := by have := of_decide_eq_false hc; omega
  have hpl := putS_len v M ms t
  refine draw_rule tabOK mixed [8] [9, 10] pP3_5 [5] (by kernel_rfl) (by kernel_rfl) ?_
  conv => whnf
  refine told_rule ent10 (fun w hw => theirs_calls hms w hw (by omega)) hrd fun A1 c1 w1 pr1 hr1 hk1 => ?_
  have hrd1 := Rd.keep hrd hk1
  conv => whnf
  refine call_det (.agg t.segs) ent11 (fun ad w _ => theirs1_calls t w ad) t.sok ?_
  conv => whnf
  refine put_rule h0 h1 hms ht hr1 (by omega) fun A2 c2 w2 pr2 hr2 hk2 => ?_
  have hrd2 := Rd.keep hrd1 hk2
  conv => whnf
  refine putR_rule h0 h1 hms ht hrd2 (by omega) fun A3 c3 w3 pr3 hr3 hk3 => ?_
  have hrd3 := Rd.keep hrd2 hk3
  have hr23 := Rd.keep hr2 hk3
  conv => whnf
  refine told_rule ent10 (fun w hw => theirs_calls hms w hw (by omega)) hrd3 fun A4 c4 w4 pr4 hr4 hk4 => ?_
  have hrd4 := Rd.keep hrd3 hk4
  have hr24 := Rd.keep hr23 hk4
  have hr34 := Rd.keep hr3 hk4
  conv => whnf
  refine call_det (chV (chS v M ms)) ent13 (fun ad w hw => chosen_calls h0 h1 hms w (hw.rd hr4) (by omega) ad) (chV_ok _) ?_
  conv => whnf
  refine call_det (chV (chS v M ms)) ent14 (fun ad w hw => chosenR_calls h0 h1 hms w (hw.rd hrd4) (by omega) ad) (chV_ok _) ?_
  conv => whnf
  refine draw_rule tabOK mixed [] [] pP3_9 [] (by kernel_rfl) (by kernel_rfl) ?_
  conv => whnf
  refine told_rule ent16 (fun w hw => ours_calls (putS_ok hms ht) w hw (by omega)) hr24 fun A5 c5 w5 pr5 hr5 hk5 => ?_
  have hrd5 := Rd.keep hrd4 hk5
  have hr35 := Rd.keep hr34 hk5
  conv => whnf
  refine call_det (.lit true) ent15 (fun ad w hw => same_calls w (hw.rd hr5) (hw.rd hr35) (by omega) ad) trivial ?_
  conv => whnf
  refine ⟨fun _ => ?_, fun h => absurd h (by simp)⟩
  conv => whnf
  refine told_rule ent10 (fun w hw => theirs_calls hms w hw (by omega)) hrd5 fun A6 c6 w6 pr6 hr6 hk6 => ?_
  have hrd6 := Rd.keep hrd5 hk6
  conv => whnf
  refine call_det (.v (.int .u16 (forS v M ms t.add t.id))) ent17 (fun ad w hw => for_calls h0 h1 hms w (hw.rd hr6) (by omega) ad) rfl ?_
  conv => whnf
  refine call_det (.v (.int .u16 (forS v M ms t.add t.id))) ent18 (fun ad w hw => forR_calls h0 h1 hms w (hw.rd hrd6) (by omega) ad) rfl ?_
  conv => whnf
  refine ⟨fun _ => ?_, fun h => absurd h (by simp)⟩
  conv => whnf
  refine eq_plain (ks := ksChg) (by kernel_rfl) rfl rfl rfl (by exact ⟨rfl, rfl, trivial⟩) (by exact ⟨rfl, rfl, trivial⟩) ?_
  conv => whnf
  refine ⟨fun _ => ?_, fun h => absurd h (by simp [eqS, eq1])⟩
  conv => whnf
  refine fin_ret fun ad => ?_
  simp [retV, SV.dens, SV.den]
end Go.Proofs.Ytcgkeepihinegaa
