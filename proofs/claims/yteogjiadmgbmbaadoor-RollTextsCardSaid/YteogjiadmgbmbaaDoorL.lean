/-
  What the door lays, as the walks use it; ParseUint and Parse on every string; Text of every change; the reference's Text and Parse: walked.
-/
import Derived.Test.YteogjiadmgbmbaaDoorG
import Derived.Test.YteogjiadmgbmbaaDoorK
import Derived.Shelf.Unicode.PredsPay
import Derived.Lib.AppendIntMem
set_option linter.unusedVariables false
set_option linter.unusedSimpArgs false
namespace Go.Proofs.YteogjiadmgbmbaaDoor
open Go Go.Sx Go.RowKit
set_option maxHeartbeats 1000000
set_option maxRecDepth 20000
/-- What the walks ask of the world: two errors are laid, and the table of powers. -/
def GL (w : World) : Prop := (∃ te pe, w.cell? ⟨0, 0, none⟩ = some (.iface te pe)) ∧ (∃ te pe, w.cell? ⟨1, 0, none⟩ = some (.iface te pe)) ∧ Lib.TabIs Tryd.prog w "internal/strconv.uint64pow10" .u64 Lib.pow10Tab
theorem cell_below {w w' : World} {a : Addr} {v : Value} (hb : Below w.heap.size w w') (h : w.cell? a = some v) : w'.cell? a = some v := by
  have hlt : a.block < w.heap.size := by
    unfold World.cell? at h
    rcases hc : w.heap[a.block]? with _ | o
    · rw [hc] at h; cases h
    · exact (Array.getElem?_eq_some_iff.1 hc).1
  unfold World.cell? at h ⊢
  rw [hb.block _ hlt]; exact h
theorem GL.below {w w' : World} (h : GL w) (hb : Below w.heap.size w w') : GL w' := by
  obtain ⟨⟨a, b, h1⟩, ⟨c, d, h2⟩, h3⟩ := h
  exact ⟨⟨a, b, cell_below hb h1⟩, ⟨c, d, cell_below hb h2⟩, Go.Proofs.TabIs_below (g := 2) (by kernel_rfl) h3 hb⟩
theorem GL.wi {w0 w : World} {ad : Nat → Nat} {s : St} (h : GL w0) (hw : WI (.of w0) ad s w) : GL w := h.below hw.bel.below
/-- The decimal text of a number. -/
def decB (n : Nat) : ByteArray := ⟨(Lib.itoa n).toArray⟩
theorem dec_small : ∀ n : Nat, n < 100 → decB n = smallB n := by decide +kernel
theorem dec_size : ∀ n : Nat, n < 256 → (decB n).size ≤ 3 := by decide +kernel
theorem itoaG_calls {n : Nat} (hn : n < 256) {w0 : World} (hG : GL w0) : ∀ ad, Calls Tryd.prog 25 (SV.dens ad [.v (.int .i64 n)]).toArray w0 (Ret w0 (.string (decB n))) := fun ad => by
  refine (Tryd.strconv_Itoa n (by omega) (by omega) w0 hG.2.2).mono ?_
  rintro e w' ⟨rfl, k, os, rfl⟩
  exact ⟨rfl, Go.Lib.below_grow _ _ (Nat.le_refl _) _ _⟩
theorem textG_calls {add : Bool} {n : Nat} (hn : n < 256) {w0 : World} (hG : GL w0) : ∀ ad, Calls Tryd.prog 13 (SV.dens ad [chg add n]).toArray w0 (Ret w0 (.string (textS add (decB n)))) := by
  have hts := dec_size n hn
  refine calls_sound tabOK Tryd.func13 rfl (by kernel_rfl) (Nat.le_of_ble_eq_true rfl) ⟨⟨rfl, rfl, trivial⟩, trivial⟩ ?_
  conv => whnf
  rw [i64_in (by omega)]
  refine call_det (strV (decB n)) ent25 (fun ad w hw => itoaG_calls hn (hG.wi hw) ad) rfl ?_
  conv => whnf
  cases add
  · refine ⟨fun h => absurd h (by decide), fun _ => ?_⟩
    conv => whnf
    refine ⟨by show 1 + (decB n).size ≤ _; omega, ?_⟩
    conv => whnf
    exact fin_ret fun ad => rfl
  · refine ⟨fun _ => ?_, fun h => absurd h (by decide)⟩
    conv => whnf
    refine ⟨by show 1 + (decB n).size ≤ _; omega, ?_⟩
    conv => whnf
    exact fin_ret fun ad => rfl
theorem textRG_calls {add : Bool} {n : Nat} (hn : n < 256) {w0 : World} (hG : GL w0) : ∀ ad, Calls Tryd.prog 14 (SV.dens ad [chg add n]).toArray w0 (Ret w0 (.string (textS add (decB n)))) := by
  have hts := dec_size n hn
  refine calls_sound tabOK Tryd.func14 rfl (by kernel_rfl) (Nat.le_of_ble_eq_true rfl) ⟨⟨rfl, rfl, trivial⟩, trivial⟩ ?_
  conv => whnf
  cases add
  · refine ⟨fun h => absurd h (by decide), fun _ => ?_⟩
    conv => whnf
    rw [i64_in (by omega)]
    refine call_det (strV (decB n)) ent25 (fun ad w hw => itoaG_calls hn (hG.wi hw) ad) rfl ?_
    conv => whnf
    refine ⟨by show 1 + (decB n).size ≤ _; omega, ?_⟩
    conv => whnf
    exact fin_ret fun ad => rfl
  · refine ⟨fun _ => ?_, fun h => absurd h (by decide)⟩
    conv => whnf
    rw [i64_in (by omega)]
    refine call_det (strV (decB n)) ent25 (fun ad w hw => itoaG_calls hn (hG.wi hw) ad) rfl ?_
    conv => whnf
    refine ⟨by show 1 + (decB n).size ≤ _; omega, ?_⟩
    conv => whnf
    exact fin_ret fun ad => rfl
theorem pu_err : ∀ (l : List UInt8) (n : Nat), (pu l n).2 = 0 ∨ (pu l n).2 = 1 ∨ (pu l n).2 = 2
  | [], n => .inl rfl
  | c :: r, n => by
    unfold pu
    split
    · split
      · exact .inr (.inl rfl)
      · exact pu_err r _
    · exact .inr (.inr rfl)
theorem puS_err (s : ByteArray) : (puS s).2 = 0 ∨ (puS s).2 = 1 ∨ (puS s).2 = 2 := by
  unfold puS; split
  · exact .inr (.inr rfl)
  · exact pu_err _ _
def ptrE (N : Nat) : SV := .v (.iface 67 (.pointer (some ⟨N, 0, none⟩)))
theorem toError_calls {s : ByteArray} (hmax : s.size ≤ 1000000) {e : Int} (he : e = 1 ∨ e = 2) {w0 : World} (hG : GL w0) : ∀ ad, Calls Tryd.prog 32 (SV.dens ad [strV ⟨#[80, 97, 114, 115, 101, 85, 105, 110, 116]⟩, strV s, .v (.int .i64 10), .v (.int .i64 4), .v (.iface 63 (.int .i64 e))]).toArray w0 fun e w' => (∃ x : SV, e = .returned (x.den ad) ∧ x.Ok ∧ ∃ N, x = ptrE N) ∧ Below w0.heap.size w0 w' := fun ad => by
  obtain ⟨⟨a, b, h1⟩, ⟨c, d, h2⟩, h3⟩ := hG
  rcases he with rfl | rfl
  · refine (Tryd.strconv_toError_range ⟨#[80, 97, 114, 115, 101, 85, 105, 110, 116]⟩ s 10 4 _ w0 (by omega) h2 (.inr ⟨_, _, rfl⟩)).mono ?_
    rintro e w' ⟨N, rfl, _, _, hb⟩
    exact ⟨⟨ptrE N, rfl, rfl, N, rfl⟩, hb⟩
  · refine (Tryd.strconv_toError_syntax ⟨#[80, 97, 114, 115, 101, 85, 105, 110, 116]⟩ s 10 4 _ w0 (by omega) h1 (.inr ⟨_, _, rfl⟩)).mono ?_
    rintro e w' ⟨N, rfl, _, _, hb⟩
    exact ⟨⟨ptrE N, rfl, rfl, N, rfl⟩, hb⟩
theorem parseUintE_calls {s : ByteArray} (hmax : s.size ≤ 1000000) (hne : (puS s).2 ≠ 0) {w0 : World} (hG : GL w0) : ∀ ad, Calls Tryd.prog 24 (SV.dens ad [strV s, .v (.int .i64 10), .v (.int .i64 4)]).toArray w0 fun e w' => (∃ N, e = .returned (.tuple #[.int .u64 (puS s).1, .iface 67 (.pointer (some ⟨N, 0, none⟩))])) ∧ Below w0.heap.size w0 w' := by
  have he : (puS s).2 = 1 ∨ (puS s).2 = 2 := by have := puS_err s; omega
  refine calls_sound tabOK Tryd.func24 rfl (by kernel_rfl) (Nat.le_of_ble_eq_true rfl) ⟨rfl, rfl, rfl, trivial⟩ ?_
  conv => whnf
  refine call_det (.tup [.v (.int .u64 (puS s).1), .v (.iface 63 (.int .i64 (puS s).2))]) (show Ent Tryd.prog 31 by unfold Ent; kernel_rfl) (fun ad w _ => by have := parseUint0_calls s hmax w ad; rw [show errI (puS s).2 = .iface 63 (.int .i64 (puS s).2) by unfold errI; rw [if_neg hne]] at this; exact this) ⟨rfl, rfl, trivial⟩ ?_
  conv => whnf
  refine raw_nil rfl rfl (Nat.le_of_ble_eq_true rfl) rfl Tryd.underlying54 (.inr ⟨_, _, rfl⟩) (.inr rfl) ?_
  conv => whnf
  refine ⟨fun _ => ?_, fun h => Bool.noConfusion (show true = false from h)⟩
  conv => whnf
  refine call_ex (fun x => ∃ N, x = ptrE N) (show Ent Tryd.prog 32 by unfold Ent; kernel_rfl) (fun ad w hw => toError_calls hmax he (hG.wi hw) ad) ?_
  rintro x ⟨N, rfl⟩
  conv => whnf
  exact ⟨fun ad w hw => ⟨⟨N, rfl⟩, hw.bel.below⟩⟩
/-- What Parse makes of a string. -/
def parV (s : ByteArray) : SV := chg (goodS s && hasP s plusB) (if goodS s = true then (puS (bodyS s)).1 else 0)
def parE (s : ByteArray) : Int := if goodS s = true then 0 else 4
theorem parse_calls {s : ByteArray} (hmax : s.size ≤ 1000000) {w0 : World} (hG : GL w0) : ∀ ad, Calls Tryd.prog 11 (SV.dens ad [strV s]).toArray w0 (Ret w0 (retV [(parV s).den (fun x => x), .int .i64 (parE s)])) := by
  by_cases hok : (puS (bodyS s)).2 = 0
  · exact parseOk_calls hmax hok w0
  have hg : goodS s = false := by unfold goodS; rw [decide_eq_false hok]; rfl
  refine calls_sound tabOK Tryd.func11 rfl (by kernel_rfl) (Nat.le_of_ble_eq_true rfl) ⟨rfl, trivial⟩ ?_
  conv => whnf
  refine call_det (.tup [strV (cutP s plusB), .v (.bool (hasP s plusB))]) (show Ent Tryd.prog 22 by unfold Ent; kernel_rfl) (fun ad w _ => cutPrefix_calls s plusB w ad) ⟨rfl, rfl, trivial⟩ ?_
  conv => whnf
  have hsz : ∀ p, (cutP s p).size ≤ 1000000 := fun p => Nat.le_trans (cutP_size s p) hmax
  have hle := puS_le (bodyS s)
  refine ⟨fun hp => ?_, fun hp => ?_⟩
  · have hp : hasP s plusB = false := by simpa using hp
    have hb : bodyS s = cutP s minusB := by unfold bodyS; rw [hp]; rfl
    conv => whnf
    refine call_det (strV (cutP s minusB)) (show Ent Tryd.prog 23 by unfold Ent; kernel_rfl) (fun ad w _ => trimPrefix_calls s minusB w ad) rfl ?_
    conv => whnf
    rw [← hb]
    refine call_ex (fun x => ∃ N, x = .tup [.v (.int .u64 (puS (bodyS s)).1), ptrE N]) (show Ent Tryd.prog 24 by unfold Ent; kernel_rfl) (fun ad w hw => (parseUintE_calls (by rw [hb]; exact hsz _) hok (hG.wi hw) ad).mono fun e w' ⟨⟨N, h⟩, hb⟩ => ⟨⟨.tup [.v (.int .u64 (puS (bodyS s)).1), ptrE N], h, ⟨rfl, rfl, trivial⟩, N, rfl⟩, hb⟩) ?_
    rintro x ⟨N, rfl⟩
    conv => whnf
    rw [u8_in (by omega)]
    refine raw_nil rfl rfl (Nat.le_of_ble_eq_true rfl) rfl Tryd.underlying54 (.inr ⟨_, _, rfl⟩) (.inr rfl) ?_
    conv => whnf
    refine ⟨fun _ => ?_, fun h => Bool.noConfusion (show true = false from h)⟩
    conv => whnf
    exact fin_ret fun ad => by rw [parV, parE, hg]; rfl
  · have hp : hasP s plusB = true := by simpa using hp
    have hb : bodyS s = cutP s plusB := by unfold bodyS; rw [hp]; rfl
    conv => whnf
    rw [← hb]
    refine call_ex (fun x => ∃ N, x = .tup [.v (.int .u64 (puS (bodyS s)).1), ptrE N]) (show Ent Tryd.prog 24 by unfold Ent; kernel_rfl) (fun ad w hw => (parseUintE_calls (by rw [hb]; exact hsz _) hok (hG.wi hw) ad).mono fun e w' ⟨⟨N, h⟩, hb⟩ => ⟨⟨.tup [.v (.int .u64 (puS (bodyS s)).1), ptrE N], h, ⟨rfl, rfl, trivial⟩, N, rfl⟩, hb⟩) ?_
    rintro x ⟨N, rfl⟩
    conv => whnf
    rw [u8_in (by omega)]
    refine raw_nil rfl rfl (Nat.le_of_ble_eq_true rfl) rfl Tryd.underlying54 (.inr ⟨_, _, rfl⟩) (.inr rfl) ?_
    conv => whnf
    refine ⟨fun _ => ?_, fun h => Bool.noConfusion (show true = false from h)⟩
    conv => whnf
    exact fin_ret fun ad => by rw [parV, parE, hg]; rfl
/-! ### Plain laws of the texts, and the reference's Parse -/
theorem fin16 : ∀ k : Nat, k < 16 → ∀ add : Bool, goodS (textS add (decB k)) = true ∧ hasP (textS add (decB k)) plusB = add ∧ (puS (bodyS (textS add (decB k)))).1 = k := by decide +kernel
theorem fin256 : ∀ k : Nat, k < 256 → ∀ add : Bool, goodS (textS add (decB k)) = decide (k < 16) := by decide +kernel
theorem parV_text {k : Nat} (hk : k < 16) (add : Bool) : parV (textS add (decB k)) = chg add k ∧ parE (textS add (decB k)) = 0 := by
  obtain ⟨h1, h2, h3⟩ := fin16 k hk add
  unfold parV parE
  rw [h1, h2, h3]
  exact ⟨rfl, rfl⟩
theorem good_text {s : ByteArray} (h : goodS s = true) : ∃ k : Nat, k < 16 ∧ s = textS (hasP s plusB) (decB k) := by
  unfold goodS at h
  simp only [Bool.and_eq_true, decide_eq_true_eq] at h
  have := puS_le (bodyS s)
  exact ⟨(puS (bodyS s)).1, by omega, by rw [dec_small _ (by omega)]; exact h.2.symm⟩
theorem parseR_calls {s : ByteArray} {w0 : World} (hG : GL w0) : ∀ ad, Calls Tryd.prog 12 (SV.dens ad [strV s]).toArray w0 (Ret w0 (retV [(parV s).den (fun x => x), .int .i64 (parE s)])) := by
  refine calls_sound tabOK Tryd.func12 rfl (by kernel_rfl) (Nat.le_of_ble_eq_true rfl) ⟨rfl, trivial⟩ ?_
  conv => whnf
  refine loop_rule tabOK (by kernel_rfl) (fun k : Nat => ⟨[(4, .v (.int .i64 k)), (3, .v (.int .i64 0)), (2, .ptr 2 0), (0, strV s)], [(2, (ti27.zero, 27))], [], fun g => g < w0.heap.size, w0⟩)
    (fun k => k ≤ 16 ∧ ∀ j : Nat, j < k → ∀ add, textS add (decB j) ≠ s) (fun k => 16 - k) 0 ⟨Nat.zero_le _, fun j h => absurd h (Nat.not_lt_zero _)⟩ ⟨⟨rfl, rfl, rfl, rfl, trivial⟩, ⟨rfl, trivial⟩, rfl, fun _ h => h, rfl⟩ ?_
  intro k ⟨hk, hnot⟩
  conv => whnf
  refine ⟨fun hc => ?_, fun hc => ?_⟩
  · conv => whnf
    have hk' : k < 16 := by have := of_decide_eq_true hc; omega
    rw [u8_nat (k := k) (by omega)]
    refine call_det (strV (textS true (decB k))) (show Ent Tryd.prog 14 by unfold Ent; kernel_rfl) (fun ad w hw => textRG_calls (by omega) (hG.wi hw) ad) rfl ?_
    conv => whnf
    refine ⟨fun hs => ?_, fun hs => ?_⟩
    · conv => whnf
      have hs := of_decide_eq_true hs
      obtain ⟨e1, e2⟩ := parV_text hk' true
      rw [hs] at e1 e2
      exact fin_ret fun ad => by rw [e1, e2]; rfl
    · conv => whnf
      have hs := of_decide_eq_false hs
      refine call_det (strV (textS false (decB k))) (show Ent Tryd.prog 14 by unfold Ent; kernel_rfl) (fun ad w hw => textRG_calls (by omega) (hG.wi hw) ad) rfl ?_
      conv => whnf
      refine ⟨fun hz => ?_, fun hz => ?_⟩
      · conv => whnf
        have hz := of_decide_eq_true hz
        obtain ⟨e1, e2⟩ := parV_text hk' false
        rw [hz] at e1 e2
        exact fin_ret fun ad => by rw [e1, e2]; rfl
      · conv => whnf
        have hz := of_decide_eq_false hz
        rw [i64_in (by omega)]
        refine ⟨k + 1, ⟨by omega, fun j hj add => ?_⟩, by omega, ⟨rfl, rfl, rfl, rfl, trivial⟩, ⟨rfl, trivial⟩, rfl, fun _ h => h, rfl⟩
        rcases Nat.lt_or_ge j k with h | h
        · exact hnot j h add
        · obtain rfl : j = k := by omega
          cases add
          · exact hz
          · exact hs
  · conv => whnf
    have hk' : k = 16 := by have := of_decide_eq_false hc; omega
    have hg : goodS s = false := by
      cases hg : goodS s
      · rfl
      · obtain ⟨j, hj, e⟩ := good_text hg
        exact absurd e.symm (hnot j (by omega) _)
    exact fin_ret fun ad => by rw [parV, parE, hg]; rfl
end Go.Proofs.YteogjiadmgbmbaaDoor
