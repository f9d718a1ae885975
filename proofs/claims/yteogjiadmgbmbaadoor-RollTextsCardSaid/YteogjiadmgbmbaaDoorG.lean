/-
  Numbers as strings (below 100), Text and Parse, and 'alive': walked.
-/
import Derived.Test.YteogjiadmgbmbaaDoorE
import Derived.Test.YteogjiadmgbmbaaDoorSxP
set_option linter.unusedVariables false
set_option linter.unusedSimpArgs false
namespace Go.Proofs.YteogjiadmgbmbaaDoor
open Go Go.Sx Go.RowKit
set_option maxHeartbeats 1000000
set_option maxRecDepth 20000
def digU (n : Nat) : UInt8 := UInt8.ofNat (48 + n)
/-- The decimal text of a number below 100. -/
def smallB (n : Nat) : ByteArray := if n < 10 then ⟨#[digU n]⟩ else ⟨#[digU (n / 10), digU (n % 10)]⟩
def lit36 : ByteArray := ⟨#[48, 49, 50, 51, 52, 53, 54, 55, 56, 57, 97, 98, 99, 100, 101, 102, 103, 104, 105, 106, 107, 108, 109, 110, 111, 112, 113, 114, 115, 116, 117, 118, 119, 120, 121, 122]⟩
def lit99 : ByteArray := ⟨#[48, 48, 48, 49, 48, 50, 48, 51, 48, 52, 48, 53, 48, 54, 48, 55, 48, 56, 48, 57, 49, 48, 49, 49, 49, 50, 49, 51, 49, 52, 49, 53, 49, 54, 49, 55, 49, 56, 49, 57, 50, 48, 50, 49, 50, 50, 50, 51, 50, 52, 50, 53, 50, 54, 50, 55, 50, 56, 50, 57, 51, 48, 51, 49, 51, 50, 51, 51, 51, 52, 51, 53, 51, 54, 51, 55, 51, 56, 51, 57, 52, 48, 52, 49, 52, 50, 52, 51, 52, 52, 52, 53, 52, 54, 52, 55, 52, 56, 52, 57, 53, 48, 53, 49, 53, 50, 53, 51, 53, 52, 53, 53, 53, 54, 53, 55, 53, 56, 53, 57, 54, 48, 54, 49, 54, 50, 54, 51, 54, 52, 54, 53, 54, 54, 54, 55, 54, 56, 54, 57, 55, 48, 55, 49, 55, 50, 55, 51, 55, 52, 55, 53, 55, 54, 55, 55, 55, 56, 55, 57, 56, 48, 56, 49, 56, 50, 56, 51, 56, 52, 56, 53, 56, 54, 56, 55, 56, 56, 56, 57, 57, 48, 57, 49, 57, 50, 57, 51, 57, 52, 57, 53, 57, 54, 57, 55, 57, 56, 57, 57]⟩
theorem lit36_at : ∀ n : Nat, n < 10 → lit36.extract n (n + 1) = smallB n := by decide +kernel
theorem lit99_at : ∀ n : Nat, n < 100 → 10 ≤ n → lit99.extract (n * 2) (n * 2 + 2) = smallB n := by decide +kernel
theorem small_calls {n : Nat} (hn : n < 100) (w0 : World) : ∀ ad, Calls Tryd.prog 44 (SV.dens ad [.v (.int .i64 n)]).toArray w0 (Ret w0 (.string (smallB n))) := by
  refine calls_sound tabOK Tryd.func44 rfl (by kernel_rfl) (Nat.le_of_ble_eq_true rfl) ⟨rfl, trivial⟩ ?_
  conv => whnf
  refine ⟨fun hc => ?_, fun hc => ?_⟩
  · have hc := of_decide_eq_true hc
    conv => whnf
    rw [i64_in (by omega)]
    refine ⟨⟨by omega, by omega, by show (n : Int) + 1 ≤ 36; omega⟩, ?_⟩
    conv => whnf
    refine fin_ret fun ad => ?_
    rw [← lit36_at n (by omega)]
    rfl
  · have hc := of_decide_eq_false hc
    conv => whnf
    rw [i64_in (k := (n : Int) * 2) (by omega), i64_in (by omega)]
    refine ⟨⟨by omega, by omega, by show (n : Int) * 2 + 2 ≤ lit99.size; rw [show lit99.size = 200 from rfl]; omega⟩, ?_⟩
    conv => whnf
    refine fin_ret fun ad => ?_
    rw [← lit99_at n (by omega) (by omega)]
    have e1 : ((n : Int) * 2).toNat = n * 2 := by omega
    have e2 : ((n : Int) * 2 + 2).toNat = n * 2 + 2 := by omega
    simp only [retV, SV.dens, SV.den, e1, e2]
    rfl
theorem formatInt_calls {n : Nat} (hn : n < 100) (w0 : World) : ∀ ad, Calls Tryd.prog 41 (SV.dens ad [.v (.int .i64 n), .v (.int .i64 10)]).toArray w0 (Ret w0 (.string (smallB n))) := by
  refine calls_sound tabOK Tryd.func41 rfl (by kernel_rfl) (Nat.le_of_ble_eq_true rfl) ⟨rfl, rfl, trivial⟩ ?_
  conv => whnf
  refine ⟨fun _ => ?_, fun h => absurd h (by decide)⟩
  conv => whnf
  refine ⟨fun _ => ?_, fun h => absurd (of_decide_eq_false h) (by omega)⟩
  conv => whnf
  refine ⟨fun _ => ?_, fun h => absurd (of_decide_eq_false h) (by omega)⟩
  conv => whnf
  refine call_det (strV (smallB n)) (show Ent Tryd.prog 44 by unfold Ent; kernel_rfl) (fun ad w _ => small_calls hn w ad) rfl ?_
  conv => whnf
  exact fin_ret fun ad => rfl
theorem itoa0_calls {n : Nat} (hn : n < 100) (w0 : World) : ∀ ad, Calls Tryd.prog 33 (SV.dens ad [.v (.int .i64 n)]).toArray w0 (Ret w0 (.string (smallB n))) := by
  refine calls_sound tabOK Tryd.func33 rfl (by kernel_rfl) (Nat.le_of_ble_eq_true rfl) ⟨rfl, trivial⟩ ?_
  conv => whnf
  refine call_det (strV (smallB n)) (show Ent Tryd.prog 41 by unfold Ent; kernel_rfl) (fun ad w _ => formatInt_calls hn w ad) rfl ?_
  conv => whnf
  exact fin_ret fun ad => rfl
theorem itoa_calls {n : Nat} (hn : n < 100) (w0 : World) : ∀ ad, Calls Tryd.prog 25 (SV.dens ad [.v (.int .i64 n)]).toArray w0 (Ret w0 (.string (smallB n))) := by
  refine calls_sound tabOK Tryd.func25 rfl (by kernel_rfl) (Nat.le_of_ble_eq_true rfl) ⟨rfl, trivial⟩ ?_
  conv => whnf
  refine call_det (strV (smallB n)) (show Ent Tryd.prog 33 by unfold Ent; kernel_rfl) (fun ad w _ => itoa0_calls hn w ad) rfl ?_
  conv => whnf
  exact fin_ret fun ad => rfl
theorem ent25 : Ent Tryd.prog 25 := by unfold Ent; kernel_rfl
/-- The text of a change. -/
def textS (add : Bool) (t : ByteArray) : ByteArray := (if add = true then ⟨#[43]⟩ else ⟨#[45]⟩) ++ t
theorem text_calls {add : Bool} {n : Nat} {t : ByteArray} (hn : n < 256) (hts : t.size ≤ 1000) (ht : ∀ w ad, Calls Tryd.prog 25 (SV.dens ad [.v (.int .i64 n)]).toArray w (Ret w (.string t))) (w0 : World) : ∀ ad, Calls Tryd.prog 13 (SV.dens ad [chg add n]).toArray w0 (Ret w0 (.string (textS add t))) := by
  refine calls_sound tabOK Tryd.func13 rfl (by kernel_rfl) (Nat.le_of_ble_eq_true rfl) ⟨⟨rfl, rfl, trivial⟩, trivial⟩ ?_
  conv => whnf
  rw [i64_in (by omega)]
  refine call_det (strV t) ent25 (fun ad w _ => ht w ad) rfl ?_
  conv => whnf
  cases add
  · refine ⟨fun h => absurd h (by decide), fun _ => ?_⟩
    conv => whnf
    refine ⟨by show 1 + t.size ≤ _; omega, ?_⟩
    conv => whnf
    exact fin_ret fun ad => rfl
  · refine ⟨fun _ => ?_, fun h => absurd h (by decide)⟩
    conv => whnf
    refine ⟨by show 1 + t.size ≤ _; omega, ?_⟩
    conv => whnf
    exact fin_ret fun ad => rfl
theorem parseUint_calls {s : ByteArray} (hmax : s.size ≤ 1000000) (hok : (puS s).2 = 0) (w0 : World) : ∀ ad, Calls Tryd.prog 24 (SV.dens ad [strV s, .v (.int .i64 10), .v (.int .i64 4)]).toArray w0 (Ret w0 (retV [.int .u64 (puS s).1, .nilIface])) := by
  refine calls_sound tabOK Tryd.func24 rfl (by kernel_rfl) (Nat.le_of_ble_eq_true rfl) ⟨rfl, rfl, rfl, trivial⟩ ?_
  conv => whnf
  refine call_det (.tup [.v (.int .u64 (puS s).1), .v .nilIface]) (show Ent Tryd.prog 31 by unfold Ent; kernel_rfl) (fun ad w _ => by have := parseUint0_calls s hmax w ad; rw [hok] at this; exact this) ⟨rfl, rfl, trivial⟩ ?_
  conv => whnf
  refine raw_nil rfl rfl (Nat.le_of_ble_eq_true rfl) rfl Tryd.underlying54 (.inl rfl) (.inr rfl) ?_
  conv => whnf
  refine ⟨fun h => absurd h (by decide), fun _ => ?_⟩
  conv => whnf
  exact fin_ret fun ad => rfl
theorem ent13 : Ent Tryd.prog 13 := by unfold Ent; kernel_rfl
theorem ent11 : Ent Tryd.prog 11 := by unfold Ent; kernel_rfl
def plusB : ByteArray := ⟨#[43]⟩
def minusB : ByteArray := ⟨#[45]⟩
/-- What stands behind the sign. -/
def bodyS (s : ByteArray) : ByteArray := if hasP s plusB = true then cutP s plusB else cutP s minusB
theorem small_size (n : Nat) : (smallB n).size ≤ 1000 := by unfold smallB; split <;> (show _ ≤ 1000; simp [ByteArray.size])
theorem cutP_size (s p : ByteArray) : (cutP s p).size ≤ s.size := by
  unfold cutP
  split
  · rw [ByteArray.size_extract]; omega
  · exact Nat.le_refl _
theorem bodyS_size (s : ByteArray) : (bodyS s).size ≤ s.size := by
  unfold bodyS; split <;> exact cutP_size _ _
/-- A string that reads as a change: whether it is written so. -/
def goodS (s : ByteArray) : Bool := decide ((puS (bodyS s)).2 = 0) && decide (textS (hasP s plusB) (smallB (puS (bodyS s)).1) = s)
theorem pu_le : ∀ (l : List UInt8) (n : Nat), n ≤ 15 → (pu l n).1 ≤ 15
  | [], n, h => h
  | c :: r, n, h => by
    unfold pu
    split
    · split
      · exact Nat.le_refl _
      · exact pu_le r _ (by omega)
    · exact Nat.zero_le _
theorem puS_le (s : ByteArray) : (puS s).1 ≤ 15 := by
  unfold puS; split
  · exact Nat.zero_le _
  · exact pu_le _ _ (Nat.zero_le _)
theorem textN_calls {add : Bool} {n : Nat} (hn : n < 100) (w0 : World) : ∀ ad, Calls Tryd.prog 13 (SV.dens ad [chg add n]).toArray w0 (Ret w0 (.string (textS add (smallB n)))) :=
  text_calls (by omega) (small_size n) (fun w ad => itoa_calls hn w ad) w0
theorem parseOk_calls {s : ByteArray} (hmax : s.size ≤ 1000000) (hok : (puS (bodyS s)).2 = 0) (w0 : World) : ∀ ad, Calls Tryd.prog 11 (SV.dens ad [strV s]).toArray w0 (Ret w0 (retV [(chg (goodS s && hasP s plusB) (if goodS s = true then (puS (bodyS s)).1 else 0)).den (fun x => x), .int .i64 (if goodS s = true then 0 else 4)])) := by
  refine calls_sound tabOK Tryd.func11 rfl (by kernel_rfl) (Nat.le_of_ble_eq_true rfl) ⟨rfl, trivial⟩ ?_
  conv => whnf
  refine call_det (.tup [strV (cutP s plusB), .v (.bool (hasP s plusB))]) (show Ent Tryd.prog 22 by unfold Ent; kernel_rfl) (fun ad w _ => cutPrefix_calls s plusB w ad) ⟨rfl, rfl, trivial⟩ ?_
  conv => whnf
  have hsz : ∀ p, (cutP s p).size ≤ 1000000 := fun p => Nat.le_trans (cutP_size s p) hmax
  refine ⟨fun hp => ?_, fun hp => ?_⟩
  · have hp : hasP s plusB = false := by simpa using hp
    have hb : bodyS s = cutP s minusB := by unfold bodyS; rw [hp]; rfl
    conv => whnf
    refine call_det (strV (cutP s minusB)) (show Ent Tryd.prog 23 by unfold Ent; kernel_rfl) (fun ad w _ => trimPrefix_calls s minusB w ad) rfl ?_
    conv => whnf
    refine call_det (.tup [.v (.int .u64 (puS (bodyS s)).1), .v .nilIface]) (show Ent Tryd.prog 24 by unfold Ent; kernel_rfl) (fun ad w _ => by have := parseUint_calls (s := bodyS s) (by rw [hb]; exact hsz _) hok w ad; rw [hb] at this ⊢; exact this) ⟨rfl, rfl, trivial⟩ ?_
    conv => whnf
    have hle := puS_le (bodyS s)
    rw [u8_in (by omega)]
    refine raw_nil rfl rfl (Nat.le_of_ble_eq_true rfl) rfl Tryd.underlying54 (.inl rfl) (.inr rfl) ?_
    conv => whnf
    refine ⟨fun h => absurd h (by decide), fun _ => ?_⟩
    conv => whnf
    refine call_det (strV (textS (hasP s plusB) (smallB (puS (bodyS s)).1))) ent13 (fun ad w _ => textN_calls (by omega) w ad) rfl ?_
    conv => whnf
    refine ⟨fun hq => ?_, fun hq => ?_⟩
    · conv => whnf
      have hg : goodS s = false := by
        unfold goodS
        have : decide (textS (hasP s plusB) (smallB (puS (bodyS s)).1) = s) = false := by simpa using hq
        rw [this, Bool.and_false]
      exact fin_ret fun ad => by rw [hg]; rfl
    · conv => whnf
      have hg : goodS s = true := by
        unfold goodS
        have : decide (textS (hasP s plusB) (smallB (puS (bodyS s)).1) = s) = true := by simpa using hq
        rw [this, hok]; rfl
      exact fin_ret fun ad => by rw [hg]; rfl
  · have hp : hasP s plusB = true := by simpa using hp
    have hb : bodyS s = cutP s plusB := by unfold bodyS; rw [hp]; rfl
    conv => whnf
    refine call_det (.tup [.v (.int .u64 (puS (bodyS s)).1), .v .nilIface]) (show Ent Tryd.prog 24 by unfold Ent; kernel_rfl) (fun ad w _ => by have := parseUint_calls (s := bodyS s) (by rw [hb]; exact hsz _) hok w ad; rw [hb] at this ⊢; exact this) ⟨rfl, rfl, trivial⟩ ?_
    conv => whnf
    have hle := puS_le (bodyS s)
    rw [u8_in (by omega)]
    refine raw_nil rfl rfl (Nat.le_of_ble_eq_true rfl) rfl Tryd.underlying54 (.inl rfl) (.inr rfl) ?_
    conv => whnf
    refine ⟨fun h => absurd h (by decide), fun _ => ?_⟩
    conv => whnf
    refine call_det (strV (textS (hasP s plusB) (smallB (puS (bodyS s)).1))) ent13 (fun ad w _ => textN_calls (by omega) w ad) rfl ?_
    conv => whnf
    refine ⟨fun hq => ?_, fun hq => ?_⟩
    · conv => whnf
      have hg : goodS s = false := by
        unfold goodS
        have : decide (textS (hasP s plusB) (smallB (puS (bodyS s)).1) = s) = false := by simpa using hq
        rw [this, Bool.and_false]
      exact fin_ret fun ad => by rw [hg]; rfl
    · conv => whnf
      have hg : goodS s = true := by
        unfold goodS
        have : decide (textS (hasP s plusB) (smallB (puS (bodyS s)).1) = s) = true := by simpa using hq
        rw [this, hok]; rfl
      exact fin_ret fun ad => by rw [hg]; rfl
/-! ### Alive -/
def ksRoll : List CK := [.int .i64, .int .u16]
def ksChg : List CK := [.bool, .int .u8]
theorem alive_calls (w0 : World) : ∀ ad, Calls Tryd.prog 6 (SV.dens ad []).toArray w0 (Ret w0 (.bool true)) := by
  refine calls_sound tabOK Tryd.func6 rfl (by kernel_rfl) (Nat.le_of_ble_eq_true rfl) trivial ?_
  conv => whnf
  refine call_det (.tup [rol 1 11, .v (.int .i64 0)]) (show Ent Tryd.prog 7 by unfold Ent; kernel_rfl) (fun ad w _ => apply_calls (v := 0) (M := 3) (add := true) (id := 3) (by decide) (by decide) (by decide) (by decide) w ad) ⟨⟨rfl, rfl, trivial⟩, rfl, trivial⟩ ?_
  conv => whnf
  refine call_det (.tup [chg false 15, .v (.int .i64 0)]) ent11 (fun ad w _ => parseOk_calls (s := ⟨#[45, 49, 53]⟩) (by decide) (by decide +kernel) w ad) ⟨⟨rfl, rfl, trivial⟩, rfl, trivial⟩ ?_
  conv => whnf
  refine call_det (.tup [chg false 0, .v (.int .i64 4)]) ent11 (fun ad w _ => parseOk_calls (s := ⟨#[43, 48, 51]⟩) (by decide) (by decide +kernel) w ad) ⟨⟨rfl, rfl, trivial⟩, rfl, trivial⟩ ?_
  conv => whnf
  refine ⟨fun _ => ?_, fun h => absurd h (by decide)⟩
  conv => whnf
  refine eq_plain (ks := ksRoll) (by kernel_rfl) rfl rfl rfl (by exact ⟨rfl, rfl, trivial⟩) (by exact ⟨rfl, rfl, trivial⟩) ?_
  conv => whnf
  refine ⟨fun _ => ?_, fun h => absurd h (by simp [eqS, eq1])⟩
  conv => whnf
  refine ⟨fun _ => ?_, fun h => absurd h (by decide)⟩
  conv => whnf
  refine eq_plain (ks := ksChg) (by kernel_rfl) rfl rfl rfl (by exact ⟨rfl, rfl, trivial⟩) (by exact ⟨rfl, rfl, trivial⟩) ?_
  conv => whnf
  refine ⟨fun _ => ?_, fun h => absurd h (by simp [eqS, eq1])⟩
  conv => whnf
  refine ⟨fun _ => ?_, fun h => absurd h (by decide)⟩
  conv => whnf
  refine call_det (strV (⟨#[45, 49, 53]⟩ : ByteArray)) ent13 (fun ad w _ => textN_calls (add := false) (n := 15) (by omega) w ad) rfl ?_
  conv => whnf
  refine ⟨fun _ => ?_, fun h => absurd h (by decide +kernel)⟩
  conv => whnf
  refine call_det (.v (.bool true)) ent9 (fun ad w _ => rollRight_calls 1 11 w ad) rfl ?_
  conv => whnf
  exact fin_ret fun ad => rfl
end Go.Proofs.YteogjiadmgbmbaaDoor
