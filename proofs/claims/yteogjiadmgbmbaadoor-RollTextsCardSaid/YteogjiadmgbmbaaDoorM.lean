/-
  RollTexts: walked.
-/
import Derived.Test.YteogjiadmgbmbaaDoorL
set_option linter.unusedVariables false
set_option linter.unusedSimpArgs false
namespace Go.Proofs.YteogjiadmgbmbaaDoor
open Go Go.Sx Go.RowKit
set_option maxHeartbeats 1000000
set_option maxRecDepth 20000
theorem parseText_calls {add : Bool} {n : Nat} (hn : n < 256) {w0 : World} (hG : GL w0) : ∀ ad, Calls Tryd.prog 11 (SV.dens ad [strV (textS add (decB n))]).toArray w0 (Ret w0 (retV [(if n < 16 then chg add n else chg false 0).den (fun x => x), .int .i64 (if n < 16 then 0 else 4)])) := by
  have hs : (textS add (decB n)).size ≤ 1000000 := by
    have := dec_size n hn
    unfold textS
    rw [ByteArray.size_append]
    have : (if add = true then (⟨#[43]⟩ : ByteArray) else ⟨#[45]⟩).size = 1 := by cases add <;> rfl
    omega
  have hp := parse_calls hs hG
  by_cases h : n < 16
  · obtain ⟨e1, e2⟩ := parV_text h add
    rw [e1, e2] at hp
    rw [if_pos h, if_pos h]; exact hp
  · have e := fin256 n hn add
    rw [decide_eq_false h] at e
    have e1 : parV (textS add (decB n)) = chg false 0 := by unfold parV; rw [e]; rfl
    have e2 : parE (textS add (decB n)) = 4 := by unfold parE; rw [e]; rfl
    rw [e1, e2] at hp
    rw [if_neg h, if_neg h]; exact hp
theorem textP_calls {s : ByteArray} (hg : goodS s = true) {w0 : World} (hG : GL w0) : ∀ ad, Calls Tryd.prog 13 (SV.dens ad [parV s]).toArray w0 (Ret w0 (.string s)) := by
  have hle := puS_le (bodyS s)
  have h := textG_calls (add := hasP s plusB) (n := (puS (bodyS s)).1) (by omega) hG
  have e : textS (hasP s plusB) (decB (puS (bodyS s)).1) = s := by
    unfold goodS at hg
    simp only [Bool.and_eq_true, decide_eq_true_eq] at hg
    rw [dec_small _ (by omega)]; exact hg.2
  rw [e] at h
  have e2 : parV s = chg (hasP s plusB) (puS (bodyS s)).1 := by unfold parV; rw [hg]; rfl
  rw [e2]; exact h
theorem rollTexts_calls {add : Bool} {n : Nat} (hn : n < 256) {s : ByteArray} {w0 : World} (hG : GL w0) : ∀ ad, Calls Tryd.prog 4 (SV.dens ad [chg add n, strV s]).toArray w0 (Ret w0 (.bool true)) := by
  refine calls_sound tabOK Tryd.func4 rfl (by kernel_rfl) (Nat.le_of_ble_eq_true rfl) ⟨⟨rfl, rfl, trivial⟩, rfl, trivial⟩ ?_
  conv => whnf
  refine call_det (.lit true) (show Ent Tryd.prog 6 by unfold Ent; kernel_rfl) (fun ad w _ => alive_calls w ad) trivial ?_
  conv => whnf
  refine ⟨fun hc => ?_, fun hc => ?_⟩
  · conv => whnf
    exact fin_ret fun ad => rfl
  have hlen := of_decide_eq_false hc
  conv => whnf
  refine call_det (.tup [parV s, .v (.int .i64 (parE s))]) ent11 (fun ad w hw => parse_calls (by omega) (hG.wi hw) ad) ⟨⟨rfl, rfl, trivial⟩, rfl, trivial⟩ ?_
  conv => whnf
  refine call_det (.tup [parV s, .v (.int .i64 (parE s))]) (show Ent Tryd.prog 12 by unfold Ent; kernel_rfl) (fun ad w hw => parseR_calls (hG.wi hw) ad) ⟨⟨rfl, rfl, trivial⟩, rfl, trivial⟩ ?_
  conv => whnf
  refine call_det (strV (textS add (decB n))) ent13 (fun ad w hw => textG_calls hn (hG.wi hw) ad) rfl ?_
  conv => whnf
  by_cases h16 : n < 16
  · refine call_det (.tup [chg add n, .v (.int .i64 0)]) ent11 (fun ad w hw => by have := parseText_calls (add := add) hn (hG.wi hw) ad; rw [if_pos h16, if_pos h16] at this; exact this) ⟨⟨rfl, rfl, trivial⟩, rfl, trivial⟩ ?_
    conv => whnf
    refine draw_rule tabOK mixed [] [] pP4_8 [] (by kernel_rfl) (by kernel_rfl) ?_
    conv => whnf
    refine call_det (strV (textS add (decB n))) ent13 (fun ad w hw => textG_calls hn (hG.wi hw) ad) rfl ?_
    conv => whnf
    refine call_det (strV (textS add (decB n))) (show Ent Tryd.prog 14 by unfold Ent; kernel_rfl) (fun ad w hw => textRG_calls hn (hG.wi hw) ad) rfl ?_
    conv => whnf
    refine ⟨fun _ => ?_, fun h => absurd h (by simp)⟩
    conv => whnf
    refine eq_plain (ks := ksChg) (by kernel_rfl) rfl rfl rfl (by exact ⟨rfl, rfl, trivial⟩) (by exact ⟨rfl, rfl, trivial⟩) ?_
    conv => whnf
    refine ⟨fun _ => ?_, fun h => absurd h (by simp [eqS, eq1])⟩
    conv => whnf
    refine ⟨fun _ => ?_, fun h => absurd h (by simp)⟩
    conv => whnf
    have h16' : ((n : Int) < 16) := by omega
    refine ⟨fun _ => ?_, fun h => absurd h (by simp [h16'])⟩
    conv => whnf
    refine ⟨fun h => absurd h (by decide), fun _ => ?_⟩
    conv => whnf
    refine eq_plain (ks := ksChg) (by kernel_rfl) rfl rfl rfl (by exact ⟨rfl, rfl, trivial⟩) (by exact ⟨rfl, rfl, trivial⟩) ?_
    conv => whnf
    refine ⟨fun _ => ?_, fun h => absurd h (by simp [eqS, eq1])⟩
    conv => whnf
    refine ⟨fun _ => ?_, fun he => ?_⟩
    · conv => whnf
      exact fin_ret fun ad => rfl
    · conv => whnf
      have hg : goodS s = true := by
        have he : parE s = 0 := by simpa using he
        unfold parE at he
        cases hg : goodS s
        · rw [hg] at he; exact absurd he (by decide)
        · rfl
      refine call_det (strV s) ent13 (fun ad w hw => textP_calls hg (hG.wi hw) ad) rfl ?_
      conv => whnf
      exact fin_ret fun ad => by simp [retV, SV.dens, SV.den]
  · refine call_det (.tup [chg false 0, .v (.int .i64 4)]) ent11 (fun ad w hw => by have := parseText_calls (add := add) hn (hG.wi hw) ad; rw [if_neg h16, if_neg h16] at this; exact this) ⟨⟨rfl, rfl, trivial⟩, rfl, trivial⟩ ?_
    conv => whnf
    refine draw_rule tabOK mixed [] [] pP4_8 [] (by kernel_rfl) (by kernel_rfl) ?_
    conv => whnf
    refine call_det (strV (textS add (decB n))) ent13 (fun ad w hw => textG_calls hn (hG.wi hw) ad) rfl ?_
    conv => whnf
    refine call_det (strV (textS add (decB n))) (show Ent Tryd.prog 14 by unfold Ent; kernel_rfl) (fun ad w hw => textRG_calls hn (hG.wi hw) ad) rfl ?_
    conv => whnf
    refine ⟨fun _ => ?_, fun h => absurd h (by simp)⟩
    conv => whnf
    refine eq_plain (ks := ksChg) (by kernel_rfl) rfl rfl rfl (by exact ⟨rfl, rfl, trivial⟩) (by exact ⟨rfl, rfl, trivial⟩) ?_
    conv => whnf
    refine ⟨fun _ => ?_, fun h => absurd h (by simp [eqS, eq1])⟩
    conv => whnf
    refine ⟨fun _ => ?_, fun h => absurd h (by simp)⟩
    conv => whnf
    have h16' : ¬ ((n : Int) < 16) := by omega
    refine ⟨fun _ => ?_, fun h => absurd h (by simp [h16'])⟩
    conv => whnf
    refine ⟨fun _ => ?_, fun h => absurd h (by decide)⟩
    conv => whnf
    refine ⟨fun _ => ?_, fun he => ?_⟩
    · conv => whnf
      exact fin_ret fun ad => rfl
    · conv => whnf
      have hg : goodS s = true := by
        have he : parE s = 0 := by simpa using he
        unfold parE at he
        cases hg : goodS s
        · rw [hg] at he; exact absurd he (by decide)
        · rfl
      refine call_det (strV s) ent13 (fun ad w hw => textP_calls hg (hG.wi hw) ad) rfl ?_
      conv => whnf
      exact fin_ret fun ad => by simp [retV, SV.dens, SV.den]
end Go.Proofs.YteogjiadmgbmbaaDoor
