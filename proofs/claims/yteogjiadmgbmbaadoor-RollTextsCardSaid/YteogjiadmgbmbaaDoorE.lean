/-
  Prefixes of strings, and numbers out of strings (at base 10 and four bits): walked.
-/
import Derived.Test.YteogjiadmgbmbaaDoorD
import Derived.Test.YteogjiadmgbmbaaDoorSxS
set_option linter.unusedVariables false
set_option linter.unusedSimpArgs false
namespace Go.Proofs.YteogjiadmgbmbaaDoor
open Go Go.Sx Go.RowKit
set_option maxHeartbeats 1000000
set_option maxRecDepth 20000
def strV (s : ByteArray) : SV := .v (.string s)
def hasP (s p : ByteArray) : Bool := decide (p.size ≤ s.size) && decide (s.extract 0 p.size = p)
def cutP (s p : ByteArray) : ByteArray := if hasP s p = true then s.extract p.size s.size else s
theorem hasPrefix_calls (s p : ByteArray) (w0 : World) : ∀ ad, Calls Tryd.prog 34 (SV.dens ad [strV s, strV p]).toArray w0 (Ret w0 (.bool (hasP s p))) := by
  refine calls_sound tabOK Tryd.func34 rfl (by kernel_rfl) (Nat.le_of_ble_eq_true rfl) ⟨rfl, rfl, trivial⟩ ?_
  conv => whnf
  refine ⟨fun hc => ?_, fun hc => ?_⟩
  · conv => whnf
    have hc' := of_decide_eq_true hc
    refine ⟨⟨by omega, by omega, by omega⟩, ?_⟩
    conv => whnf
    refine fin_ret fun ad => ?_
    have h1 : decide (p.size ≤ s.size) = true := decide_eq_true (by omega)
    simp only [retV, SV.dens, SV.den, hasP, h1, Bool.true_and, Int.toNat_natCast]
    rfl
  · conv => whnf
    have hc' := of_decide_eq_false hc
    have h1 : decide (p.size ≤ s.size) = false := decide_eq_false (by omega)
    exact fin_ret fun ad => by simp only [retV, SV.dens, SV.den, hasP, h1, Bool.false_and]
theorem ent34 : Ent Tryd.prog 34 := by unfold Ent; kernel_rfl
theorem has_le {s p : ByteArray} (h : hasP s p = true) : p.size ≤ s.size := by
  simp only [hasP, Bool.and_eq_true, decide_eq_true_eq] at h; exact h.1
theorem cutPrefix0_calls (s p : ByteArray) (w0 : World) : ∀ ad, Calls Tryd.prog 29 (SV.dens ad [strV s, strV p]).toArray w0 (Ret w0 (retV [.string (cutP s p), .bool (hasP s p)])) := by
  refine calls_sound tabOK Tryd.func29 rfl (by kernel_rfl) (Nat.le_of_ble_eq_true rfl) ⟨rfl, rfl, trivial⟩ ?_
  conv => whnf
  refine call_det (.v (.bool (hasP s p))) ent34 (fun ad w _ => hasPrefix_calls s p w ad) rfl ?_
  conv => whnf
  refine ⟨fun hc => ?_, fun hc => ?_⟩
  · conv => whnf
    have hc : hasP s p = false := by simpa using hc
    exact fin_ret fun ad => by simp [retV, SV.dens, SV.den, cutP, hc, strV]
  · conv => whnf
    have hc : hasP s p = true := by simpa using hc
    have := has_le hc
    refine ⟨⟨by omega, by omega, by omega⟩, ?_⟩
    conv => whnf
    exact fin_ret fun ad => by simp [retV, SV.dens, SV.den, cutP, hc, strV]
theorem cutPrefix_calls (s p : ByteArray) (w0 : World) : ∀ ad, Calls Tryd.prog 22 (SV.dens ad [strV s, strV p]).toArray w0 (Ret w0 (retV [.string (cutP s p), .bool (hasP s p)])) := by
  refine calls_sound tabOK Tryd.func22 rfl (by kernel_rfl) (Nat.le_of_ble_eq_true rfl) ⟨rfl, rfl, trivial⟩ ?_
  conv => whnf
  refine call_det (.tup [strV (cutP s p), .v (.bool (hasP s p))]) (show Ent Tryd.prog 29 by unfold Ent; kernel_rfl) (fun ad w _ => cutPrefix0_calls s p w ad) ⟨rfl, rfl, trivial⟩ ?_
  conv => whnf
  exact fin_ret fun ad => rfl
theorem trimPrefix0_calls (s p : ByteArray) (w0 : World) : ∀ ad, Calls Tryd.prog 30 (SV.dens ad [strV s, strV p]).toArray w0 (Ret w0 (.string (cutP s p))) := by
  refine calls_sound tabOK Tryd.func30 rfl (by kernel_rfl) (Nat.le_of_ble_eq_true rfl) ⟨rfl, rfl, trivial⟩ ?_
  conv => whnf
  refine call_det (.v (.bool (hasP s p))) ent34 (fun ad w _ => hasPrefix_calls s p w ad) rfl ?_
  conv => whnf
  refine ⟨fun hc => ?_, fun hc => ?_⟩
  · conv => whnf
    have := has_le hc
    refine ⟨⟨by omega, by omega, by omega⟩, ?_⟩
    conv => whnf
    exact fin_ret fun ad => by simp [retV, SV.dens, SV.den, cutP, hc, strV]
  · conv => whnf
    exact fin_ret fun ad => by simp [retV, SV.dens, SV.den, cutP, hc, strV]
theorem trimPrefix_calls (s p : ByteArray) (w0 : World) : ∀ ad, Calls Tryd.prog 23 (SV.dens ad [strV s, strV p]).toArray w0 (Ret w0 (.string (cutP s p))) := by
  refine calls_sound tabOK Tryd.func23 rfl (by kernel_rfl) (Nat.le_of_ble_eq_true rfl) ⟨rfl, rfl, trivial⟩ ?_
  conv => whnf
  refine call_det (strV (cutP s p)) (show Ent Tryd.prog 30 by unfold Ent; kernel_rfl) (fun ad w _ => trimPrefix0_calls s p w ad) rfl ?_
  conv => whnf
  exact fin_ret fun ad => rfl
/-! ### Numbers -/
/-- What stands in a string, read as a decimal number of four bits: the number, and the error's number. -/
def pu : List UInt8 → Nat → Nat × Int
  | [], n => (n, 0)
  | c :: r, n => if 48 ≤ c.toNat ∧ c.toNat ≤ 57 then (if 15 < n * 10 + (c.toNat - 48) then (15, 1) else pu r (n * 10 + (c.toNat - 48))) else (0, 2)
def puS (s : ByteArray) : Nat × Int := if s.size = 0 then (0, 2) else pu s.data.toList 0
def errI (e : Int) : Value := if e = 0 then .nilIface else .iface 63 (.int .i64 e)
theorem lower_calls (x : Int) (w0 : World) : ∀ ad, Calls Tryd.prog 35 (SV.dens ad [.v (.int .u8 x)]).toArray w0 (Ret w0 (.int .u8 (bor .u8 x 32))) := by
  refine calls_sound tabOK Tryd.func35 rfl (by kernel_rfl) (Nat.le_of_ble_eq_true rfl) ⟨rfl, trivial⟩ ?_
  conv => whnf
  exact fin_ret fun ad => rfl
theorem ent35 : Ent Tryd.prog 35 := by unfold Ent; kernel_rfl
structure UI where
  k : Nat
  n : Nat
theorem size0 {s : ByteArray} : s.size = 0 ↔ s = ⟨#[]⟩ := by
  constructor
  · intro h
    cases s with
    | mk d =>
      have : d.size = 0 := h
      rw [Array.size_eq_zero_iff.1 this]
  · rintro rfl; rfl
theorem parseUint0_calls (s : ByteArray) (hmax : s.size ≤ 1000000) (w0 : World) : ∀ ad, Calls Tryd.prog 31 (SV.dens ad [strV s, .v (.int .i64 10), .v (.int .i64 4)]).toArray w0 (Ret w0 (retV [.int .u64 (puS s).1, errI (puS s).2])) := by
  refine calls_sound tabOK Tryd.func31 rfl (by kernel_rfl) (Nat.le_of_ble_eq_true rfl) ⟨rfl, rfl, rfl, trivial⟩ ?_
  conv => whnf
  refine ⟨fun hc => ?_, fun hc => ?_⟩
  · conv => whnf
    have hc := of_decide_eq_true hc
    refine raw_iface (v := .int .i64 2) rfl rfl (Nat.le_of_ble_eq_true rfl) (.inl rfl) Tryd.underlying63 (by simp) ?_
    conv => whnf
    subst hc
    exact fin_ret fun ad => rfl
  have hne : s.size ≠ 0 := fun h => (of_decide_eq_false hc) (size0.1 h)
  conv => whnf
  refine ⟨fun _ => ?_, fun h => absurd h (by decide)⟩
  conv => whnf
  refine ⟨fun _ => ?_, fun h => absurd h (by decide)⟩
  conv => whnf
  refine ⟨fun h => absurd h (by decide), fun _ => ?_⟩
  conv => whnf
  refine ⟨fun h => absurd h (by decide), fun _ => ?_⟩
  conv => whnf
  refine ⟨fun h => absurd h (by decide), fun _ => ?_⟩
  conv => whnf
  refine ⟨fun _ => ?_, fun h => absurd h (by decide)⟩
  conv => whnf
  refine ⟨by decide, ?_⟩
  conv => whnf
  refine raw_bytes (s := s) rfl rfl (Nat.le_of_ble_eq_true rfl) rfl Tryd.underlying9 Tryd.underlying59 Tryd.underlying5 fun g c w1 pr1 hr1 hk1 hs1 hg1 => ?_
  conv => whnf
  have hmv : IntKind.u64.wrap (bshl .u64 1 (IntKind.u64.wrap 4) - 1) = 15 := by decide
  rw [hmv]
  have hlen : s.data.toList.length = s.size := by simp
  refine loop_rule tabOK (by kernel_rfl) (fun i : UI => ⟨[(101, .v (.int .i64 i.k)), (100, .v (.int .i64 s.size)), (99, .v (.slice (some ⟨g, 0, none⟩) s.size c)), (13, .v (.int .u64 i.n)), (12, .lit false), (11, .v (.int .u64 15)), (10, .v (.int .u64 1844674407370955162)), (9, strV s), (8, .v (.bool (decide ((10 : Int) = 0)))), (1, .v (.int .i64 10)), (7, .v .nilIface), (6, .v (.int .u64 0))], [], [], pr1, w1⟩)
    (fun i => i.k ≤ s.size ∧ i.n ≤ 15 ∧ pu s.data.toList 0 = pu (s.data.toList.drop i.k) i.n) (fun i => s.size - i.k) ⟨0, 0⟩ ⟨Nat.zero_le _, Nat.zero_le _, rfl⟩ ⟨⟨rfl, rfl, rfl, rfl, rfl, rfl, rfl, rfl, rfl, rfl, rfl, rfl, trivial⟩, trivial, rfl, fun _ h => h, rfl⟩ ?_
  intro i ⟨hk, hn, hpu⟩
  have hputs : puS s = pu (s.data.toList.drop i.k) i.n := by unfold puS; rw [if_neg hne, hpu]
  conv => whnf
  refine ⟨fun hc => ?_, fun hc => ?_⟩
  · conv => whnf
    have hk' : i.k < s.size := by have := of_decide_eq_true hc; omega
    obtain ⟨b, hb⟩ : ∃ b, s.data.toList[i.k]? = some b := ⟨_, List.getElem?_eq_getElem (by omega)⟩
    have hdrop : s.data.toList.drop i.k = b :: s.data.toList.drop (i.k + 1) := by
      rw [List.drop_eq_getElem_cons (by omega)]
      rw [List.getElem?_eq_getElem (by omega)] at hb
      cases hb; rfl
    rw [hdrop] at hputs hpu
    have hb256 : b.toNat < 256 := b.toNat_lt
    have hi : (0 : Int) ≤ i.k ∧ (i.k : Int) < s.size ∧ (some (⟨g, 0, none⟩ : Addr)) ≠ none := ⟨by omega, by omega, by simp⟩
    refine ⟨hi, ?_⟩
    conv => whnf
    refine xload_row tabOK (t := 5) rfl byteSeg hr1 (sz := 1) (fun x _ => rfl) ⟨rfl, trivial⟩ hb (i := i.k) (o := 0) (by rw [Int.toNat_natCast]; rfl) (by decide) ?_
    have fins : ∀ {tm : List (Nat × SV)}, puS s = (0, 2) → FinVC (.of w0) (Ret w0 (retV [.int .u64 (puS s).1, errI (puS s).2])) ⟨tm, [], [], pr1, w1⟩ [.v (.int .u64 0), .v (.iface 63 (.int .i64 2))] := fun h => fin_ret fun ad => by rw [h]; rfl
    conv => whnf
    refine ⟨fun h95 => ?_, fun h95 => ?_⟩
    · conv => whnf
      refine ⟨fun h => absurd h (by decide), fun _ => ?_⟩
      conv => whnf
      refine ⟨fun h48 => ?_, fun h48 => ?_⟩
      · conv => whnf
        refine ⟨fun h57 => ?_, fun h57 => ?_⟩
        · conv => whnf
          have h48 := of_decide_eq_true h48
          have h57 := of_decide_eq_true h57
          have hd : IntKind.u8.wrap ((b.toNat : Int) - 48) = ((b.toNat - 48 : Nat) : Int) := by rw [u8_in (by omega)]; omega
          rw [hd]
          refine ⟨fun h => absurd (of_decide_eq_true h) (by rw [u8_in (k := 10) (by decide)]; omega), fun _ => ?_⟩
          conv => whnf
          refine ⟨fun h => absurd (of_decide_eq_true h) (by omega), fun _ => ?_⟩
          conv => whnf
          have hm : IntKind.u64.wrap (IntKind.u64.wrap ((i.n : Int) * IntKind.u64.wrap 10) + IntKind.u64.wrap ((b.toNat - 48 : Nat) : Int)) = ((i.n * 10 + (b.toNat - 48) : Nat) : Int) := by
            simp only [wU64]; omega
          have hm2 : IntKind.u64.wrap ((i.n : Int) * IntKind.u64.wrap 10) = ((i.n * 10 : Nat) : Int) := by
            simp only [wU64]; omega
          rw [hm, hm2]
          refine ⟨fun h => absurd (of_decide_eq_true h) (by omega), fun _ => ?_⟩
          conv => whnf
          have hstep : pu (b :: s.data.toList.drop (i.k + 1)) i.n = if 15 < i.n * 10 + (b.toNat - 48) then (15, 1) else pu (s.data.toList.drop (i.k + 1)) (i.n * 10 + (b.toNat - 48)) := by
            conv => lhs; unfold pu
            rw [if_pos ⟨by omega, by omega⟩]
          refine ⟨fun hbig => ?_, fun hbig => ?_⟩
          · conv => whnf
            have hbig := of_decide_eq_true hbig
            refine raw_iface (v := .int .i64 1) rfl rfl (Nat.le_of_ble_eq_true rfl) (.inl rfl) Tryd.underlying63 (by simp) ?_
            conv => whnf
            exact fin_ret fun ad => by rw [hputs, hstep, if_pos (by omega)]; rfl
          · conv => whnf
            have hbig := of_decide_eq_false hbig
            have hle : ¬ 15 < i.n * 10 + (b.toNat - 48) := by omega
            refine ⟨⟨i.k + 1, i.n * 10 + (b.toNat - 48)⟩, ⟨hk', by show i.n * 10 + (b.toNat - 48) ≤ 15; omega, ?_⟩, by show s.size - (i.k + 1) < s.size - i.k; omega, ⟨i64_step (m := 1000001) (by omega) (by omega), rfl, rfl, rfl, rfl, rfl, rfl, rfl, rfl, rfl, rfl, rfl, trivial⟩, trivial, rfl, fun _ h => h, rfl⟩
            rw [hpu, hstep, if_neg hle]
        · have h57 := of_decide_eq_false h57
          conv => whnf
          have hbad : puS s = (0, 2) := by rw [hputs]; unfold pu; rw [if_neg (by omega)]
          refine call_det (.v (.int .u8 (bor .u8 b.toNat 32))) ent35 (fun ad w _ => lower_calls _ w ad) rfl ?_
          conv => whnf
          refine ⟨fun h97 => ?_, fun h97 => ?_⟩
          · conv => whnf
            refine call_det (.v (.int .u8 (bor .u8 b.toNat 32))) ent35 (fun ad w _ => lower_calls _ w ad) rfl ?_
            conv => whnf
            refine ⟨fun h122 => ?_, fun h122 => ?_⟩
            · conv => whnf
              refine call_det (.v (.int .u8 (bor .u8 b.toNat 32))) ent35 (fun ad w _ => lower_calls _ w ad) rfl ?_
              conv => whnf
              have h97 := of_decide_eq_true h97
              have h122 := of_decide_eq_true h122
              refine ⟨fun _ => ?_, fun h => absurd (of_decide_eq_false h) (by rw [u8_in (k := 10) (by decide), u8_in (k := bor .u8 b.toNat 32 - 97) (by omega), u8_in (by omega)]; omega)⟩
              conv => whnf
              refine raw_iface (v := .int .i64 2) rfl rfl (Nat.le_of_ble_eq_true rfl) (.inl rfl) Tryd.underlying63 (by simp) ?_
              conv => whnf
              exact fins hbad
            · conv => whnf
              refine raw_iface (v := .int .i64 2) rfl rfl (Nat.le_of_ble_eq_true rfl) (.inl rfl) Tryd.underlying63 (by simp) ?_
              conv => whnf
              exact fins hbad
          · conv => whnf
            refine raw_iface (v := .int .i64 2) rfl rfl (Nat.le_of_ble_eq_true rfl) (.inl rfl) Tryd.underlying63 (by simp) ?_
            conv => whnf
            exact fins hbad
      · have h48 := of_decide_eq_false h48
        conv => whnf
        have hbad : puS s = (0, 2) := by rw [hputs]; unfold pu; rw [if_neg (by omega)]
        refine call_det (.v (.int .u8 (bor .u8 b.toNat 32))) ent35 (fun ad w _ => lower_calls _ w ad) rfl ?_
        conv => whnf
        refine ⟨fun h97 => ?_, fun h97 => ?_⟩
        · conv => whnf
          refine call_det (.v (.int .u8 (bor .u8 b.toNat 32))) ent35 (fun ad w _ => lower_calls _ w ad) rfl ?_
          conv => whnf
          refine ⟨fun h122 => ?_, fun h122 => ?_⟩
          · conv => whnf
            refine call_det (.v (.int .u8 (bor .u8 b.toNat 32))) ent35 (fun ad w _ => lower_calls _ w ad) rfl ?_
            conv => whnf
            have h97 := of_decide_eq_true h97
            have h122 := of_decide_eq_true h122
            refine ⟨fun _ => ?_, fun h => absurd (of_decide_eq_false h) (by rw [u8_in (k := 10) (by decide), u8_in (k := bor .u8 b.toNat 32 - 97) (by omega), u8_in (by omega)]; omega)⟩
            conv => whnf
            refine raw_iface (v := .int .i64 2) rfl rfl (Nat.le_of_ble_eq_true rfl) (.inl rfl) Tryd.underlying63 (by simp) ?_
            conv => whnf
            exact fins hbad
          · conv => whnf
            refine raw_iface (v := .int .i64 2) rfl rfl (Nat.le_of_ble_eq_true rfl) (.inl rfl) Tryd.underlying63 (by simp) ?_
            conv => whnf
            exact fins hbad
        · conv => whnf
          refine raw_iface (v := .int .i64 2) rfl rfl (Nat.le_of_ble_eq_true rfl) (.inl rfl) Tryd.underlying63 (by simp) ?_
          conv => whnf
          exact fins hbad
    · conv => whnf
      refine ⟨fun h48 => ?_, fun h48 => ?_⟩
      · conv => whnf
        refine ⟨fun h57 => ?_, fun h57 => ?_⟩
        · conv => whnf
          have h48 := of_decide_eq_true h48
          have h57 := of_decide_eq_true h57
          have hd : IntKind.u8.wrap ((b.toNat : Int) - 48) = ((b.toNat - 48 : Nat) : Int) := by rw [u8_in (by omega)]; omega
          rw [hd]
          refine ⟨fun h => absurd (of_decide_eq_true h) (by rw [u8_in (k := 10) (by decide)]; omega), fun _ => ?_⟩
          conv => whnf
          refine ⟨fun h => absurd (of_decide_eq_true h) (by omega), fun _ => ?_⟩
          conv => whnf
          have hm : IntKind.u64.wrap (IntKind.u64.wrap ((i.n : Int) * IntKind.u64.wrap 10) + IntKind.u64.wrap ((b.toNat - 48 : Nat) : Int)) = ((i.n * 10 + (b.toNat - 48) : Nat) : Int) := by
            simp only [wU64]; omega
          have hm2 : IntKind.u64.wrap ((i.n : Int) * IntKind.u64.wrap 10) = ((i.n * 10 : Nat) : Int) := by
            simp only [wU64]; omega
          rw [hm, hm2]
          refine ⟨fun h => absurd (of_decide_eq_true h) (by omega), fun _ => ?_⟩
          conv => whnf
          have hstep : pu (b :: s.data.toList.drop (i.k + 1)) i.n = if 15 < i.n * 10 + (b.toNat - 48) then (15, 1) else pu (s.data.toList.drop (i.k + 1)) (i.n * 10 + (b.toNat - 48)) := by
            conv => lhs; unfold pu
            rw [if_pos ⟨by omega, by omega⟩]
          refine ⟨fun hbig => ?_, fun hbig => ?_⟩
          · conv => whnf
            have hbig := of_decide_eq_true hbig
            refine raw_iface (v := .int .i64 1) rfl rfl (Nat.le_of_ble_eq_true rfl) (.inl rfl) Tryd.underlying63 (by simp) ?_
            conv => whnf
            exact fin_ret fun ad => by rw [hputs, hstep, if_pos (by omega)]; rfl
          · conv => whnf
            have hbig := of_decide_eq_false hbig
            have hle : ¬ 15 < i.n * 10 + (b.toNat - 48) := by omega
            refine ⟨⟨i.k + 1, i.n * 10 + (b.toNat - 48)⟩, ⟨hk', by show i.n * 10 + (b.toNat - 48) ≤ 15; omega, ?_⟩, by show s.size - (i.k + 1) < s.size - i.k; omega, ⟨i64_step (m := 1000001) (by omega) (by omega), rfl, rfl, rfl, rfl, rfl, rfl, rfl, rfl, rfl, rfl, rfl, trivial⟩, trivial, rfl, fun _ h => h, rfl⟩
            rw [hpu, hstep, if_neg hle]
        · have h57 := of_decide_eq_false h57
          conv => whnf
          have hbad : puS s = (0, 2) := by rw [hputs]; unfold pu; rw [if_neg (by omega)]
          refine call_det (.v (.int .u8 (bor .u8 b.toNat 32))) ent35 (fun ad w _ => lower_calls _ w ad) rfl ?_
          conv => whnf
          refine ⟨fun h97 => ?_, fun h97 => ?_⟩
          · conv => whnf
            refine call_det (.v (.int .u8 (bor .u8 b.toNat 32))) ent35 (fun ad w _ => lower_calls _ w ad) rfl ?_
            conv => whnf
            refine ⟨fun h122 => ?_, fun h122 => ?_⟩
            · conv => whnf
              refine call_det (.v (.int .u8 (bor .u8 b.toNat 32))) ent35 (fun ad w _ => lower_calls _ w ad) rfl ?_
              conv => whnf
              have h97 := of_decide_eq_true h97
              have h122 := of_decide_eq_true h122
              refine ⟨fun _ => ?_, fun h => absurd (of_decide_eq_false h) (by rw [u8_in (k := 10) (by decide), u8_in (k := bor .u8 b.toNat 32 - 97) (by omega), u8_in (by omega)]; omega)⟩
              conv => whnf
              refine raw_iface (v := .int .i64 2) rfl rfl (Nat.le_of_ble_eq_true rfl) (.inl rfl) Tryd.underlying63 (by simp) ?_
              conv => whnf
              exact fins hbad
            · conv => whnf
              refine raw_iface (v := .int .i64 2) rfl rfl (Nat.le_of_ble_eq_true rfl) (.inl rfl) Tryd.underlying63 (by simp) ?_
              conv => whnf
              exact fins hbad
          · conv => whnf
            refine raw_iface (v := .int .i64 2) rfl rfl (Nat.le_of_ble_eq_true rfl) (.inl rfl) Tryd.underlying63 (by simp) ?_
            conv => whnf
            exact fins hbad
      · have h48 := of_decide_eq_false h48
        conv => whnf
        have hbad : puS s = (0, 2) := by rw [hputs]; unfold pu; rw [if_neg (by omega)]
        refine call_det (.v (.int .u8 (bor .u8 b.toNat 32))) ent35 (fun ad w _ => lower_calls _ w ad) rfl ?_
        conv => whnf
        refine ⟨fun h97 => ?_, fun h97 => ?_⟩
        · conv => whnf
          refine call_det (.v (.int .u8 (bor .u8 b.toNat 32))) ent35 (fun ad w _ => lower_calls _ w ad) rfl ?_
          conv => whnf
          refine ⟨fun h122 => ?_, fun h122 => ?_⟩
          · conv => whnf
            refine call_det (.v (.int .u8 (bor .u8 b.toNat 32))) ent35 (fun ad w _ => lower_calls _ w ad) rfl ?_
            conv => whnf
            have h97 := of_decide_eq_true h97
            have h122 := of_decide_eq_true h122
            refine ⟨fun _ => ?_, fun h => absurd (of_decide_eq_false h) (by rw [u8_in (k := 10) (by decide), u8_in (k := bor .u8 b.toNat 32 - 97) (by omega), u8_in (by omega)]; omega)⟩
            conv => whnf
            refine raw_iface (v := .int .i64 2) rfl rfl (Nat.le_of_ble_eq_true rfl) (.inl rfl) Tryd.underlying63 (by simp) ?_
            conv => whnf
            exact fins hbad
          · conv => whnf
            refine raw_iface (v := .int .i64 2) rfl rfl (Nat.le_of_ble_eq_true rfl) (.inl rfl) Tryd.underlying63 (by simp) ?_
            conv => whnf
            exact fins hbad
        · conv => whnf
          refine raw_iface (v := .int .i64 2) rfl rfl (Nat.le_of_ble_eq_true rfl) (.inl rfl) Tryd.underlying63 (by simp) ?_
          conv => whnf
          exact fins hbad
  · conv => whnf
    have hk' : i.k = s.size := by have := of_decide_eq_false hc; omega
    have : puS s = (i.n, 0) := by rw [hputs, hk', ← hlen, List.drop_length]; rfl
    exact fin_ret fun ad => by rw [this]; rfl
end Go.Proofs.YteogjiadmgbmbaaDoor
