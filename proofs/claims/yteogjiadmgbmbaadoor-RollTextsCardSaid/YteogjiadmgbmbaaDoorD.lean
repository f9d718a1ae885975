/-
  Views, and what changes make of them: walked, both roads.
-/
import Derived.Test.YteogjiadmgbmbaaDoorB
set_option linter.unusedVariables false
set_option linter.unusedSimpArgs false
namespace Go.Proofs.YteogjiadmgbmbaaDoor
open Go Go.Sx Go.RowKit
set_option maxHeartbeats 1000000
set_option maxRecDepth 20000
def rol (v M : Int) : SV := .agg [.one (.int .i64 v), .one (.int .u16 M)]
def chg (add : Bool) (id : Int) : SV := .agg [.one (.bool add), .one (.int .u8 id)]
def rollB (v M : Int) : Bool := decide (0 ≤ v) && decide (v ≤ 1000) && !decide (M = 0)
def nextB (M : Int) (add : Bool) (id : Int) : Int := if add = true then withB M id else withoutB M id
/-- The next view, and the error's number. -/
def applyS (v M : Int) (add : Bool) (id : Int) : (Int × Int) × Int :=
  if (!rollB v M || decide (16 ≤ id)) = true then ((0, 0), 2)
  else if (add && hasB M id) = true then ((0, 0), 9)
  else if (!add && !hasB M id) = true then ((0, 0), 8)
  else if v = 1000 then ((0, 0), 11)
  else if nextB M add id = 0 then ((0, 0), 10)
  else ((v + 1, nextB M add id), 0)
theorem ent16 : Ent Tryd.prog 16 := by unfold Ent; kernel_rfl
theorem ent9 : Ent Tryd.prog 9 := by unfold Ent; kernel_rfl
theorem ent18 : Ent Tryd.prog 18 := by unfold Ent; kernel_rfl
theorem ent17 : Ent Tryd.prog 17 := by unfold Ent; kernel_rfl
theorem rollRight_calls (v M : Int) (w0 : World) : ∀ ad, Calls Tryd.prog 9 (SV.dens ad [rol v M]).toArray w0 (Ret w0 (.bool (rollB v M))) := by
  refine calls_sound tabOK Tryd.func9 rfl (by kernel_rfl) (Nat.le_of_ble_eq_true rfl) ⟨⟨rfl, rfl, trivial⟩, trivial⟩ ?_
  conv => whnf
  refine ⟨fun ha => ?_, fun ha => ?_⟩
  · conv => whnf
    refine ⟨fun hb => ?_, fun hb => ?_⟩
    · conv => whnf
      exact fin_ret fun ad => by simp [retV, SV.dens, SV.den, rollB, ha, hb]
    · conv => whnf
      exact fin_ret fun ad => by simp [retV, SV.dens, SV.den, rollB, ha, hb]
  · conv => whnf
    exact fin_ret fun ad => by simp [retV, SV.dens, SV.den, rollB, ha]
theorem rollRightR_calls (v M : Int) (w0 : World) : ∀ ad, Calls Tryd.prog 10 (SV.dens ad [rol v M]).toArray w0 (Ret w0 (.bool (rollB v M))) := by
  refine calls_sound tabOK Tryd.func10 rfl (by kernel_rfl) (Nat.le_of_ble_eq_true rfl) ⟨⟨rfl, rfl, trivial⟩, trivial⟩ ?_
  conv => whnf
  refine ⟨fun ha => ?_, fun ha => ?_⟩
  · conv => whnf
    refine ⟨fun hb => ?_, fun hb => ?_⟩
    · conv => whnf
      exact fin_ret fun ad => by simp [retV, SV.dens, SV.den, rollB, ha, hb]
    · conv => whnf
      exact fin_ret fun ad => by simp [retV, SV.dens, SV.den, rollB, ha, hb]
  · conv => whnf
    exact fin_ret fun ad => by simp [retV, SV.dens, SV.den, rollB, ha]
theorem apply_calls {v M : Int} {add : Bool} {id : Int} (h0 : 0 ≤ M) (h1 : M < 65536) (i0 : 0 ≤ id) (i1 : id < 256) (w0 : World) : ∀ ad, Calls Tryd.prog 7 (SV.dens ad [rol v M, chg add id]).toArray w0 (Ret w0 (retV [(rol (applyS v M add id).1.1 (applyS v M add id).1.2).den (fun x => x), .int .i64 (applyS v M add id).2])) := by
  refine calls_sound tabOK Tryd.func7 rfl (by kernel_rfl) (Nat.le_of_ble_eq_true rfl) ⟨⟨rfl, rfl, trivial⟩, ⟨rfl, rfl, trivial⟩, trivial⟩ ?_
  have fin : ∀ {r : (Int × Int) × Int} {tm : List (Nat × SV)} {bx : List (Nat × (List Seg × TypeId))} {pr : Nat → Prop} {sw : World}, applyS v M add id = r → FinVC (.of w0) (Ret w0 (retV [(rol (applyS v M add id).1.1 (applyS v M add id).1.2).den (fun x => x), .int .i64 (applyS v M add id).2])) ⟨tm, bx, [], pr, sw⟩ [.agg [.one (.int .i64 r.1.1), .one (.int .u16 r.1.2)], .v (.int .i64 r.2)] := fun h => fin_ret fun ad => by rw [h]; rfl
  conv => whnf
  refine call_det (.v (.bool (hasB M id))) ent16 (fun ad w _ => has_calls h0 h1 i0 w ad) rfl ?_
  conv => whnf
  refine call_det (.v (.bool (rollB v M))) ent9 (fun ad w _ => rollRight_calls v M w ad) rfl ?_
  conv => whnf
  refine ⟨fun ha => ?_, fun ha => ?_⟩
  · conv => whnf
    exact fin (r := ((0, 0), 2)) (by simp only [applyS, ha, Bool.true_or, if_true])
  · have ha : rollB v M = true := by simpa using ha
    conv => whnf
    refine ⟨fun hb => ?_, fun hb => ?_⟩
    · conv => whnf
      exact fin (r := ((0, 0), 2)) (by simp only [applyS, hb, Bool.or_true, if_true])
    · have hb : decide (16 ≤ id) = false := hb
      have hir : (!rollB v M || decide (16 ≤ id)) = false := by rw [ha, hb]; rfl
      have hwo := without_rng h0 h1 i0
      have hwi := with_rng h0 h1 i0
      conv => whnf
      cases add
      · conv => whnf
        refine ⟨fun h => absurd h (by decide), fun _ => ?_⟩
        conv => whnf
        refine ⟨fun _ => ?_, fun h => absurd h (by decide)⟩
        conv => whnf
        refine ⟨fun hc => ?_, fun hc => ?_⟩
        · conv => whnf
          exact fin (r := ((0, 0), 8)) (by
            have hc : hasB M id = false := by simpa using hc
            simp [applyS, hir, hc])
        · have hc : hasB M id = true := by simpa using hc
          conv => whnf
          refine ⟨fun hd => ?_, fun hd => ?_⟩
          · conv => whnf
            exact fin (r := ((0, 0), 11)) (by simp only [applyS, hir, hc, if_pos (of_decide_eq_true hd)]; simp)
          · conv => whnf
            have hd := of_decide_eq_false hd
            refine draw_rule tabOK mixed [9] [10] pP7_10 [7] (by kernel_rfl) (by kernel_rfl) ?_
            conv => whnf
            refine call_det (.v (.int .u16 (withoutB M id))) ent17 (fun ad w _ => without_calls h0 h1 i0 w ad) rfl ?_
            conv => whnf
            refine ⟨fun h => absurd h (by decide), fun _ => ?_⟩
            conv => whnf
            refine ⟨fun he => ?_, fun he => ?_⟩
            · conv => whnf
              exact fin (r := ((0, 0), 10)) (by simp only [applyS, hir, hc, hd, nextB, of_decide_eq_true he]; simp)
            · conv => whnf
              have hv : 0 ≤ v ∧ v ≤ 1000 := by simp only [rollB, Bool.and_eq_true, decide_eq_true_eq] at ha; exact ha.1
              rw [i64_in (by omega)]
              exact fin (r := ((v + 1, withoutB M id), 0)) (by simp only [applyS, hir, hc, hd, nextB]; simp [of_decide_eq_false he])
      · conv => whnf
        refine ⟨fun _ => ?_, fun h => absurd h (by decide)⟩
        conv => whnf
        refine ⟨fun hc => ?_, fun hc => ?_⟩
        · conv => whnf
          exact fin (r := ((0, 0), 9)) (by simp only [applyS, hir, hc]; simp)
        · have hc : hasB M id = false := hc
          conv => whnf
          refine ⟨fun h => absurd h (by decide), fun _ => ?_⟩
          conv => whnf
          refine ⟨fun hd => ?_, fun hd => ?_⟩
          · conv => whnf
            exact fin (r := ((0, 0), 11)) (by simp only [applyS, hir, hc, if_pos (of_decide_eq_true hd)]; simp)
          · conv => whnf
            have hd := of_decide_eq_false hd
            refine draw_rule tabOK mixed [9] [10] pP7_10 [7] (by kernel_rfl) (by kernel_rfl) ?_
            conv => whnf
            refine call_det (.v (.int .u16 (withoutB M id))) ent17 (fun ad w _ => without_calls h0 h1 i0 w ad) rfl ?_
            conv => whnf
            refine ⟨fun _ => ?_, fun h => absurd h (by decide)⟩
            conv => whnf
            refine call_det (.v (.int .u16 (withB M id))) ent18 (fun ad w _ => with_calls h0 h1 i0 w ad) rfl ?_
            conv => whnf
            refine ⟨fun he => ?_, fun he => ?_⟩
            · conv => whnf
              exact fin (r := ((0, 0), 10)) (by simp only [applyS, hir, hc, hd, nextB, of_decide_eq_true he]; simp)
            · conv => whnf
              have hv : 0 ≤ v ∧ v ≤ 1000 := by simp only [rollB, Bool.and_eq_true, decide_eq_true_eq] at ha; exact ha.1
              rw [i64_in (by omega)]
              exact fin (r := ((v + 1, withB M id), 0)) (by simp only [applyS, hir, hc, hd, nextB]; simp [of_decide_eq_false he])
theorem bits_ext {x y : Int} (hx : 0 ≤ x ∧ x < 65536) (hy : 0 ≤ y ∧ y < 65536) (h : ∀ i : Nat, i < 16 → hasB x i = hasB y i) : x = y := by
  obtain ⟨a, rfl⟩ := Int.eq_ofNat_of_zero_le hx.1
  obtain ⟨b, rfl⟩ := Int.eq_ofNat_of_zero_le hy.1
  congr 1
  apply Nat.eq_of_testBit_eq
  intro i
  by_cases hi : i < 16
  · rw [← has_bit a i hi, ← has_bit b i hi, h i hi]
  · have e : ∀ a : Nat, a < 65536 → a.testBit i = false := fun a ha => Nat.testBit_lt_two_pow (Nat.lt_of_lt_of_le ha (by
      have : 2 ^ 16 ≤ 2 ^ i := Nat.pow_le_pow_right (by decide) (by omega)
      simpa using this))
    rw [e a (by omega), e b (by omega)]
theorem sizeR1 {M id : Int} (h0 : 0 ≤ M) (h1 : M < 65536) (hi : 0 ≤ id) (hb : hasB M id = true) : decide ((sizeB M : Int) = 1) = decide (withoutB M id = 0) := by
  have hid : id < 16 := by simp only [hasB, Bool.and_eq_true, decide_eq_true_eq] at hb; exact hb.1
  obtain ⟨m, rfl⟩ := Int.eq_ofNat_of_zero_le hi
  have hm : m < 16 := by omega
  have h4 : 2 ^ m < 2 ^ 16 := Nat.pow_lt_pow_right (by decide) hm
  have hbits : ∀ i : Nat, i < 16 → hasB (bitB (m : Int)) i = decide (m = i) := fun i h => by rw [bit_nat hm, has_bit _ i h, Nat.testBit_two_pow]
  rw [decide_eq_decide]
  unfold withoutB
  rw [if_pos hb]
  constructor
  · intro hs
    obtain ⟨a, ha⟩ := List.length_eq_one_iff.1 (show ((List.range 16).filter fun i : Nat => hasB M i).length = 1 by unfold sizeB at hs; omega)
    have hma : m ∈ (List.range 16).filter fun i : Nat => hasB M i := List.mem_filter.2 ⟨List.mem_range.2 hm, hb⟩
    rw [ha, List.mem_singleton] at hma
    subst hma
    have : M = bitB (m : Int) := bits_ext ⟨h0, h1⟩ ⟨(bit_rng _).1, by have := (bit_rng (m : Int)).2; omega⟩ fun i h => by
      rw [hbits i h, Bool.eq_iff_iff]
      constructor
      · intro h5
        have : i ∈ (List.range 16).filter fun i : Nat => hasB M i := List.mem_filter.2 ⟨List.mem_range.2 h, h5⟩
        rw [ha, List.mem_singleton] at this
        simp [this]
      · intro h5
        rw [← of_decide_eq_true h5]; exact hb
    omega
  · intro hs
    have hM : M = bitB (m : Int) := by omega
    have h6 : ∀ m, m < 16 → ((List.range 16).filter fun i : Nat => decide (m = i)).length = 1 := by decide
    have : ((List.range 16).filter fun i : Nat => hasB M i) = (List.range 16).filter fun i : Nat => decide (m = i) := List.filter_congr fun i hi => by rw [hM]; exact hbits i (List.mem_range.1 hi)
    unfold sizeB
    rw [this, h6 m hm]; rfl
theorem applyR_calls {v M : Int} {add : Bool} {id : Int} (h0 : 0 ≤ M) (h1 : M < 65536) (i0 : 0 ≤ id) (i1 : id < 256) (w0 : World) : ∀ ad, Calls Tryd.prog 8 (SV.dens ad [rol v M, chg add id]).toArray w0 (Ret w0 (retV [(rol (applyS v M add id).1.1 (applyS v M add id).1.2).den (fun x => x), .int .i64 (applyS v M add id).2])) := by
  refine calls_sound tabOK Tryd.func8 rfl (by kernel_rfl) (Nat.le_of_ble_eq_true rfl) ⟨⟨rfl, rfl, trivial⟩, ⟨rfl, rfl, trivial⟩, trivial⟩ ?_
  have fin : ∀ {r : (Int × Int) × Int} {tm : List (Nat × SV)} {bx : List (Nat × (List Seg × TypeId))} {pr : Nat → Prop} {sw : World}, applyS v M add id = r → FinVC (.of w0) (Ret w0 (retV [(rol (applyS v M add id).1.1 (applyS v M add id).1.2).den (fun x => x), .int .i64 (applyS v M add id).2])) ⟨tm, bx, [], pr, sw⟩ [.agg [.one (.int .i64 r.1.1), .one (.int .u16 r.1.2)], .v (.int .i64 r.2)] := fun h => fin_ret fun ad => by rw [h]; rfl
  conv => whnf
  refine call_det (.v (.bool (hasB M id))) ent15 (fun ad w _ => hasR_calls h0 h1 i0 i1 w ad) rfl ?_
  conv => whnf
  refine call_det (.v (.bool (rollB v M))) (show Ent Tryd.prog 10 by unfold Ent; kernel_rfl) (fun ad w _ => rollRightR_calls v M w ad) rfl ?_
  conv => whnf
  refine ⟨fun ha => ?_, fun ha => ?_⟩
  · conv => whnf
    exact fin (r := ((0, 0), 2)) (by simp only [applyS, ha, Bool.true_or, if_true])
  · have ha : rollB v M = true := by simpa using ha
    have hv : (0 ≤ v ∧ v ≤ 1000) ∧ M ≠ 0 := by simpa only [rollB, Bool.and_eq_true, decide_eq_true_eq, Bool.not_eq_true', decide_eq_false_iff_not] using ha
    conv => whnf
    have hbe : decide (15 < id) = decide (16 ≤ id) := by rw [decide_eq_decide]; omega
    rw [hbe]
    refine ⟨fun hb => ?_, fun hb => ?_⟩
    · conv => whnf
      exact fin (r := ((0, 0), 2)) (by simp only [applyS, hb, Bool.or_true, if_true])
    · have hb : decide (16 ≤ id) = false := hb
      have hir : (!rollB v M || decide (16 ≤ id)) = false := by rw [ha, hb]; rfl
      have hwo := without_rng h0 h1 i0
      have hwi := with_rng h0 h1 i0
      conv => whnf
      cases add
      · conv => whnf
        refine ⟨fun h => absurd h (by decide), fun _ => ?_⟩
        conv => whnf
        refine ⟨fun _ => ?_, fun h => absurd h (by decide)⟩
        conv => whnf
        refine ⟨fun hc => ?_, fun hc => ?_⟩
        · conv => whnf
          exact fin (r := ((0, 0), 8)) (by
            have hc : hasB M id = false := by simpa using hc
            simp [applyS, hir, hc])
        · have hc : hasB M id = true := by simpa using hc
          conv => whnf
          refine ⟨fun hd => ?_, fun hd => ?_⟩
          · conv => whnf
            exact fin (r := ((0, 0), 11)) (by simp only [applyS, hir, hc, if_pos (of_decide_eq_true hd)]; simp)
          · conv => whnf
            have hd := of_decide_eq_false hd
            refine ⟨fun _ => ?_, fun h => absurd h (by decide)⟩
            conv => whnf
            refine call_det (.v (.int .i64 (sizeB M))) (show Ent Tryd.prog 19 by unfold Ent; kernel_rfl) (fun ad w _ => sizeR_calls h0 h1 w ad) rfl ?_
            conv => whnf
            rw [sizeR1 h0 h1 i0 hc]
            refine ⟨fun he => ?_, fun he => ?_⟩
            · conv => whnf
              exact fin (r := ((0, 0), 10)) (by simp only [applyS, hir, hc, hd, nextB, of_decide_eq_true he]; simp)
            · conv => whnf
              refine ⟨fun h => absurd h (by decide), fun _ => ?_⟩
              conv => whnf
              refine call_det (.v (.int .u16 (withoutB M id))) (show Ent Tryd.prog 21 by unfold Ent; kernel_rfl) (fun ad w _ => withoutR_calls h0 h1 i0 i1 w ad) rfl ?_
              conv => whnf
              rw [i64_in (by omega)]
              exact fin (r := ((v + 1, withoutB M id), 0)) (by simp only [applyS, hir, hc, hd, nextB]; simp [of_decide_eq_false he])
      · conv => whnf
        refine ⟨fun _ => ?_, fun h => absurd h (by decide)⟩
        conv => whnf
        refine ⟨fun hc => ?_, fun hc => ?_⟩
        · conv => whnf
          exact fin (r := ((0, 0), 9)) (by simp only [applyS, hir, hc]; simp)
        · have hc : hasB M id = false := hc
          conv => whnf
          refine ⟨fun h => absurd h (by decide), fun _ => ?_⟩
          conv => whnf
          refine ⟨fun hd => ?_, fun hd => ?_⟩
          · conv => whnf
            exact fin (r := ((0, 0), 11)) (by simp only [applyS, hir, hc, if_pos (of_decide_eq_true hd)]; simp)
          · conv => whnf
            have hd := of_decide_eq_false hd
            refine ⟨fun h => absurd h (by decide), fun _ => ?_⟩
            conv => whnf
            refine ⟨fun _ => ?_, fun h => absurd h (by decide)⟩
            conv => whnf
            refine call_det (.v (.int .u16 (withB M id))) (show Ent Tryd.prog 20 by unfold Ent; kernel_rfl) (fun ad w _ => withR_calls h0 h1 i0 i1 w ad) rfl ?_
            conv => whnf
            rw [i64_in (by omega)]
            have hz : ¬ withB M id = 0 := by
              have := bit_rng id
              unfold withB
              rw [hc]
              simp only [Bool.false_eq_true, if_false]
              omega
            exact fin (r := ((v + 1, withB M id), 0)) (by simp only [applyS, hir, hc, hd, nextB]; simp [hz])
end Go.Proofs.YteogjiadmgbmbaaDoor
