/-
  How many a set has: both roads, walked.
-/
import Derived.Test.YteogjiadmgbmbaaDoorC
set_option linter.unusedVariables false
namespace Go.Proofs.YteogjiadmgbmbaaDoor
open Go Go.Sx Go.RowKit
def has01 (s : Int) (i : Nat) : Nat := (hasB s i).toNat
def bits8 (s : Int) : Nat := has01 s 0 + (has01 s 1 + (has01 s 2 + (has01 s 3 + (has01 s 4 + (has01 s 5 + (has01 s 6 + has01 s 7))))))
def sizeB (s : Int) : Nat := ((List.range 16).filter fun i : Nat => hasB s i).length
theorem flen (p : Nat → Bool) : ∀ l : List Nat, (l.filter p).length = (l.map fun i => (p i).toNat).sum
  | [] => rfl
  | x :: r => by
    rw [List.filter_cons, List.map_cons, List.sum_cons, ← flen p r]
    cases p x <;> simp [Nat.add_comm]
theorem pow_pos' (n : Nat) : (0 : Int) < 2 ^ n := Int.pow_pos (by decide)
theorem has_low {s : Int} {i : Nat} (hi : i < 8) : has01 s i = has01 (s % 256) i := by
  have e : s / 2 ^ i % 2 = (s % 256) / 2 ^ i % 2 := by
    have h : (256 : Int) = 2 ^ i * (2 * 2 ^ (7 - i)) := by
      rw [← Int.mul_assoc, Int.mul_comm (2 ^ i) 2, Int.mul_assoc, ← Int.pow_add, show i + (7 - i) = 7 by omega]; rfl
    have h2 : s % 256 = s - 2 ^ i * ((2 * 2 ^ (7 - i)) * (s / 256)) := by
      have := Int.mul_ediv_add_emod s 256
      rw [← Int.mul_assoc, ← h]; omega
    have hp := pow_pos' i
    rw [h2, Int.sub_eq_add_neg, ← Int.mul_neg, Int.add_mul_ediv_left _ _ (Int.ne_of_gt hp), ← Int.mul_neg, Int.mul_assoc, Int.add_mul_emod_self_left]
  exact congrArg Bool.toNat (by simp only [hasB, Int.toNat_natCast, e])
theorem has_high {s : Int} {i : Nat} (hi : i < 8) : has01 s (i + 8) = has01 (s / 256) i := by
  have e : s / 2 ^ (i + 8) = s / 256 / 2 ^ i := by
    rw [Int.ediv_ediv_of_nonneg (by decide : (0 : Int) ≤ 256), Int.pow_add, Int.mul_comm]; rfl
  refine congrArg Bool.toNat ?_
  simp only [hasB, Int.toNat_natCast, e]
  rw [show decide (((i + 8 : Nat) : Int) < 16) = true from decide_eq_true (by omega), show decide ((i : Int) < 16) = true from decide_eq_true (by omega)]
theorem sizeB_eq (s : Int) : sizeB s = bits8 (s / 256) + bits8 (s % 256) := by
  unfold sizeB
  rw [flen]
  show has01 s 0 + (has01 s 1 + (has01 s 2 + (has01 s 3 + (has01 s 4 + (has01 s 5 + (has01 s 6 + (has01 s 7 + (has01 s (0 + 8) + (has01 s (1 + 8) + (has01 s (2 + 8) + (has01 s (3 + 8) + (has01 s (4 + 8) + (has01 s (5 + 8) + (has01 s (6 + 8) + (has01 s (7 + 8) + 0))))))))))))))) = _
  rw [has_high (s := s) (i := 0) (by decide), has_high (s := s) (i := 1) (by decide), has_high (s := s) (i := 2) (by decide), has_high (s := s) (i := 3) (by decide), has_high (s := s) (i := 4) (by decide), has_high (s := s) (i := 5) (by decide), has_high (s := s) (i := 6) (by decide), has_high (s := s) (i := 7) (by decide),
    has_low (s := s) (i := 0) (by decide), has_low (s := s) (i := 1) (by decide), has_low (s := s) (i := 2) (by decide), has_low (s := s) (i := 3) (by decide), has_low (s := s) (i := 4) (by decide), has_low (s := s) (i := 5) (by decide), has_low (s := s) (i := 6) (by decide), has_low (s := s) (i := 7) (by decide)]
  unfold bits8
  omega
theorem bits8_le (s : Int) : bits8 s ≤ 8 := by
  have h : ∀ i, has01 s i ≤ 1 := fun i => by unfold has01; cases hasB s i <;> decide
  have := h 0; have := h 1; have := h 2; have := h 3; have := h 4; have := h 5; have := h 6; have := h 7
  unfold bits8; omega
def tabB (t : ByteArray) : Bool := Nat.beq t.size 256 && (List.range 256).all fun i => decide (bAt t i = bits8 i)
theorem tab_idx {t : ByteArray} (h : tabB t = true) {a : Int} (h0 : 0 ≤ a) (h1 : a < 256) : 0 ≤ a ∧ a < (t.size : Int) := by
  simp only [tabB, Bool.and_eq_true] at h
  have := Nat.eq_of_beq_eq_true h.1
  omega
theorem tab_val {t : ByteArray} (h : tabB t = true) {a : Int} (h0 : 0 ≤ a) (h1 : a < 256) : bAt t a = bits8 a := by
  simp only [tabB, Bool.and_eq_true, List.all_eq_true, List.mem_range, decide_eq_true_eq] at h
  obtain ⟨n, rfl⟩ := Int.eq_ofNat_of_zero_le h0
  exact h.2 n (by omega)
theorem shr8 {s : Int} (h0 : 0 ≤ s) : bshr .u16 s 8 = s / 256 := by
  unfold bshr
  rw [Int.fdiv_eq_ediv_of_nonneg _ (by decide)]; rfl
theorem and255 {s : Int} (h0 : 0 ≤ s) (h1 : s < 65536) : band .u16 s 255 = s % 256 := by
  obtain ⟨a, rfl⟩ := Int.eq_ofNat_of_zero_le h0
  have := band_nat (k := .u16) (x := a) (y := 255) (by show a < 65536; omega) (by decide)
  rw [show ((255 : Nat) : Int) = 255 from rfl] at this
  rw [this, show (255 : Nat) = 2 ^ 8 - 1 from rfl, Nat.and_two_pow_sub_one_eq_mod, wU16]
  omega
set_option maxHeartbeats 1000000
set_option maxRecDepth 20000
def cntB (s : Int) (k : Nat) : Nat := ((List.range k).filter fun i : Nat => hasB s i).length
theorem cntB_succ (s : Int) (k : Nat) : cntB s (k + 1) = cntB s k + if hasB s k then 1 else 0 := by
  unfold cntB
  rw [List.range_succ, List.filter_append, List.length_append]
  cases h : hasB s k <;> simp [h]
theorem cntB_le (s : Int) (k : Nat) : cntB s k ≤ k := by
  have := List.length_filter_le (fun i : Nat => hasB s i) (List.range k)
  simpa [cntB] using this
structure LI where
  k : Nat
  A : Option Addr
  c : Nat
  xs : List Value
  pr : Nat → Prop
  sw : World
theorem list_calls {s : Int} (h0 : 0 ≤ s) (h1 : s < 65536) (w0 : World) : ∀ ad, Calls Tryd.prog 28 (SV.dens ad [.v (.int .u16 s)]).toArray w0 fun e w' => (∃ A c, e = .returned (.slice A (sizeB s) c)) ∧ Below w0.heap.size w0 w' := by
  refine calls_sound tabOK Tryd.func28 rfl (by kernel_rfl) (show 1 ≤ 19 by decide) ⟨rfl, trivial⟩ ?_
  conv => whnf
  refine loop_rule tabOK (by kernel_rfl) (fun i : LI => ⟨[(4, .v (.int .i64 i.k)), (3, .v (.slice i.A (cntB s i.k) i.c)), (0, .v (.int .u16 s))], [], [], i.pr, i.sw⟩)
    (fun i => i.k ≤ 16 ∧ Own i.sw w0.heap.size 5 1 i.A (cntB s i.k) i.c i.xs ∧ (∀ g, wblk i.A i.c = some g → i.pr g) ∧ w0.heap.size ≤ i.sw.heap.size) (fun i => 16 - i.k) ⟨0, none, 0, [], _, w0⟩ ⟨Nat.zero_le _, Own.nil _ _ _ _ _, fun g hg => (by cases hg), Nat.le_refl _⟩ ⟨⟨rfl, rfl, rfl, trivial⟩, trivial, rfl, fun _ h => h, rfl⟩ ?_
  intro i ⟨hk, hown, hp, hsz⟩
  conv => whnf
  refine ⟨fun hc => ?_, fun hc => ?_⟩
  · conv => whnf
    have hk' : i.k < 16 := by have := of_decide_eq_true hc; omega
    rw [u8_nat (k := i.k) (by omega)]
    refine call_det (.v (.bool (hasB s i.k))) ent15 (fun ad w _ => hasR_calls h0 h1 (by omega) (by omega) w ad) rfl ?_
    conv => whnf
    refine ⟨fun ha => ?_, fun ha => ?_⟩
    · conv => whnf
      intro w1 g1 pr1 hg1 hlo hsame hs1 hpr hprg hprs
      conv => whnf
      refine append_rule (base := w0.heap.size) (e := 5) (size := 1) (bytes := 1) (xs := i.xs) (news := _) (by kernel_rfl) (by kernel_rfl) (by decide) (hown.world fun g hg => hsame g (hp g hg)) (fun g hg => ⟨hpr g (hp g hg), .inl (hown.block hg).1⟩) (rd_row hg1 hprg) rfl (by simp [flat, Seg.cells]; rfl) (by have := cntB_le s i.k; unfold maxLen; omega) (by have := cntB_le s i.k; omega) (by omega) ?_
      intro A' c' w2 pr2 hown2 hkeep hblk hs2 hprs2
      conv => whnf
      have e : cntB s (i.k + 1) = cntB s i.k + 1 := by rw [cntB_succ, ha]; rfl
      refine ⟨⟨i.k + 1, A', c', i.xs ++ flat [.one (.int .u8 (IntKind.u8.wrap i.k))], pr2, w2⟩, ⟨by show i.k + 1 ≤ 16; omega, ?_, fun g hg => (hblk g hg).1, by show w0.heap.size ≤ w2.heap.size; omega⟩, by show 16 - (i.k + 1) < 16 - i.k; omega, ⟨i64_step hk' (by omega), ?_, rfl, trivial⟩, trivial, rfl, fun _ h => h, rfl⟩
      · show Own w2 _ 5 1 A' (cntB s (i.k + 1)) c' _
        rw [e]; exact hown2
      · show SV.v _ = SV.v (.slice A' (cntB s (i.k + 1)) c')
        rw [e]
    · conv => whnf
      have e : cntB s (i.k + 1) = cntB s i.k := by rw [cntB_succ, ha]; rfl
      refine ⟨⟨i.k + 1, i.A, i.c, i.xs, i.pr, i.sw⟩, ⟨by show i.k + 1 ≤ 16; omega, ?_, hp, hsz⟩, by show 16 - (i.k + 1) < 16 - i.k; omega, ⟨i64_step hk' (by omega), ?_, rfl, trivial⟩, trivial, rfl, fun _ h => h, rfl⟩
      · show Own i.sw _ 5 1 i.A (cntB s (i.k + 1)) i.c _
        rw [e]; exact hown
      · show SV.v _ = SV.v (.slice i.A (cntB s (i.k + 1)) i.c)
        rw [e]
  · conv => whnf
    have hk' : i.k = 16 := by have := of_decide_eq_false hc; omega
    rw [hk']
    exact ⟨fun ad w hw => ⟨⟨i.A, i.c, rfl⟩, hw.bel.below⟩⟩
theorem sizeR_calls {s : Int} (h0 : 0 ≤ s) (h1 : s < 65536) (w0 : World) : ∀ ad, Calls Tryd.prog 19 (SV.dens ad [.v (.int .u16 s)]).toArray w0 (Ret w0 (.int .i64 (sizeB s))) := by
  refine calls_sound tabOK Tryd.func19 rfl (by kernel_rfl) (show 1 ≤ 6 by decide) ⟨rfl, trivial⟩ ?_
  conv => whnf
  refine call_new (fun _ w e w' => (∃ A c, e = .returned (.slice A (sizeB s) c)) ∧ Below w.heap.size w w') (show Ent Tryd.prog 28 by unfold Ent; kernel_rfl) (fun ad w _ => list_calls h0 h1 w ad) ?_
  rintro ad w e w' _ ⟨⟨A, c, rfl⟩, hb⟩
  refine ⟨.v (.slice A (sizeB s) c), rfl, rfl, hb, fun pr' _ _ _ _ _ => ?_⟩
  conv => whnf
  exact fin_ret fun ad => by simp only [retV, SV.dens, SV.den]
end Go.Proofs.YteogjiadmgbmbaaDoor
