/-
  BallotTwice: for every view, every list of casts and every two changes the law returns true: walked, and told as the statement says it.
-/
import Derived.Test.YtcgkeepihinegaaQ
import Derived.Test.YtcgkeepihinegaaR
set_option linter.unusedVariables false
set_option linter.unusedSimpArgs false
namespace Go.Proofs.Ytcgkeepihinegaa
open Go Go.Sx Go.RowKit
set_option maxHeartbeats 1000000
set_option maxRecDepth 20000
theorem put_twice {v M : Int} {ms : List Mk} {t : Mk} (h : (putS v M ms t).2 = 0) : (putS v M (putS v M ms t).1 t).2 = 9 := by
  obtain ⟨h1, h2, h3, h5⟩ := put_ok h
  have hr := put_right h
  have hh := (who_has h2).1
  have hany : ((putS v M ms t).1.any fun m => decide (m.who = t.who)) = true := by
    rw [List.any_eq_true]
    exact ⟨t, by rw [h5]; exact insS_mem.2 (.inl rfl), by simp⟩
  generalize (putS v M ms t).1 = L at *
  simp [putS, hr, hh, hany]
theorem put_has {v M : Int} {ms : List Mk} {t : Mk} (hms : ∀ m ∈ ms, m.Ok) (ht : t.Ok) (h : (putS v M ms t).2 = 0) : hasB (forS v M (putS v M ms t).1 t.add t.id) t.who = true := by
  obtain ⟨h1, h2, h3, h5⟩ := put_ok h
  have hr := put_right h
  have hlt := has_lt (who_has h2).1
  have hms' := putS_ok (v := v) (M := M) hms ht
  obtain ⟨a, ha⟩ := Int.eq_ofNat_of_zero_le ht.1.1
  unfold forS
  rw [if_pos hr, ha, for_bits hms' t.add t.id (by omega)]
  unfold whoB
  rw [List.any_eq_true]
  exact ⟨t, List.mem_filter.2 ⟨by rw [h5]; exact insS_mem.2 (.inl rfl), by simp [wants]⟩, by rw [decide_eq_true_eq]; exact ha⟩
theorem sorted_who {ms : List Mk} (h : Sorted ms) {a b : Mk} (ha : a ∈ ms) (hb : b ∈ ms) (he : a.who = b.who) : a = b := by
  obtain ⟨i, hi⟩ := List.mem_iff_getElem?.1 ha
  obtain ⟨j, hj⟩ := List.mem_iff_getElem?.1 hb
  rcases Nat.lt_trichotomy i j with h1 | h1 | h1
  · have := h i j a b h1 hi hj; omega
  · subst h1; rw [hi] at hj; cases hj; rfl
  · have := h j i b a h1 hj hi; omega
/-- Who wants one thing wants no other. -/
theorem for_apart {v M : Int} {ms : List Mk} (hms : ∀ m ∈ ms, m.Ok) {a b : Bool} {x y : Int} (hne : ¬ (a = b ∧ x = y)) : band .u16 (forS v M ms a x) (forS v M ms b y) = 0 := by
  have r1 := forS_rng (v := v) (M := M) hms a x
  have r2 := forS_rng (v := v) (M := M) hms b y
  cases hr : rightB v M ms
  · unfold forS; rw [hr]; simp only [Bool.false_eq_true, if_false]; decide
  · have key : ∀ i : Nat, i < 16 → ¬ (hasB (forS v M ms a x) i = true ∧ hasB (forS v M ms b y) i = true) := fun i hi ⟨h1, h2⟩ => by
      unfold forS at h1 h2
      rw [if_pos hr, for_bits hms _ _ hi] at h1 h2
      obtain ⟨p, hp, e1⟩ := List.any_eq_true.1 h1
      obtain ⟨q, hq, e2⟩ := List.any_eq_true.1 h2
      have e1 := of_decide_eq_true e1
      have e2 := of_decide_eq_true e2
      obtain ⟨p1, p2⟩ := List.mem_filter.1 hp
      obtain ⟨q1, q2⟩ := List.mem_filter.1 hq
      have := sorted_who (sorted_of hr) p1 q1 (by omega)
      subst this
      simp only [wants, Bool.and_eq_true, decide_eq_true_eq] at p2 q2
      exact hne ⟨p2.1.symm.trans q2.1, p2.2.symm.trans q2.2⟩
    obtain ⟨s, hs⟩ := Int.eq_ofNat_of_zero_le r1.1
    obtain ⟨t, ht⟩ := Int.eq_ofNat_of_zero_le r2.1
    rw [hs] at key r1 ⊢
    rw [ht] at key r2 ⊢
    have e : s &&& t = 0 := by
      apply Nat.eq_of_testBit_eq
      intro i
      rw [Nat.testBit_and, Nat.zero_testBit]
      by_cases hi : i < 16
      · have := key i hi
        rw [has_bit s i hi, has_bit t i hi] at this
        cases h1 : s.testBit i <;> cases h2 : t.testBit i <;> simp_all
      · have : s.testBit i = false := Nat.testBit_lt_two_pow (Nat.lt_of_lt_of_le (show s < 2 ^ 16 by rw [p16]; omega) (Nat.pow_le_pow_right (by decide) (by omega)))
        rw [this]; rfl
    rw [band_nat (k := .u16) (show s < 2 ^ 16 by rw [p16]; omega) (show t < 2 ^ 16 by rw [p16]; omega), e]
    decide
theorem for_sub {v M : Int} {ms : List Mk} (hms : ∀ m ∈ ms, m.Ok) (a : Bool) (x : Int) {i : Nat} (hi : i < 16) (h : hasB (forS v M ms a x) i = true) : hasB M i = true := by
  cases hr : rightB v M ms
  · unfold forS at h
    rw [hr] at h
    simp only [Bool.false_eq_true, if_false] at h
    have := has_bit 0 i hi
    rw [show ((0 : Nat) : Int) = 0 from rfl, h] at this
    simp at this
  · unfold forS at h
    rw [if_pos hr, for_bits hms _ _ hi] at h
    obtain ⟨p, hp, e1⟩ := List.any_eq_true.1 h
    have e1 := of_decide_eq_true e1
    rw [← e1]
    exact (who_has ((right_iff.1 hr).1 p (List.mem_filter.1 hp).1)).1
/-- Those who want something are members. -/
theorem for_members {v M : Int} (h0 : 0 ≤ M) (h1 : M < 65536) {ms : List Mk} (hms : ∀ m ∈ ms, m.Ok) (a b : Bool) (x y : Int) : bandn .u16 (bor .u16 (forS v M ms a x) (forS v M ms b y)) M = 0 := by
  have r1 := forS_rng (v := v) (M := M) hms a x
  have r2 := forS_rng (v := v) (M := M) hms b y
  have k1 := fun (i : Nat) (hi : i < 16) => for_sub (v := v) (M := M) hms a x hi
  have k2 := fun (i : Nat) (hi : i < 16) => for_sub (v := v) (M := M) hms b y hi
  obtain ⟨s, hs⟩ := Int.eq_ofNat_of_zero_le r1.1
  obtain ⟨t, ht⟩ := Int.eq_ofNat_of_zero_le r2.1
  obtain ⟨m, rfl⟩ := Int.eq_ofNat_of_zero_le h0
  rw [hs] at k1 r1 ⊢
  rw [ht] at k2 r2 ⊢
  have ls : s < 2 ^ 16 := by rw [p16]; omega
  have lt : t < 2 ^ 16 := by rw [p16]; omega
  have lm : m < 2 ^ 16 := by rw [p16]; omega
  have lo : s ||| t < 2 ^ 16 := Nat.or_lt_two_pow ls lt
  have lo' := lo
  rw [p16] at lo'
  rw [bor_nat (k := .u16) ls lt, wU16, Int.emod_eq_of_lt (by omega) (by omega)]
  unfold bandn
  have e : BitVec.ofInt 16 ((s ||| t : Nat) : Int) &&& ~~~BitVec.ofInt 16 (m : Int) = 0#16 := by
    rw [BitVec.ofInt_natCast, BitVec.ofInt_natCast]
    apply BitVec.eq_of_getLsbD_eq
    intro i hi
    rw [BitVec.getLsbD_and, BitVec.getLsbD_not, BitVec.getLsbD, BitVec.toNat_ofNat, Nat.mod_eq_of_lt lo, Nat.testBit_or]
    have hm : (BitVec.ofNat 16 m).getLsbD i = m.testBit i := by rw [BitVec.getLsbD, BitVec.toNat_ofNat, Nat.mod_eq_of_lt lm]
    rw [hm]
    have g1 := k1 i hi
    have g2 := k2 i hi
    rw [has_bit _ i hi, has_bit _ i hi] at g1 g2
    cases h3 : s.testBit i <;> cases h4 : t.testBit i <;> cases h5 : m.testBit i <;> simp_all
  show IntKind.wrap .u16 (BitVec.ofInt 16 ((s ||| t : Nat) : Int) &&& ~~~BitVec.ofInt 16 (m : Int)).toNat = 0
  rw [e]; decide
structure WI2 where
  k : Nat
  A : Option Addr
  c : Nat
  pr : Nat → Prop
  sw : World
def st7 (v M : Int) (A : Option Addr) (c : Nat) (l : List Mk) (a1 a2 : Bool) (i1 i2 : Int) (i : WI2) : St := ⟨[(10, .v (.int .i64 i.k)), (9, .ptr 9 0), (8, .ptr 8 0), (7, .ptr 7 0), (3, .ptr 3 0), (1, .v (.slice A l.length c))], [(9, ([.one (.int .i64 v), .one (.int .u16 M), .one (.slice i.A (rowS v M l i.k).length i.c)], 37)), (8, ([.one (.bool a2), .one (.int .u8 i2)], 30)), (7, ([.one (.bool a1), .one (.int .u8 i1)], 30)), (3, ([.one (.int .i64 v), .one (.int .u16 M)], 25))], [], i.pr, i.sw⟩
theorem ballotTwice_calls {v M i1 i2 : Int} {a1 a2 : Bool} (h0 : 0 ≤ M) (h1 : M < 65536) {A : Option Addr} {c : Nat} {l : List Mk} (hl : ∀ m ∈ l, m.Ok) (w0 : World) (hrd : Rd (fun g => g < w0.heap.size) w0 A (mcells l)) :
    ∀ ad, Calls Try.prog 7 (SV.dens ad [rol v M, .v (.slice A l.length c), .agg [.one (.bool a1), .one (.int .u8 i1), .one (.bool a2), .one (.int .u8 i2)]]).toArray w0 (Ret w0 (.bool true)) := by
  refine calls_sound tabOK Try.func7 rfl (by kernel_rfl) (Nat.le_of_ble_eq_true rfl) ⟨⟨rfl, rfl, trivial⟩, rfl, ⟨rfl, rfl, rfl, rfl, trivial⟩, trivial⟩ ?_
  conv => whnf
  refine call_det (.lit true) (show Ent Try.prog 8 by unfold Ent; kernel_rfl) (fun ad w _ => alive_calls w ad) trivial ?_
  conv => whnf
  refine draw_rule tabOK mixed [4, 5] [7] pP7_3 [7, 8] (by kernel_rfl) (by kernel_rfl) ?_
  conv => whnf
  refine ⟨by decide, ?_⟩
  conv => whnf
  refine ⟨by decide, ?_⟩
  conv => whnf
  refine ⟨rfl, ?_⟩
  conv => whnf
  refine loop_rule tabOK (by kernel_rfl) (st7 v M A c l a1 a2 i1 i2)
    (fun i => i.k ≤ l.length ∧ i.k ≤ 60 ∧ Rd i.pr i.sw i.A (mcells (rowS v M l i.k)) ∧ Rd i.pr i.sw A (mcells l))
    (fun i => l.length - i.k) ⟨0, none, 0, _, w0⟩ ⟨Nat.zero_le _, Nat.zero_le _, Rd.empty _ _ _, hrd⟩ ⟨⟨rfl, rfl, rfl, rfl, rfl, rfl, trivial⟩, ⟨rfl, rfl, rfl, rfl, trivial⟩, rfl, fun _ h => h, rfl⟩ ?_
  intro i ⟨hk, hk60, hra, hrl⟩
  obtain ⟨hok, hlen, hfine⟩ := rowS_ok v M hl i.k hk
  have fin : ∀ {s : St}, Sub s (st7 v M A c l a1 a2 i1 i2 i) → True := fun _ => trivial
  conv => whnf
  refine ⟨fun hc => ?_, fun hc => ?_⟩
  · conv => whnf
    refine ⟨fun hd => ?_, fun hd => ?_⟩
    · conv => whnf
      have hk' : i.k < l.length := by have := of_decide_eq_true hc; omega
      have hk6 : i.k < 60 := by have := of_decide_eq_true hd; omega
      obtain ⟨m, hm⟩ : ∃ m, l[i.k]? = some m := ⟨_, List.getElem?_eq_getElem hk'⟩
      have hmk := hl m (List.mem_of_getElem? hm)
      have hi : (0 : Int) ≤ i.k ∧ (i.k : Int) < l.length ∧ A ≠ none := ⟨by omega, by omega, some_of hrl hk'⟩
      refine draw_rule tabOK mixed [10] [11, 12] pP7_8 [11] (by kernel_rfl) (by kernel_rfl) ?_
      conv => whnf
      refine ⟨hi, ?_⟩
      conv => whnf
      refine xload_row tabOK (t := 32) rfl Mk.segs hrl (fun x _ => segs_len x) m.sok hm (i := i.k) (o := 0) (by rw [Int.toNat_natCast]; rfl) (by decide) ?_
      conv => whnf
      refine call_det (.agg m.segs) ent11 (fun ad w _ => theirs1_calls m w ad) m.sok ?_
      conv => whnf
      refine put_rule h0 h1 hok hmk hra (by omega) fun A1 c1 w1 pr1 hr1 hk1 => ?_
      have hrl1 := Rd.keep hrl hk1
      have hp2 := put_twice (v := v) (M := M) (ms := rowS v M l i.k) (t := m)
      have hph := put_has (v := v) (M := M) hok hmk
      rw [← rowS_succ hm] at hr1 hp2 hph ⊢
      obtain ⟨hok', hlen', hfine'⟩ := rowS_ok v M hl (i.k + 1) hk'
      conv => whnf
      refine ⟨fun he => ?_, fun he => ?_⟩
      · conv => whnf
        have he := of_decide_eq_true he
        refine draw_rule tabOK mixed [10] [11, 12] pP7_10 [13] (by kernel_rfl) (by kernel_rfl) ?_
        conv => whnf
        refine ⟨hi, ?_⟩
        conv => whnf
        refine xload_row tabOK (t := 32) rfl Mk.segs hrl1 (fun x _ => segs_len x) m.sok hm (i := i.k) (o := 0) (by rw [Int.toNat_natCast]; rfl) (by decide) ?_
        conv => whnf
        refine call_det (.agg m.segs) ent11 (fun ad w _ => theirs1_calls m w ad) m.sok ?_
        conv => whnf
        refine put_rule h0 h1 hok' hmk hr1 (by omega) fun A2 c2 w2 pr2 hr2 hk2 => ?_
        have hr12 := Rd.keep hr1 hk2
        have hrl2 := Rd.keep hrl1 hk2
        rw [hp2 he]
        conv => whnf
        refine draw_rule tabOK mixed [] [] pP7_11 [] (by kernel_rfl) (by kernel_rfl) ?_
        conv => whnf
        refine ⟨fun h => absurd h (by simp), fun _ => ?_⟩
        conv => whnf
        refine ⟨hi, ?_⟩
        conv => whnf
        refine xload_row tabOK (t := 30) rfl Mk.segs hrl2 (fun x _ => segs_len x) m.sok hm (i := i.k) (o := 1) (by rw [Int.toNat_natCast]) (by decide) ?_
        conv => whnf
        refine ⟨hi, ?_⟩
        conv => whnf
        refine xload_row tabOK (t := 5) rfl Mk.segs hrl2 (fun x _ => segs_len x) m.sok hm (i := i.k) (o := 0) (by rw [Int.toNat_natCast]) (by decide) ?_
        conv => whnf
        have hF := forS_rng (v := v) (M := M) hok' m.add m.id
        refine call_det (.v (.int .u16 (forS v M (rowS v M l (i.k + 1)) m.add m.id))) ent17 (fun ad w hw => for_calls h0 h1 hok' w (hw.rd hr12) (by omega) ad) rfl ?_
        conv => whnf
        refine call_det (.lit true) ent23 (fun ad w _ => by have := hasR_calls hF.1 hF.2 hmk.1.1 hmk.1.2 w ad; rw [hph he] at this; exact this) trivial ?_
        conv => whnf
        exact ⟨⟨i.k + 1, A1, c1, pr2, w2⟩, ⟨hk', by show i.k + 1 ≤ 60; omega, hr12, hrl2⟩, by show l.length - (i.k + 1) < l.length - i.k; omega, ⟨i64_step (m := 100) (by omega) (by omega), rfl, rfl, rfl, rfl, rfl, trivial⟩, ⟨rfl, rfl, rfl, rfl, trivial⟩, rfl, fun _ h => h, rfl⟩
      · conv => whnf
        exact ⟨⟨i.k + 1, A1, c1, pr1, w1⟩, ⟨hk', by show i.k + 1 ≤ 60; omega, hr1, hrl1⟩, by show l.length - (i.k + 1) < l.length - i.k; omega, ⟨i64_step (m := 100) (by omega) (by omega), rfl, rfl, rfl, rfl, rfl, trivial⟩, ⟨rfl, rfl, rfl, rfl, trivial⟩, rfl, fun _ h => h, rfl⟩
    · conv => whnf
      have r1 := forS_rng (v := v) (M := M) hok a1 i1
      have r2 := forS_rng (v := v) (M := M) hok a2 i2
      refine draw_rule tabOK mixed [] [] pP7_14 [] (by kernel_rfl) (by kernel_rfl) ?_
      conv => whnf
      refine call_det (.v (.int .u16 (forS v M (rowS v M l i.k) a1 i1))) ent17 (fun ad w hw => for_calls h0 h1 hok w (hw.rd hra) (by omega) ad) rfl ?_
      conv => whnf
      refine call_det (.v (.int .u16 (forS v M (rowS v M l i.k) a2 i2))) ent17 (fun ad w hw => for_calls h0 h1 hok w (hw.rd hra) (by omega) ad) rfl ?_
      conv => whnf
      refine eq_plain (ks := ksChg) (by kernel_rfl) rfl rfl rfl (by exact ⟨rfl, rfl, trivial⟩) (by exact ⟨rfl, rfl, trivial⟩) ?_
      have hmem := for_members (v := v) h0 h1 hok a1 a2 i1 i2
      conv => whnf
      refine ⟨fun he => ?_, fun he => ?_⟩
      · conv => whnf
        refine fin_ret fun ad => ?_
        simp [retV, SV.dens, SV.den, hmem]
      · conv => whnf
        have hap := for_apart (v := v) (M := M) hok (a := a1) (b := a2) (x := i1) (y := i2) fun h => by simp [eqS, eq1, h.1, h.2] at he
        refine ⟨fun _ => ?_, fun h => absurd hap (by simpa using h)⟩
        conv => whnf
        refine fin_ret fun ad => ?_
        simp [retV, SV.dens, SV.den, hmem]
  · conv => whnf
    have r1 := forS_rng (v := v) (M := M) hok a1 i1
    have r2 := forS_rng (v := v) (M := M) hok a2 i2
    refine draw_rule tabOK mixed [] [] pP7_14 [] (by kernel_rfl) (by kernel_rfl) ?_
    conv => whnf
    refine call_det (.v (.int .u16 (forS v M (rowS v M l i.k) a1 i1))) ent17 (fun ad w hw => for_calls h0 h1 hok w (hw.rd hra) (by omega) ad) rfl ?_
    conv => whnf
    refine call_det (.v (.int .u16 (forS v M (rowS v M l i.k) a2 i2))) ent17 (fun ad w hw => for_calls h0 h1 hok w (hw.rd hra) (by omega) ad) rfl ?_
    conv => whnf
    refine eq_plain (ks := ksChg) (by kernel_rfl) rfl rfl rfl (by exact ⟨rfl, rfl, trivial⟩) (by exact ⟨rfl, rfl, trivial⟩) ?_
    have hmem := for_members (v := v) h0 h1 hok a1 a2 i1 i2
    conv => whnf
    refine ⟨fun he => ?_, fun he => ?_⟩
    · conv => whnf
      refine fin_ret fun ad => ?_
      simp [retV, SV.dens, SV.den, hmem]
    · conv => whnf
      have hap := for_apart (v := v) (M := M) hok (a := a1) (b := a2) (x := i1) (y := i2) fun h => by simp [eqS, eq1, h.1, h.2] at he
      refine ⟨fun _ => ?_, fun h => absurd hap (by simpa using h)⟩
      conv => whnf
      refine fin_ret fun ad => ?_
      simp [retV, SV.dens, SV.den, hmem]
section
open Go.ChangeShapes Go.WideShapes Go.ChangeAt
theorem two_arg {H : Type} {enc : TypeId × Value → H} {w : World} {base : Nat} {spare : Nat → Bool} {held : Bool} {r : Reach} {b : Nat} {v : Value} {d : DataW H} {p : List MemPlace} (hv : Value.okWide Try.prog w r b 63 v) (h : DataW.Trod enc Try.prog w base spare held 63 v d p) : ∃ (a1 : Bool) (i1 : Int) (a2 : Bool) (i2 : Int), v = (SV.agg [.one (.bool a1), .one (.int .u8 i1), .one (.bool a2), .one (.int .u8 i2)]).den id ∧ True ∧ True := by
  obtain ⟨cs, rfl⟩ : ∃ cs, v = .agg cs := by
    unfold Value.okWide at hv
    rw [Try.underlying63] at hv
    obtain ⟨cs, h1, _⟩ := hv
    exact ⟨cs, h1⟩
  obtain ⟨fuel, hf⟩ := h
  have hf := open_plain (ks := [.bool, .int .u8, .bool, .int .u8]) (by kernel_rfl) hf
  obtain ⟨_, _, e, ⟨a, rfl⟩, hf1⟩ := hf.cons
  obtain ⟨_, _, rfl, ⟨b, rfl, hb⟩, hf2⟩ := hf1.cons
  obtain ⟨_, _, rfl, ⟨c, rfl⟩, hf3⟩ := hf2.cons
  obtain ⟨_, _, rfl, ⟨d, rfl, hd⟩, hf4⟩ := hf3.cons
  obtain rfl := hf4.nil
  exact ⟨a, b, c, d, (agg_of (cs := cs) e).trans rfl, trivial, trivial⟩
namespace ballotTwice
set_option maxRecDepth 100000 in
theorem lifted (os : Os) (started : os.Started) (H : Type) (enc : TypeId × Value → H) :
    ReturnsInHanded {} Try.checked os 7 .any (Rows.ballotTwiceSpec.pre6 enc Try.prog Try.f7 Rows.ballotTwiceRow.domain false) (Rows.ballotTwiceSpec.post enc Try.prog Try.f7 false true false false) := by
  refine returnsInHanded_of_change_sized (C := Try.checked) own started (by kernel_rfl) Try.func7
    (ChangeSpec.witness6 (enc := enc) (C := Try.checked) false ⟨#[], #[.agg #[.int .i64 0, .int .u16 0], .slice none 0 0, .agg #[.bool false, .int .u8 0, .bool false, .int .u8 0]], []⟩ 8 (by kernel_rfl) (by kernel_rfl) (by kernel_rfl) (by kernel_rfl)) ?_
  intro W base args ds gs before hval0 hW hcnd hsz0 _
  have hval : ∀ (j : Nat) t v, Try.f7.params[j]? = some t → args[j]? = some v → Value.okWide Try.prog W .any base t v := hval0
  have hW' := hW
  obtain ⟨p, q, hA0, hV, rfl, hfz, hnd⟩ := hW
  have hA : DataW.TrodAll enc Try.prog W 0 (fun _ => true) true Try.f7.params.toList args.toList ds p := hA0
  rw [Try.params7] at hA hval
  obtain ⟨v0, vs0, d0, ds0, p0, q0, hargs, rfl, rfl, h0, r0⟩ := trodAll_cons hA
  obtain ⟨v1, vs1, d1, ds1, p1, q1, rfl, rfl, rfl, h1, r1⟩ := trodAll_cons r0
  obtain ⟨v2, vs2, d2, ds2, p2, q2, rfl, rfl, rfl, h2, r2⟩ := trodAll_cons r1
  obtain ⟨rfl, rfl, rfl⟩ := trodAll_nil r2
  obtain rfl : args = #[v0, v1, v2] := by cases args; simp_all
  obtain ⟨rfl, rfl⟩ := trodVars_none hV
  have k0 := h0
  have lt0 : ∀ x ∈ p0, x.block < W.heap.size := by obtain ⟨m, hm⟩ := k0; exact DataW.trod_lt m _ _ _ hm
  have k1 := h1
  have lt1 : ∀ x ∈ p1, x.block < W.heap.size := by obtain ⟨m, hm⟩ := k1; exact DataW.trod_lt m _ _ _ hm
  have k2 := h2
  have lt2 : ∀ x ∈ p2, x.block < W.heap.size := by obtain ⟨m, hm⟩ := k2; exact DataW.trod_lt m _ _ _ hm
  obtain ⟨vw, M, rfl, m0, m1⟩ := roll_arg (hval 0 25 v0 rfl rfl) h0
  obtain ⟨A, c, l, rfl, hl, hrd⟩ := casts_arg (hval 1 26 v1 rfl rfl) h1
  obtain ⟨a1, i1, a2, i2, rfl, n1, n2⟩ := two_arg (hval 2 63 v2 rfl rfl) h2
  clear hA0 hval0 hsz0
  refine (ballotTwice_calls m0 m1 hl W hrd id).mono fun e W' ⟨he, bel⟩ => ?_
  subst he
  exact ⟨_, rfl, _, _, _, [], _, [], hW', trodAll_mk1 (shut_bool Try.underlying4 _), (trodAll_cons_mk (Below.trod laidOut (by kernel_rfl) (of_decide_eq_true (by kernel_rfl)) k0 bel lt0) (trodAll_cons_mk (Below.trod laidOut (by kernel_rfl) (of_decide_eq_true (by kernel_rfl)) k1 bel lt1) (trodAll_cons_mk (Below.trod laidOut (by kernel_rfl) (of_decide_eq_true (by kernel_rfl)) k2 bel lt2) trodAll_mk0))), rfl, bel.frame _, fun h => by cases h⟩
theorem over : Rows.ballotTwiceRow.holds Try.pinned (OpenSpec.ofChange Rows.ballotTwiceSpec) :=
  OpenClaim.holds_of_wide 7 Try.f7 rfl rfl rfl rfl rfl rfl rfl ⟨rfl, rfl, rfl, rfl, rfl⟩ rfl rfl rfl rfl rfl (by kernel_rfl) Try.func7 (by kernel_rfl)
    (of_decide_eq_true (by kernel_rfl)) (by unfold Func.isWrapper; first | (rw [if_pos (by decide +kernel)]; kernel_rfl) | (rw [if_neg (by decide +kernel)]; exact ⟨rfl, rfl⟩))
    (fun os started H enc _ => lifted os started H enc)
end ballotTwice
theorem ballotTwice_holds : Rows.BallotTwiceSaid := ballotTwice.over
#print axioms ballotTwice_holds
end
end Go.Proofs.Ytcgkeepihinegaa
