/-
  FlushOnce: for every number of members and every list of marks the law returns true: walked, and told as the statement says it.
-/
import Derived.Test.YtcmooifiiakbdaaR
import Derived.Test.YtcmooifiiakbdaaSxO
set_option linter.unusedVariables false
set_option linter.unusedSimpArgs false
namespace Go.Proofs.Ytcmooifiiakbdaa
open Go Go.Sx Go.RowKit
set_option maxHeartbeats 1000000
set_option maxRecDepth 20000
/-- Sixteen marks, one behind the other. -/
def arr16 (f : Nat → Mk) : List Seg := [.one (.int .u8 (f 0).who), .ints .u16 16 (f 0).past, .one (.int .u8 (f 1).who), .ints .u16 16 (f 1).past, .one (.int .u8 (f 2).who), .ints .u16 16 (f 2).past, .one (.int .u8 (f 3).who), .ints .u16 16 (f 3).past, .one (.int .u8 (f 4).who), .ints .u16 16 (f 4).past, .one (.int .u8 (f 5).who), .ints .u16 16 (f 5).past, .one (.int .u8 (f 6).who), .ints .u16 16 (f 6).past, .one (.int .u8 (f 7).who), .ints .u16 16 (f 7).past, .one (.int .u8 (f 8).who), .ints .u16 16 (f 8).past, .one (.int .u8 (f 9).who), .ints .u16 16 (f 9).past, .one (.int .u8 (f 10).who), .ints .u16 16 (f 10).past, .one (.int .u8 (f 11).who), .ints .u16 16 (f 11).past, .one (.int .u8 (f 12).who), .ints .u16 16 (f 12).past, .one (.int .u8 (f 13).who), .ints .u16 16 (f 13).past, .one (.int .u8 (f 14).who), .ints .u16 16 (f 14).past, .one (.int .u8 (f 15).who), .ints .u16 16 (f 15).past]
def nomark : Mk := ⟨0, List.replicate 16 0⟩
theorem who_had {M had : Int} {ms : List Mk} {t : Mk} (h : Had M ms had) (ht : t.Ok) (hw : t.who < 16) (hb : hasB had t.who = true) : (putS M ms t).2 = 9 := by
  obtain ⟨a, ha⟩ := Int.eq_ofNat_of_zero_le ht.1.1
  rw [ha, h.bits a (by omega)] at hb
  obtain ⟨m, hm, he⟩ := List.any_eq_true.1 hb
  have he := of_decide_eq_true he
  have hr : rightB M ms = true := by
    rcases h.right with h | ⟨_, h⟩
    · exact h
    · rw [h] at hm; cases hm
  have hM := ((right_iff.1 hr).1 m hm).1
  have hany : (ms.any fun m => decide (m.who = t.who)) = true := List.any_eq_true.2 ⟨m, hm, by rw [decide_eq_true_eq]; omega⟩
  simp [putS, hr, show hasB M t.who = true by rw [ha, ← he]; exact hM, hany]
theorem shr_bit {s n : Int} (h0 : 0 ≤ s) (hn : 0 ≤ n) (h16 : n < 16) : decide ((bshr .u16 s n).tmod 2 = 1) = hasB s n := by
  unfold bshr hasB
  rw [show min n.toNat IntKind.u16.bits = n.toNat by show min n.toNat 16 = n.toNat; omega, Int.fdiv_eq_ediv_of_nonneg _ (Int.le_of_lt (Int.pow_pos (by decide))), decide_eq_true h16, Bool.true_and, Int.tmod_eq_emod_of_nonneg (Int.ediv_nonneg h0 (Int.le_of_lt (Int.pow_pos (by decide))))]
structure OI where
  k : Nat
  had : Int
  f : Nat → Mk
  A : Option Addr
  c : Nat
  pr : Nat → Prop
  sw : World
/-- What first is, behind some puts. -/
def First (ms : List Mk) (f : Nat → Mk) : Prop := (∀ j, (f j).past.length = 16) ∧ ∀ m ∈ ms, m.who < 16 ∧ f m.who.toNat = m
theorem first_put {ms ms' : List Mk} {f : Nat → Mk} {t : Mk} (h : First ms f) (ht : t.Ok) (hw : t.who < 16) (hne : ∀ m ∈ ms, m.Ok ∧ m.who ≠ t.who) (hms : ∀ m, m ∈ ms' ↔ m = t ∨ m ∈ ms) : First ms' (fun j => if j = t.who.toNat then t else f j) := by
  refine ⟨fun j => ?_, fun m hm => ?_⟩
  · show (if j = t.who.toNat then t else f j).past.length = 16
    split
    · exact ht.2.1
    · exact h.1 j
  · rcases (hms m).1 hm with rfl | hm
    · exact ⟨hw, if_pos rfl⟩
    · obtain ⟨h1, h2⟩ := h.2 m hm
      obtain ⟨h3, h4⟩ := hne m hm
      refine ⟨h1, (if_neg ?_).trans h2⟩
      have := h3.1.1
      have := ht.1.1
      omega
/-- A state at the head of the loop over a flush's marks. -/
def stW (M : Int) (A : Option Addr) (c k n : Nat) (A1 : Option Addr) (c1 n1 q : Nat) (x : OI) : St := ⟨[(82, .v (.int .i64 q)), (81, .v (.int .i64 n1)), (80, .v (.slice A1 n1 c1)), (8, .v (.int .i64 k)), (7, .v (.int .u16 x.had)), (6, .ptr 6 0), (5, .ptr 5 0), (1, .v (.slice A n c))], [(6, (arr16 x.f, 54)), (5, ([.one (.int .u16 M), .one (.slice A1 n1 c1)], 34))], [], x.pr, x.sw⟩
theorem flushOnce_calls {M : Int} (h0 : 0 ≤ M) (h1 : M < 65536) {A : Option Addr} {c : Nat} {l : List Mk} (hl : ∀ m ∈ l, m.Ok) (w0 : World) (hrd : Rd (fun g => g < w0.heap.size) w0 A (mcells l)) :
    ∀ ad, Calls Try.prog 7 (SV.dens ad [.v (.int .u16 M), .v (.slice A l.length c)]).toArray w0 (Ret w0 (.bool true)) := by
  refine calls_sound tabOK Try.func7 rfl (by kernel_rfl) (Nat.le_of_ble_eq_true rfl) ⟨rfl, rfl, trivial⟩ ?_
  conv => whnf
  have hsz : ∀ x ∈ l, (flat x.segs).length = 17 := fun x hx => segs_len (hl x hx)
  have hA : ∀ {k : Nat}, k < l.length → A ≠ none := fun {k} h => hrd.some fun e => by
    have := congrArg List.length e
    rw [mcells_len hl] at this
    simp at this; omega
  refine call_det (.lit true) (show Ent Try.prog 8 by unfold Ent; kernel_rfl) (fun ad w _ => alive_calls w ad) trivial ?_
  conv => whnf
  refine loop_rule tabOK (by kernel_rfl) (fun i : OI => ⟨[(8, .v (.int .i64 i.k)), (7, .v (.int .u16 i.had)), (6, .ptr 6 0), (5, .ptr 5 0), (1, .v (.slice A l.length c))], [(6, (arr16 i.f, 54)), (5, ([.one (.int .u16 M), .one (.slice i.A (rowS M l i.k).length i.c)], 34))], [], i.pr, i.sw⟩)
    (fun i => i.k ≤ l.length ∧ i.k ≤ 40 ∧ Rd i.pr i.sw i.A (mcells (rowS M l i.k)) ∧ Rd i.pr i.sw A (mcells l) ∧ Had M (rowS M l i.k) i.had ∧ First (rowS M l i.k) i.f)
    (fun i => l.length - i.k) ⟨0, 0, fun _ => nomark, none, 0, _, w0⟩ ⟨Nat.zero_le _, Nat.zero_le _, Rd.empty _ _ _, hrd, had_start M, fun _ => by simp [nomark], fun m hm => (by cases hm)⟩ ⟨⟨rfl, rfl, rfl, rfl, rfl, trivial⟩, ⟨rfl, rfl, trivial⟩, rfl, fun _ h => h, rfl⟩ ?_
  intro i ⟨hk, hk40, hra, hrl, hhad, hfir⟩
  obtain ⟨hok, hlen⟩ := rowS_ok M hl i.k hk
  conv => whnf
  refine ⟨fun hc => ?_, fun hc => ?_⟩
  · conv => whnf
    refine ⟨fun hd => ?_, fun hd => ?_⟩
    · conv => whnf
      have hk' : i.k < l.length := by have := of_decide_eq_true hc; omega
      have hk4 : i.k < 40 := by have := of_decide_eq_true hd; omega
      obtain ⟨m, hm⟩ : ∃ m, l[i.k]? = some m := ⟨_, List.getElem?_eq_getElem hk'⟩
      have hmk := hl m (List.mem_of_getElem? hm)
      have hi : (0 : Int) ≤ i.k ∧ (i.k : Int) < l.length ∧ A ≠ none := ⟨by omega, by omega, hA hk'⟩
      refine ⟨hi, ?_⟩
      conv => whnf
      refine xload_row tabOK (t := 30) rfl Mk.segs hrl hsz ⟨rfl, hmk.2.1, trivial⟩ hm (i := i.k) (o := 0) (by rw [Int.toNat_natCast]; rfl) (by decide) ?_
      conv => whnf
      refine put_rule h0 h1 hok hmk hra (by omega) fun A1 c1 w1 pr1 hr1 hk1 => ?_
      have hrl1 := Rd.keep hrl hk1
      have hra1 := Rd.keep hra hk1
      have hput : rowS M l (i.k + 1) = (putS M (rowS M l i.k) m).1 := rowS_succ hm
      rw [← hput] at hr1 ⊢
      obtain ⟨hok', hlen'⟩ := rowS_ok M hl (i.k + 1) hk'
      apply loop_join (P := Try.prog) (T := tab) (n := Try.f7.ntmps) (w0 := .of w0) (stW M A c i.k l.length A1 c1 (rowS M l (i.k + 1)).length 0) (fun x => Rd x.pr x.sw A1 (mcells (rowS M l (i.k + 1))) ∧ Rd x.pr x.sw A (mcells l) ∧ Had M (rowS M l (i.k + 1)) x.had ∧ First (rowS M l (i.k + 1)) x.f)
      case hm =>
        intro hL
        have hsame : (putS M (rowS M l i.k) m).2 ≠ 0 → rowS M l (i.k + 1) = rowS M l i.k := fun h => hput.trans (put_not h)
        conv => whnf
        refine draw_rule tabOK mixed [] [] pP7_11 [] (by kernel_rfl) (by kernel_rfl) ?_
        conv => whnf
        refine ⟨fun hw => ?_, fun hw => ?_⟩
        · conv => whnf
          refine ⟨hmk.1.1, ?_⟩
          conv => whnf
          refine ⟨by decide, ?_⟩
          conv => whnf
          have hw : m.who < 16 := of_decide_eq_true hw
          refine ⟨fun hb => ?_, fun hb => ?_⟩
          · conv => whnf
            rw [shr_bit hhad.rng.1 hmk.1.1 hw] at hb
            have h9 := who_had hhad hmk hw hb
            refine ⟨fun h => absurd h (by rw [h9]; decide), fun _ => ?_⟩
            conv => whnf
            refine ⟨fun he => ?_, fun he => ?_⟩
            · conv => whnf
              refine told_rule ent15 (fun w hw => ours_calls hok' w hw (by omega)) hr1 fun A3 c3 w3 pr3 hr3 hk3 => ?_
              have hr13 := Rd.keep hr1 hk3
              have hra3 := Rd.keep hra1 hk3
              have hrl3 := Rd.keep hrl1 hk3
              conv => whnf
              refine told_rule ent15 (fun w hw => ours_calls hok w hw (by omega)) hra3 fun A4 c4 w4 pr4 hr4 hk4 => ?_
              have hr34 := Rd.keep hr3 hk4
              have hrl4 := Rd.keep hrl3 hk4
              have hr14 := Rd.keep hr13 hk4
              conv => whnf
              have he : (putS M (rowS M l i.k) m).2 ≠ 0 := by simpa using he
              have hs := hsame he
              refine call_det (.lit true) ent14 (fun ad w hw => ?_) trivial ?_
              · have h4 := hw.rd hr4
                rw [← hs] at h4 ⊢
                exact same_calls hok' w (hw.rd hr34) h4 (by omega) ad
              conv => whnf
              refine ⟨fun h => absurd (of_decide_eq_true h) he, fun _ => ?_⟩
              conv => whnf
              have hh := hL ⟨0, i.had, i.f, none, 0, pr4, w4⟩ ⟨hr14, hrl4, by rw [hput]; exact had_not hhad he, by rw [hs]; exact hfir⟩
              refine LoopVC.sub hh ?_
              exact ⟨⟨rfl, rfl, rfl, rfl, rfl, rfl, rfl, rfl, trivial⟩, ⟨rfl, rfl, trivial⟩, rfl, fun _ h => h, rfl⟩
            · conv => whnf
              have he : (putS M (rowS M l i.k) m).2 = 0 := by simpa using he
              refine ⟨fun _ => ?_, fun h => absurd he (of_decide_eq_false h)⟩
              conv => whnf
              obtain ⟨e1, e2, e3, e4, e5⟩ := put_ok he
              have hw0 := hmk.1.1
              have hwl : m.who < 16 := by
                simp only [hasB, Bool.and_eq_true, decide_eq_true_eq] at e2
                exact e2.1
              refine ⟨by decide, ?_⟩
              have hrem : m.who.tmod 16 = m.who := by rw [Int.tmod_eq_emod_of_nonneg hw0]; omega
              conv => whnf
              rw [hrem]
              refine ⟨⟨by omega, by omega⟩, ?_⟩
              have hnew : Had M (rowS M l (i.k + 1)) (bor .u16 i.had (bshl .u16 1 m.who)) := by rw [hput]; exact had_put hmk hhad he
              have hfn : First (rowS M l (i.k + 1)) (fun j => if j = m.who.toNat then m else i.f j) := first_put hfir hmk hwl (fun x hx => ⟨hok x hx, by
                have h5 := List.any_eq_false.1 e3 x hx
                simpa using h5⟩) (fun x => by rw [hput, e5]; exact insS_mem)
              have hjl : m.who.toNat < 16 := by omega
              generalize m.who.toNat = j at hfn hjl ⊢
              have key := fun (q : Nat) (hq : q = j) => hL ⟨0, bor .u16 i.had (bshl .u16 1 m.who), fun x => if x = q then m else i.f x, none, 0, pr1, w1⟩ ⟨hr1, hrl1, hnew, by rw [hq]; exact hfn⟩
              obtain rfl | rfl | rfl | rfl | rfl | rfl | rfl | rfl | rfl | rfl | rfl | rfl | rfl | rfl | rfl | rfl : j = 0 ∨ j = 1 ∨ j = 2 ∨ j = 3 ∨ j = 4 ∨ j = 5 ∨ j = 6 ∨ j = 7 ∨ j = 8 ∨ j = 9 ∨ j = 10 ∨ j = 11 ∨ j = 12 ∨ j = 13 ∨ j = 14 ∨ j = 15 := by omega
              all_goals
                conv => whnf
                refine ⟨by decide, ?_⟩
                conv => whnf
                rw [hrem]
                refine ⟨hw0, ?_⟩
                conv => whnf
                refine LoopVC.sub (key _ rfl) ?_
                exact ⟨⟨rfl, rfl, rfl, rfl, rfl, rfl, rfl, rfl, trivial⟩, ⟨rfl, rfl, trivial⟩, rfl, fun _ h => h, rfl⟩
          · conv => whnf
            refine ⟨fun he => ?_, fun he => ?_⟩
            · conv => whnf
              refine told_rule ent15 (fun w hw => ours_calls hok' w hw (by omega)) hr1 fun A3 c3 w3 pr3 hr3 hk3 => ?_
              have hr13 := Rd.keep hr1 hk3
              have hra3 := Rd.keep hra1 hk3
              have hrl3 := Rd.keep hrl1 hk3
              conv => whnf
              refine told_rule ent15 (fun w hw => ours_calls hok w hw (by omega)) hra3 fun A4 c4 w4 pr4 hr4 hk4 => ?_
              have hr34 := Rd.keep hr3 hk4
              have hrl4 := Rd.keep hrl3 hk4
              have hr14 := Rd.keep hr13 hk4
              conv => whnf
              have he : (putS M (rowS M l i.k) m).2 ≠ 0 := by simpa using he
              have hs := hsame he
              refine call_det (.lit true) ent14 (fun ad w hw => ?_) trivial ?_
              · have h4 := hw.rd hr4
                rw [← hs] at h4 ⊢
                exact same_calls hok' w (hw.rd hr34) h4 (by omega) ad
              conv => whnf
              refine ⟨fun h => absurd (of_decide_eq_true h) he, fun _ => ?_⟩
              conv => whnf
              have hh := hL ⟨0, i.had, i.f, none, 0, pr4, w4⟩ ⟨hr14, hrl4, by rw [hput]; exact had_not hhad he, by rw [hs]; exact hfir⟩
              refine LoopVC.sub hh ?_
              exact ⟨⟨rfl, rfl, rfl, rfl, rfl, rfl, rfl, rfl, trivial⟩, ⟨rfl, rfl, trivial⟩, rfl, fun _ h => h, rfl⟩
            · conv => whnf
              have he : (putS M (rowS M l i.k) m).2 = 0 := by simpa using he
              refine ⟨fun _ => ?_, fun h => absurd he (of_decide_eq_false h)⟩
              conv => whnf
              obtain ⟨e1, e2, e3, e4, e5⟩ := put_ok he
              have hw0 := hmk.1.1
              have hwl : m.who < 16 := by
                simp only [hasB, Bool.and_eq_true, decide_eq_true_eq] at e2
                exact e2.1
              refine ⟨by decide, ?_⟩
              have hrem : m.who.tmod 16 = m.who := by rw [Int.tmod_eq_emod_of_nonneg hw0]; omega
              conv => whnf
              rw [hrem]
              refine ⟨⟨by omega, by omega⟩, ?_⟩
              have hnew : Had M (rowS M l (i.k + 1)) (bor .u16 i.had (bshl .u16 1 m.who)) := by rw [hput]; exact had_put hmk hhad he
              have hfn : First (rowS M l (i.k + 1)) (fun j => if j = m.who.toNat then m else i.f j) := first_put hfir hmk hwl (fun x hx => ⟨hok x hx, by
                have h5 := List.any_eq_false.1 e3 x hx
                simpa using h5⟩) (fun x => by rw [hput, e5]; exact insS_mem)
              have hjl : m.who.toNat < 16 := by omega
              generalize m.who.toNat = j at hfn hjl ⊢
              have key := fun (q : Nat) (hq : q = j) => hL ⟨0, bor .u16 i.had (bshl .u16 1 m.who), fun x => if x = q then m else i.f x, none, 0, pr1, w1⟩ ⟨hr1, hrl1, hnew, by rw [hq]; exact hfn⟩
              obtain rfl | rfl | rfl | rfl | rfl | rfl | rfl | rfl | rfl | rfl | rfl | rfl | rfl | rfl | rfl | rfl : j = 0 ∨ j = 1 ∨ j = 2 ∨ j = 3 ∨ j = 4 ∨ j = 5 ∨ j = 6 ∨ j = 7 ∨ j = 8 ∨ j = 9 ∨ j = 10 ∨ j = 11 ∨ j = 12 ∨ j = 13 ∨ j = 14 ∨ j = 15 := by omega
              all_goals
                conv => whnf
                refine ⟨by decide, ?_⟩
                conv => whnf
                rw [hrem]
                refine ⟨hw0, ?_⟩
                conv => whnf
                refine LoopVC.sub (key _ rfl) ?_
                exact ⟨⟨rfl, rfl, rfl, rfl, rfl, rfl, rfl, rfl, trivial⟩, ⟨rfl, rfl, trivial⟩, rfl, fun _ h => h, rfl⟩
        · conv => whnf
          refine ⟨fun he => ?_, fun he => ?_⟩
          · conv => whnf
            refine told_rule ent15 (fun w hw => ours_calls hok' w hw (by omega)) hr1 fun A3 c3 w3 pr3 hr3 hk3 => ?_
            have hr13 := Rd.keep hr1 hk3
            have hra3 := Rd.keep hra1 hk3
            have hrl3 := Rd.keep hrl1 hk3
            conv => whnf
            refine told_rule ent15 (fun w hw => ours_calls hok w hw (by omega)) hra3 fun A4 c4 w4 pr4 hr4 hk4 => ?_
            have hr34 := Rd.keep hr3 hk4
            have hrl4 := Rd.keep hrl3 hk4
            have hr14 := Rd.keep hr13 hk4
            conv => whnf
            have he : (putS M (rowS M l i.k) m).2 ≠ 0 := by simpa using he
            have hs := hsame he
            refine call_det (.lit true) ent14 (fun ad w hw => ?_) trivial ?_
            · have h4 := hw.rd hr4
              rw [← hs] at h4 ⊢
              exact same_calls hok' w (hw.rd hr34) h4 (by omega) ad
            conv => whnf
            refine ⟨fun h => absurd (of_decide_eq_true h) he, fun _ => ?_⟩
            conv => whnf
            have hh := hL ⟨0, i.had, i.f, none, 0, pr4, w4⟩ ⟨hr14, hrl4, by rw [hput]; exact had_not hhad he, by rw [hs]; exact hfir⟩
            refine LoopVC.sub hh ?_
            exact ⟨⟨rfl, rfl, rfl, rfl, rfl, rfl, rfl, rfl, trivial⟩, ⟨rfl, rfl, trivial⟩, rfl, fun _ h => h, rfl⟩
          · conv => whnf
            have he : (putS M (rowS M l i.k) m).2 = 0 := by simpa using he
            refine ⟨fun _ => ?_, fun h => absurd he (of_decide_eq_false h)⟩
            conv => whnf
            obtain ⟨e1, e2, e3, e4, e5⟩ := put_ok he
            have hw0 := hmk.1.1
            have hwl : m.who < 16 := by
              simp only [hasB, Bool.and_eq_true, decide_eq_true_eq] at e2
              exact e2.1
            refine ⟨by decide, ?_⟩
            have hrem : m.who.tmod 16 = m.who := by rw [Int.tmod_eq_emod_of_nonneg hw0]; omega
            conv => whnf
            rw [hrem]
            refine ⟨⟨by omega, by omega⟩, ?_⟩
            have hnew : Had M (rowS M l (i.k + 1)) (bor .u16 i.had (bshl .u16 1 m.who)) := by rw [hput]; exact had_put hmk hhad he
            have hfn : First (rowS M l (i.k + 1)) (fun j => if j = m.who.toNat then m else i.f j) := first_put hfir hmk hwl (fun x hx => ⟨hok x hx, by
              have h5 := List.any_eq_false.1 e3 x hx
              simpa using h5⟩) (fun x => by rw [hput, e5]; exact insS_mem)
            have hjl : m.who.toNat < 16 := by omega
            generalize m.who.toNat = j at hfn hjl ⊢
            have key := fun (q : Nat) (hq : q = j) => hL ⟨0, bor .u16 i.had (bshl .u16 1 m.who), fun x => if x = q then m else i.f x, none, 0, pr1, w1⟩ ⟨hr1, hrl1, hnew, by rw [hq]; exact hfn⟩
            obtain rfl | rfl | rfl | rfl | rfl | rfl | rfl | rfl | rfl | rfl | rfl | rfl | rfl | rfl | rfl | rfl : j = 0 ∨ j = 1 ∨ j = 2 ∨ j = 3 ∨ j = 4 ∨ j = 5 ∨ j = 6 ∨ j = 7 ∨ j = 8 ∨ j = 9 ∨ j = 10 ∨ j = 11 ∨ j = 12 ∨ j = 13 ∨ j = 14 ∨ j = 15 := by omega
            all_goals
              conv => whnf
              refine ⟨by decide, ?_⟩
              conv => whnf
              rw [hrem]
              refine ⟨hw0, ?_⟩
              conv => whnf
              refine LoopVC.sub (key _ rfl) ?_
              exact ⟨⟨rfl, rfl, rfl, rfl, rfl, rfl, rfl, rfl, trivial⟩, ⟨rfl, rfl, trivial⟩, rfl, fun _ h => h, rfl⟩
      case hl =>
        intro x ⟨hrx, hrlx, hhadx, hfirx⟩
        have hszx : ∀ y ∈ rowS M l (i.k + 1), (flat y.segs).length = 17 := fun y hy => segs_len (hok' y hy)
        have hA1 : ∀ {q : Nat}, q < (rowS M l (i.k + 1)).length → A1 ≠ none := fun {q} h => hrx.some fun e => by
          have := congrArg List.length e
          rw [mcells_len hok'] at this
          simp at this; omega
        generalize hSS : rowS M l (i.k + 1) = S at *
        refine loop_rule tabOK (by kernel_rfl) (fun q : Nat => stW M A c i.k l.length A1 c1 S.length q x) (fun q => q ≤ S.length) (fun q => S.length - q) 0 (Nat.zero_le _) ⟨⟨rfl, rfl, rfl, rfl, rfl, rfl, rfl, rfl, trivial⟩, ⟨rfl, rfl, trivial⟩, rfl, fun _ h => h, rfl⟩ ?_
        intro q hq
        conv => whnf
        refine ⟨fun hc => ?_, fun hc => ?_⟩
        · conv => whnf
          have hq' : q < S.length := by have := of_decide_eq_true hc; omega
          obtain ⟨y, hy⟩ : ∃ y, S[q]? = some y := ⟨_, List.getElem?_eq_getElem hq'⟩
          have hyk := hok' y (List.mem_of_getElem? hy)
          obtain ⟨hy16, hfy⟩ := hfirx.2 y (List.mem_of_getElem? hy)
          have hy0 := hyk.1.1
          have hi2 : (0 : Int) ≤ q ∧ (q : Int) < S.length ∧ A1 ≠ none := ⟨by omega, by omega, hA1 hq'⟩
          refine ⟨hi2, ?_⟩
          conv => whnf
          refine xload_row tabOK (t := 39) rfl Mk.segs hrx hszx ⟨rfl, hyk.2.1, trivial⟩ hy (i := q) (o := 0) (by rw [Int.toNat_natCast]; rfl) (by decide) ?_
          conv => whnf
          refine draw_rule tabOK mixed [] [] pP7_20 [] (by kernel_rfl) (by kernel_rfl) ?_
          conv => whnf
          refine ⟨by decide, ?_⟩
          have hrem : y.who.tmod 16 = y.who := by rw [Int.tmod_eq_emod_of_nonneg hy0]; omega
          conv => whnf
          rw [hrem]
          refine ⟨⟨by omega, by omega⟩, ?_⟩
          have hjl : y.who.toNat < 16 := by omega
          generalize y.who.toNat = j at hfy hjl ⊢
          obtain rfl | rfl | rfl | rfl | rfl | rfl | rfl | rfl | rfl | rfl | rfl | rfl | rfl | rfl | rfl | rfl : j = 0 ∨ j = 1 ∨ j = 2 ∨ j = 3 ∨ j = 4 ∨ j = 5 ∨ j = 6 ∨ j = 7 ∨ j = 8 ∨ j = 9 ∨ j = 10 ∨ j = 11 ∨ j = 12 ∨ j = 13 ∨ j = 14 ∨ j = 15 := by omega
          all_goals
            conv => whnf
            refine eq_nv (f0 := 5) (f1 := 28) (e := 22) (n := 16) (k0 := .u8) (k := .u16) (by kernel_rfl) hyk.2.1 (hfirx.1 _) ?_
            rw [hfy]
            conv => whnf
            refine ⟨fun h => absurd h (by simp), fun _ => ?_⟩
            conv => whnf
            exact ⟨q + 1, hq', by omega, ⟨i64_step (m := 100) (by omega) (by omega), rfl, rfl, rfl, rfl, rfl, rfl, rfl, trivial⟩, ⟨rfl, rfl, trivial⟩, rfl, fun _ h => h, rfl⟩
        · conv => whnf
          exact ⟨⟨i.k + 1, x.had, x.f, A1, c1, x.pr, x.sw⟩, ⟨hk', by show i.k + 1 ≤ 40; omega, by rw [hSS]; exact hrx, hrlx, by rw [hSS]; exact hhadx, by rw [hSS]; exact hfirx⟩, by show l.length - (i.k + 1) < l.length - i.k; omega, ⟨i64_step (m := 100) (by omega) (by omega), rfl, rfl, rfl, rfl, trivial⟩, ⟨rfl, by rw [hSS]; rfl, trivial⟩, rfl, fun _ h => h, rfl⟩
    · conv => whnf
      exact fin_ret fun ad => rfl
  · conv => whnf
    exact fin_ret fun ad => rfl
section
open Go.ChangeShapes Go.WideShapes Go.ChangeAt
namespace flushOnce
set_option maxRecDepth 100000 in
theorem lifted (os : Os) (started : os.Started) (H : Type) (enc : TypeId × Value → H) :
    ReturnsInHanded {} Try.checked os 7 .any (Rows.flushOnceSpec.pre6 enc Try.prog Try.f7 Rows.flushOnceRow.domain false) (Rows.flushOnceSpec.post enc Try.prog Try.f7 false true false false) := by
  refine returnsInHanded_of_change_sized (C := Try.checked) own started (by kernel_rfl) Try.func7
    (ChangeSpec.witness6 (enc := enc) (C := Try.checked) false ⟨#[], #[.int .u16 0, .slice none 0 0], []⟩ 8 (by kernel_rfl) (by kernel_rfl) (by kernel_rfl) (by kernel_rfl)) ?_
  intro W base args ds gs before hval0 hW hcnd hsz0 _
  have hval : ∀ (j : Nat) t v, Try.f7.params[j]? = some t → args[j]? = some v → Value.okWide Try.prog W .any base t v := hval0
  have hW' := hW
  obtain ⟨p, q, hA0, hV, rfl, hfz, hnd⟩ := hW
  have hA : DataW.TrodAll enc Try.prog W 0 (fun _ => true) true Try.f7.params.toList args.toList ds p := hA0
  rw [Try.params7] at hA hval
  obtain ⟨v0, vs0, d0, ds0, p0, q0, hargs, rfl, rfl, h0, r0⟩ := trodAll_cons hA
  obtain ⟨v1, vs1, d1, ds1, p1, q1, rfl, rfl, rfl, h1, r1⟩ := trodAll_cons r0
  obtain ⟨rfl, rfl, rfl⟩ := trodAll_nil r1
  obtain rfl : args = #[v0, v1] := by cases args; simp_all
  obtain ⟨rfl, rfl⟩ := trodVars_none hV
  have k0 := h0
  have lt0 : ∀ x ∈ p0, x.block < W.heap.size := by obtain ⟨m, hm⟩ := k0; exact DataW.trod_lt m _ _ _ hm
  have k1 := h1
  have lt1 : ∀ x ∈ p1, x.block < W.heap.size := by obtain ⟨m, hm⟩ := k1; exact DataW.trod_lt m _ _ _ hm
  obtain ⟨z0, rfl, a0, b0⟩ := u16_arg (hval 0 23 v0 rfl rfl) h0
  obtain ⟨A1, c1, ms1, rfl, hms1, hrd1⟩ := marks_arg (hval 1 24 v1 rfl rfl) h1
  clear hA0 hval0 hsz0
  refine (flushOnce_calls a0 b0 hms1 W hrd1 id).mono fun e W' ⟨he, bel⟩ => ?_
  subst he
  exact ⟨_, rfl, _, _, _, [], _, [], hW', trodAll_mk1 (shut_bool Try.underlying4 _), (trodAll_cons_mk (Below.trod laidOut (by kernel_rfl) (of_decide_eq_true (by kernel_rfl)) k0 bel lt0) (trodAll_cons_mk (Below.trod laidOut (by kernel_rfl) (of_decide_eq_true (by kernel_rfl)) k1 bel lt1) trodAll_mk0)), rfl, bel.frame _, fun h => by cases h⟩
theorem over : Rows.flushOnceRow.holds Try.pinned (OpenSpec.ofChange Rows.flushOnceSpec) :=
  OpenClaim.holds_of_wide 7 Try.f7 rfl rfl rfl rfl rfl rfl rfl ⟨rfl, rfl, rfl, rfl, rfl⟩ rfl rfl rfl rfl rfl (by kernel_rfl) Try.func7 (by kernel_rfl)
    (of_decide_eq_true (by kernel_rfl)) (by unfold Func.isWrapper; first | (rw [if_pos (by decide +kernel)]; kernel_rfl) | (rw [if_neg (by decide +kernel)]; exact ⟨rfl, rfl⟩))
    (fun os started H enc _ => lifted os started H enc)
end flushOnce
theorem flushOnce_holds : Rows.FlushOnceSaid := flushOnce.over
#print axioms flushOnce_holds
end
end Go.Proofs.Ytcmooifiiakbdaa
