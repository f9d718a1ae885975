/-
  Insert of one mark, walked.
-/
import Derived.Test.YtcgkeepihinegaaG
set_option linter.unusedVariables false
namespace Go.Proofs.Ytcgkeepihinegaa
open Go Go.Sx Go.RowKit
set_option maxHeartbeats 1000000
set_option maxRecDepth 20000
def wr (o : Nat) (cs L : List Value) : List Value := L.take o ++ cs ++ L.drop (o + cs.length)
theorem wr_append {o : Nat} {cs X Y : List Value} (h : X.length = o) : wr o cs (X ++ Y) = X ++ cs ++ Y.drop cs.length := by
  unfold wr
  rw [List.take_left' h, List.drop_append, List.drop_eq_nil_of_le (by omega), List.nil_append, h, Nat.add_sub_cancel_left]
theorem rd_at {w : World} {g o : Nat} {cur : Array Value} {e : TypeId} {fr : Nat × Nat} (h : w.heap[g]? = some (.cells cur e fr)) {pr : Nat → Prop} (hp : pr g) {cs : List Value} (hc : ∀ (j : Nat) (v : Value), cs[j]? = some v → cur.toList[o + j]? = some v) : Rd pr w (some ⟨g, o, none⟩) cs := by
  intro j v hj
  refine ⟨_, rfl, hp, ?_⟩
  rw [Addr.add_lit]
  have := hc j v hj
  simp [World.cell?, h] at this ⊢
  exact this
def InsR (A : Option Addr) (c : Nat) (ms ms' : List Mk) (w : World) (e : Ending) (w' : World) : Prop :=
  (∃ A' c', e = .returned (.slice A' (ms.length + 1) c') ∧ Own w' 0 44 3 A' (ms.length + 1) c' (mcells ms') ∧ ∀ g, wblk A' c' = some g → wblk A c = some g ∨ w.heap.size ≤ g) ∧ BelX ⟨w, fun q => wblk A c = some q⟩ w'
theorem insert_calls {A : Option Addr} {c k i gb : Nat} {ms : List Mk} {t : Mk} (hms : ∀ m ∈ ms, m.Ok) (ht : t.Ok) (hi : i ≤ ms.length) (w0 : World) (hown : Own w0 0 44 3 A ms.length c (mcells ms)) (hb : w0.heap[gb]? = some (.cells (flat t.segs).toArray 44 (0, 0))) (hne : wblk A c ≠ some gb) (hn : ms.length < 100000) :
    ∀ ad, Calls Try.prog 29 (SV.dens ad [.v (.slice A ms.length c), .v (.int .i64 i), .v (.slice (some ⟨gb, 0, none⟩) 1 k)]).toArray w0 (InsR A c ms (ms.take i ++ t :: ms.drop i) w0) := by
  intro ad
  refine calls_own tabOK Try.func29 rfl (by kernel_rfl) (w0 := ⟨w0, fun q => wblk A c = some q⟩) (bs := []) (pr := fun g => g < w0.heap.size) (ad := ad) ⟨BelX.refl _, fun b c hb => (by cases hb), fun b c hb => (by cases hb), fun b c hb => (by cases hb), fun b c b' c' hb => (by cases hb), fun b c hb => (by cases hb), Nat.le_refl _, fun g hg => ⟨hg, rfl⟩⟩ (show 3 ≤ 95 by decide) ⟨rfl, rfl, rfl, trivial⟩ ?_
  conv => whnf
  refine ⟨⟨by omega, by omega, fun h => absurd h (by decide)⟩, ?_⟩
  conv => whnf
  refine ⟨fun hc => absurd hc (by decide), fun _ => ?_⟩
  conv => whnf
  have hts : (flat t.segs).length = 3 := segs_len t
  have hlen := mcells_len ms
  have htone : ∀ u ∈ flat t.segs, u.oneCell' = true := fun u hu => mcells_one [t] u (by simpa [mcells] using hu)
  refine ⟨fun hc => ?_, fun hc => ?_⟩
  · conv => whnf
    have hin : i = ms.length := by have := of_decide_eq_true hc; omega
    refine append_rule (base := 0) (e := 44) (size := 3) (bytes := 3) (news := flat t.segs) (by kernel_rfl) (by kernel_rfl) (by decide) hown (fun g hg => ⟨(hown.block hg).2.1, .inr hg⟩) (rd_row hb (Array.getElem?_eq_some_iff.1 hb).1) hts htone (by unfold maxLen; omega) (by omega) (by omega) ?_
    intro A' c' w2 pr2 hown2 hkeep hblk hs2 hprs2
    conv => whnf
    refine ⟨fun ad w hw => ⟨⟨A', c', rfl, ?_, fun g hg => (hblk g hg).2⟩, hw.bel⟩⟩
    have e : mcells (ms.take i ++ t :: ms.drop i) = mcells ms ++ flat t.segs := by
      subst hin
      rw [List.take_length, List.drop_length]
      simp [mcells]
    rw [e]
    exact hown2.world fun g hg => (hw.pl g (hblk g hg).1).2
  · have hin : i < ms.length := by have := of_decide_eq_false hc; omega
    obtain ⟨g, cur, rfl, hg, hnc, hcm, hcs, htake⟩ : ∃ g cur, A = some ⟨g, 0, none⟩ ∧ w0.heap[g]? = some (.cells cur 44 (0, 0)) ∧ ms.length ≤ c ∧ c ≤ maxLen ∧ cur.size = c * 3 ∧ cur.toList.take (ms.length * 3) = mcells ms := by
      rcases hown with ⟨⟨hl, h | ⟨g, cap, cur, h, hbg, hg, hnc, hcm, hcs, htake⟩⟩, hcc⟩ | ⟨h0, _, _⟩
      · omega
      · cases h; exact ⟨g, cur, rfl, hg, hnc, hcm, hcs, htake⟩
      · omega
    have hgx : wblk (some ⟨g, 0, none⟩) c = some g := by simp [wblk]; omega
    have hgb : g ≠ gb := fun e => hne (by rw [hgx, e])
    have hgl : g < w0.heap.size := (Array.getElem?_eq_some_iff.1 hg).1
    have hbl : gb < w0.heap.size := (Array.getElem?_eq_some_iff.1 hb).1
    have cut0 : cutA (some ⟨g, 0, none⟩) c 0 3 = some ⟨g, 0, none⟩ := by rw [cutA_own (by omega)]
    have hcur : cur.toList = mcells (ms.take i) ++ (mcells (ms.drop i) ++ cur.toList.drop (ms.length * 3)) := by
      rw [← List.append_assoc, mcells, mcells, ← List.flatMap_append, List.take_append_drop]
      show _ = mcells ms ++ _
      rw [← htake, List.take_append_drop]
    have hl1 : (mcells (ms.take i)).length = i * 3 := by rw [mcells_len (ms.take i), List.length_take, Nat.min_eq_left hi]
    have hl2 : (mcells (ms.drop i)).length = (ms.length - i) * 3 := by rw [mcells_len (ms.drop i), List.length_drop]
    have hfin : mcells (ms.take i ++ t :: ms.drop i) = mcells (ms.take i) ++ flat t.segs ++ mcells (ms.drop i) := by simp [mcells]
    conv => whnf
    refine ⟨fun hd => ?_, fun hd => ?_⟩
    · conv => whnf
      refine ⟨⟨by omega, by omega, fun _ => by omega⟩, ?_⟩
      conv => whnf
      have hcut : cutA (some ⟨g, 0, none⟩) c (Int.toNat 0) 3 = some ⟨g, 0, none⟩ := cut0
      have E1 : IntKind.i64.wrap ((ms.length : Int) + ((1 : Nat) : Int)) = ((ms.length + 1 : Nat) : Int) := by rw [i64_in (by omega)]; omega
      have hd' : c < ms.length + 1 := by have := of_decide_eq_true hd; rw [E1] at this; omega
      rw [hcut, E1, Int.toNat_natCast, show Int.toNat 0 = 0 from rfl, Nat.sub_zero, Nat.sub_zero]
      refine appendz_rule (e := 44) (size := 3) (bytes := 3) (m := ms.length + 1 - i) (xs := mcells (ms.take i)) (by kernel_rfl) (by kernel_rfl) (by kernel_rfl) (by decide) (by rw [i64_in (by omega)]; omega) hl1 (rd_at hg hgl (fun j v hj => by
        rw [Nat.zero_add, hcur, List.getElem?_append_left (List.getElem?_eq_some_iff.1 hj).1]; exact hj)) (by omega) (by unfold maxLen; omega) (by omega) ?_
      intro g' c' ys w2 pr2 hg2 hle hmax hlen2 hlo2 hkeep2 hpr2 hown2 hs2
      rw [show i + (ms.length + 1 - i) = ms.length + 1 by omega] at hle ⊢
      conv => whnf
      refine ⟨⟨by omega, by omega, fun h => absurd h (by decide)⟩, ?_⟩
      conv => whnf
      have hlo2 : w0.heap.size ≤ g' := hlo2
      rw [Int.toNat_natCast, Int.toNat_natCast, cutA_own (show i ≠ c' by omega)]
      refine copy_rule (e := 44) (size := 3) (bytes := 3) (by kernel_rfl) (by kernel_rfl) hg2 hpr2 hown2 (cs := flat t.segs) (rd_row ((hkeep2 gb hbl).1.trans hb) (hkeep2 gb hbl).2) (by rw [hts]; omega) (by rw [hts, List.size_toArray, hlen2]; omega) htone ?_
      intro w3 hg3 hkeep3 hs3
      conv => whnf
      refine draw_rule tabOK mixed [] [8] pP29_11 [] (by kernel_rfl) (by kernel_rfl) ?_
      conv => whnf
      have E2 : IntKind.i64.wrap ((i : Int) + ((1 : Nat) : Int)) = ((i + 1 : Nat) : Int) := by rw [i64_in (by omega)]; omega
      rw [E2]
      refine ⟨⟨by omega, by omega, fun h => absurd h (by decide)⟩, ?_⟩
      conv => whnf
      refine ⟨⟨by omega, by omega, fun h => absurd h (by decide)⟩, ?_⟩
      conv => whnf
      rw [Int.toNat_natCast, Int.toNat_natCast, Int.toNat_natCast, cutA_own (show i + 1 ≠ c' by omega), cutA_own (show i ≠ c by omega)]
      have e3 : ((mcells (ms.take i) ++ ys).toArray.toList.take (i * 3) ++ flat t.segs ++ (mcells (ms.take i) ++ ys).toArray.toList.drop (i * 3 + (flat t.segs).length)) = (mcells (ms.take i) ++ flat t.segs) ++ ys.drop (flat t.segs).length := wr_append hl1
      rw [e3] at hg3
      have hg0 : w3.heap[g]? = some (.cells cur 44 (0, 0)) := by rw [hkeep3 g (hkeep2 g hgl).2 (by omega), (hkeep2 g hgl).1]; exact hg
      have hlx : (mcells (ms.take i) ++ flat t.segs).length = (i + 1) * 3 := by rw [List.length_append, hl1, hts]; omega
      have hly : ys.length = c' * 3 - i * 3 := by rw [List.length_append, hl1] at hlen2; omega
      refine copy_rule (e := 44) (size := 3) (bytes := 3) (by kernel_rfl) (by kernel_rfl) hg3 hpr2 hown2 (cs := mcells (ms.drop i)) (rd_at hg0 (hkeep2 g hgl).2 (fun j v hj => by
        rw [hcur, List.getElem?_append_right (by omega), hl1, Nat.add_sub_cancel_left, List.getElem?_append_left (List.getElem?_eq_some_iff.1 hj).1]; exact hj)) (by rw [hl2]; congr 1; omega) (by rw [List.size_toArray, List.length_append, List.length_drop, hlx, hts, hl2, hly]; omega) (mcells_one _) ?_
      intro w4 hg4 hkeep4 hs4
      conv => whnf
      have e4 : (((mcells (ms.take i) ++ flat t.segs) ++ ys.drop (flat t.segs).length).toArray.toList.take ((i + 1) * 3) ++ mcells (ms.drop i) ++ ((mcells (ms.take i) ++ flat t.segs) ++ ys.drop (flat t.segs).length).toArray.toList.drop ((i + 1) * 3 + (mcells (ms.drop i)).length)) = (mcells (ms.take i) ++ flat t.segs) ++ mcells (ms.drop i) ++ (ys.drop (flat t.segs).length).drop (mcells (ms.drop i)).length := wr_append hlx
      rw [e4, ← hfin] at hg4
      have hlf : (mcells (ms.take i ++ t :: ms.drop i)).length = (ms.length + 1) * 3 := by rw [hfin, List.length_append, hlx, hl2]; omega
      refine ⟨fun ad w hw => ⟨⟨some ⟨g', 0, none⟩, c', rfl, .inl ⟨⟨hlf, .inr ⟨g', c', _, rfl, Nat.zero_le _, (hw.pl g' hpr2).2.trans hg4, hle, hmax, ?_, ?_⟩⟩, .inr (by omega)⟩, fun q hq => .inr ?_⟩, hw.bel⟩⟩
      · rw [List.size_toArray, List.length_append, hlf, List.length_drop, List.length_drop, hts, hl2, hly]; omega
      · show List.take _ (_ ++ _) = _
        exact List.take_left' hlf
      · simp only [wblk] at hq
        rw [if_neg (by omega)] at hq
        cases hq; exact hlo2
    · conv => whnf
      have E1 : IntKind.i64.wrap ((ms.length : Int) + ((1 : Nat) : Int)) = ((ms.length + 1 : Nat) : Int) := by rw [i64_in (by omega)]; omega
      have hd' : ms.length + 1 ≤ c := by have := of_decide_eq_false hd; rw [E1] at this; omega
      rw [E1]
      refine ⟨⟨by omega, by omega, fun _ => by omega⟩, ?_⟩
      conv => whnf
      have hcut : cutA (some ⟨g, 0, none⟩) c (Int.toNat 0) 3 = some ⟨g, 0, none⟩ := cut0
      have E2 : IntKind.i64.wrap ((i : Int) + ((1 : Nat) : Int)) = ((i + 1 : Nat) : Int) := by rw [i64_in (by omega)]; omega
      rw [hcut, Int.toNat_natCast, show Int.toNat 0 = 0 from rfl, Nat.sub_zero, Nat.sub_zero, E2]
      refine ⟨⟨by omega, by omega, fun h => absurd h (by decide)⟩, ?_⟩
      conv => whnf
      rw [Int.toNat_natCast, Int.toNat_natCast, cutA_own (show i + 1 ≠ c by omega)]
      refine call_now (.lit false) trivial (fun ad w hw => ?_) ?_
      · have h1 : w.heap[gb]? = some (.cells (flat t.segs).toArray 44 (0, 0)) := (hw.pl gb hbl).2.trans hb
        have h2 : w.heap[g]? = some (.cells cur 44 (0, 0)) := (hw.pl g hgl).2.trans hg
        have hx : Sem.run Try.prog (callFunc 45 #[.slice (some ⟨gb, 0, none⟩) 1 k, .slice (some ⟨g, (i + 1) * 3, none⟩) (ms.length + 1 - (i + 1)) (c - (i + 1))]) w = .ok (.value (.bool false)) w := by
          rw [run_callFunc_extern (P := Try.prog) (f := 45) Try.func45 (by kernel_rfl) (by kernel_rfl) (by kernel_rfl) (e := Extern.SlicesOverlaps.overlaps #[35, 35] #[4]) (by kernel_rfl),
            Lib.run_overlaps_apart w 35 4 44 (by kernel_rfl) 3 (fun w => (tabOK 44 ti44 rfl).run_size w) ⟨gb, 0, none⟩ ⟨g, (i + 1) * 3, none⟩ 1 k _ _ (Ne.symm hgb) 44 44 3 (c * 3) (by simp [World.shape?, h1, hts]) (by simp [World.shape?, h2, hcs]) (by omega) (by simp [World.frozen?, h1]) (by simp [World.frozen?, h1])]
          rfl
        exact hx
      conv => whnf
      refine draw_rule tabOK mixed [] [8] pP29_15 [] (by kernel_rfl) (by kernel_rfl) ?_
      conv => whnf
      rw [E2]
      refine ⟨⟨by omega, by omega, fun h => absurd h (by decide)⟩, ?_⟩
      conv => whnf
      refine ⟨⟨by omega, by omega, fun h => absurd h (by decide)⟩, ?_⟩
      conv => whnf
      rw [Int.toNat_natCast, Int.toNat_natCast, Int.toNat_natCast, cutA_own (show i + 1 ≠ c by omega), cutA_own (show i ≠ c by omega)]
      have hcl : cur.toList.length = c * 3 := by rw [Array.length_toList, hcs]
      refine copy_rule (e := 44) (size := 3) (bytes := 3) (by kernel_rfl) (by kernel_rfl) hg hgl (.inr hgx) (cs := mcells (ms.drop i)) (rd_at hg hgl (fun j v hj => by
        rw [hcur, List.getElem?_append_right (by omega), hl1, Nat.add_sub_cancel_left, List.getElem?_append_left (List.getElem?_eq_some_iff.1 hj).1]; exact hj)) (by rw [hl2]; congr 1; omega) (by rw [hcs, hl2]; omega) (mcells_one _) ?_
      intro w3 hg3 hkeep3 hs3
      conv => whnf
      generalize hV : mcells (ms.drop i) ++ cur.toList.drop (ms.length * 3) = V at hcur
      have hVl : V.length = c * 3 - i * 3 := by
        have := congrArg List.length hcur
        rw [List.length_append, hl1, hcl] at this; omega
      have hW : (V.take 3).length = 3 := by rw [List.length_take]; omega
      have hlx : (mcells (ms.take i) ++ V.take 3).length = (i + 1) * 3 := by rw [List.length_append, hl1, hW]; omega
      have e3 : cur.toList.take ((i + 1) * 3) ++ mcells (ms.drop i) ++ cur.toList.drop ((i + 1) * 3 + (mcells (ms.drop i)).length) = mcells (ms.take i) ++ (V.take 3 ++ (mcells (ms.drop i) ++ (V.drop 3).drop (mcells (ms.drop i)).length)) := by
        have h1 : cur.toList = (mcells (ms.take i) ++ V.take 3) ++ V.drop 3 := by rw [List.append_assoc, List.take_append_drop]; exact hcur
        rw [h1]
        refine (wr_append hlx).trans ?_
        simp only [List.append_assoc]
      rw [e3] at hg3
      refine ⟨⟨by omega, by omega, fun h => absurd h (by decide)⟩, ?_⟩
      conv => whnf
      rw [Int.toNat_natCast, Int.toNat_natCast, cutA_own (show i ≠ c by omega)]
      refine copy_rule (e := 44) (size := 3) (bytes := 3) (by kernel_rfl) (by kernel_rfl) hg3 hgl (.inr hgx) (cs := flat t.segs) (rd_row ((hkeep3 gb hbl (Ne.symm hgb)).trans hb) hbl) (by rw [hts]; omega) (by
        rw [List.size_toArray, List.length_append, List.length_append, List.length_append, hl1, hW, hl2, hts]; omega) htone ?_
      intro w4 hg4 hkeep4 hs4
      conv => whnf
      have e4 : (mcells (ms.take i) ++ (V.take 3 ++ (mcells (ms.drop i) ++ (V.drop 3).drop (mcells (ms.drop i)).length))).toArray.toList.take (i * 3) ++ flat t.segs ++ (mcells (ms.take i) ++ (V.take 3 ++ (mcells (ms.drop i) ++ (V.drop 3).drop (mcells (ms.drop i)).length))).toArray.toList.drop (i * 3 + (flat t.segs).length) = mcells (ms.take i) ++ flat t.segs ++ mcells (ms.drop i) ++ (V.drop 3).drop (mcells (ms.drop i)).length := by
        refine (wr_append hl1).trans ?_
        rw [hts, List.drop_left' hW, List.append_assoc, List.append_assoc, List.append_assoc]
      rw [e4, ← hfin] at hg4
      have hlf : (mcells (ms.take i ++ t :: ms.drop i)).length = (ms.length + 1) * 3 := by rw [hfin, List.length_append, List.length_append, hl1, hl2, hts]; omega
      refine ⟨fun ad w hw => ⟨⟨some ⟨g, 0, none⟩, c, rfl, .inl ⟨⟨hlf, .inr ⟨g, c, _, rfl, Nat.zero_le _, (hw.pl g hgl).2.trans hg4, hd', hcm, ?_, ?_⟩⟩, .inr (by omega)⟩, fun q hq => .inl hq⟩, hw.bel⟩⟩
      · rw [List.size_toArray, List.length_append, hlf, List.length_drop, List.length_drop, hl2, hVl]; omega
      · show List.take _ (_ ++ _) = _
        exact List.take_left' hlf
end Go.Proofs.Ytcgkeepihinegaa
