/-
  FlushAny: for every number of members, every list of marks and every place the law returns true: walked, and told as the statement says it.
-/
import Derived.Test.YtcmooifiiakbdaaU
import Derived.Test.YtcmooifiiakbdaaSxO
set_option linter.unusedVariables false
set_option linter.unusedSimpArgs false
namespace Go.Proofs.Ytcmooifiiakbdaa
open Go Go.Sx Go.RowKit
set_option maxHeartbeats 1000000
set_option maxRecDepth 20000
section
variable {n : Nat} {w0 : Base} {kp : Bool} {d : Nat} {ts : List (Nat × SV)} {bs : List (Nat × (List Seg × TypeId))} {ds : List (FuncId × List SV)} {pr : Nat → Prop} {sw : World} {K : St → Prop} {Q : Exit → St → Prop}
/-- Put, and that what it hands back lies in new memory. -/
theorem put_rule2 {M : Int} (h0 : 0 ≤ M) (h1 : M < 65536) {A : Option Addr} {c : Nat} {ms : List Mk} {t : Mk} (hms : ∀ m ∈ ms, m.Ok) (ht : t.Ok) (hrd : Rd pr sw A (mcells ms)) (hn : ms.length < 10000)
    (hk : ∀ A' c' w' pr', (∀ X : Nat → Prop, (∀ q, X q → q < sw.heap.size) → Rd (fun q => pr' q ∧ ¬ X q) w' A' (mcells (putS M ms t).1)) → (∀ q, pr q → pr' q ∧ w'.heap[q]? = sw.heap[q]?) → sw.heap.size ≤ w'.heap.size → K ⟨(d, .tup [flu M A' (putS M ms t).1.length c', .v (.int .i64 (putS M ms t).2)]) :: ts, bs, ds, pr', w'⟩) :
    CallVC Try.prog n w0 kp (some d) 9 [flu M A ms.length c, .agg t.segs] ⟨ts, bs, ds, pr, sw⟩ K Q := by
  refine call_new (fun _ w => PutR M (putS M ms t) w) ent9 (fun ad w hw => put_calls h0 h1 hms ht w (hw.rd hrd) hn ad) ?_
  rintro ad w e w' hw ⟨⟨A', c', rfl, hr⟩, hb⟩
  refine ⟨.tup [flu M A' (putS M ms t).1.length c', .v (.int .i64 (putS M ms t).2)], rfl, ⟨⟨rfl, rfl, trivial⟩, rfl, trivial⟩, hb, fun pr' h2 h3 h4 h5 h6 => hk A' c' w' pr' (fun X hX => ?_) (fun q hq => ⟨h4 q hq, h2 q hq⟩) (Nat.le_trans h3 hb.size)⟩
  intro j v hj
  obtain ⟨a, ha, hpa, hcell⟩ := hr j v hj
  exact ⟨a, ha, ⟨h5 _ hpa.1 hpa.2, fun hx => by have := hX _ hx; have := hpa.1; omega⟩, hcell⟩
end
structure AI where
  k : Nat
  tk : List Mk
  A : Option Addr
  c : Nat
  B : Option Addr
  d : Nat
  pr : Nat → Prop
  sw : World
structure BI where
  k : Nat
  A : Option Addr
  c : Nat
  pr : Nat → Prop
  sw : World
theorem rot_take {l : List Mk} {a k : Nat} (hk : k < l.length) {m : Mk} (hm : l[(k + a) % l.length]? = some m) : (rot l a)[k]? = some m := by rw [rot_at hk, hm]
theorem fits_lt {M : Int} {xs : List Int} (h : fitsB M xs = true) {k : Nat} (hk : k < 16) : xs.getD k 0 < 1000 := by
  have := List.all_eq_true.1 h k (List.mem_range.2 hk)
  simp only [fit1, Bool.not_eq_true', Bool.or_eq_false_iff, decide_eq_false_iff_not] at this
  omega
theorem bump_get {m : Mk} (h : m.Ok) {M : Int} (hf : fitsB M m.past = true) (hw : m.who < 16) (q : Nat) (hq : q < 16) : (bump m).getD q 0 = m.past.getD q 0 + if q = m.who.toNat then 1 else 0 := by
  have hl := fits_lt hf (k := m.who.toNat) (by omega)
  have h0 := (ints_mem h.2.2 (by decide) m.who.toNat).1
  simp only [bump, List.getD_eq_getElem?_getD, List.getElem?_set]
  rw [← List.getD_eq_getElem?_getD]
  by_cases e : m.who.toNat = q
  · subst e
    rw [if_pos rfl, if_pos rfl, if_pos (by rw [h.2.1]; omega)]
    rw [List.getD_eq_getElem?_getD] at hl h0 ⊢
    rw [wU16]
    simp only [Option.getD_some]
    omega
  · rw [if_neg e, if_neg (Ne.symm e), Int.add_zero]
theorem flushAny_calls {M z : Int} (h0 : 0 ≤ M) (h1 : M < 65536) (z0 : 0 ≤ z) (z1 : z < 256) {A : Option Addr} {c : Nat} {l : List Mk} (hl : ∀ m ∈ l, m.Ok) (w0 : World) (hrd : Rd (fun g => g < w0.heap.size) w0 A (mcells l)) :
    ∀ ad, Calls Try.prog 5 (SV.dens ad [.v (.int .u16 M), .v (.slice A l.length c), .v (.int .u8 z)]).toArray w0 (Ret w0 (.bool true)) := by
  obtain ⟨zn, rfl⟩ := Int.eq_ofNat_of_zero_le z0
  refine calls_sound tabOK Try.func5 rfl (by kernel_rfl) (Nat.le_of_ble_eq_true rfl) ⟨rfl, rfl, rfl, trivial⟩ ?_
  conv => whnf
  have hsz : ∀ x ∈ l, (flat x.segs).length = 17 := fun x hx => segs_len (hl x hx)
  have hA : ∀ {k : Nat}, k < l.length → A ≠ none := fun {k} h => hrd.some fun e => by
    have := congrArg List.length e
    rw [mcells_len hl] at this
    simp at this; omega
  refine call_det (.lit true) (show Ent Try.prog 8 by unfold Ent; kernel_rfl) (fun ad w _ => alive_calls w ad) trivial ?_
  conv => whnf
  refine ⟨fun hc => ?_, fun hc => ?_⟩
  · conv => whnf
    exact fin_ret fun ad => rfl
  conv => whnf
  have hn : l.length ≤ 40 := by have := of_decide_eq_false hc; omega
  refine loop_rule tabOK (by kernel_rfl) (fun i : AI => ⟨[(34, .v (.int .i64 i.k)), (33, .v (.int .i64 l.length)), (32, .v (.slice A l.length c)), (9, .v (.slice i.B i.tk.length i.d)), (8, .ptr 8 0), (7, .ptr 7 0), (2, .v (.int .u8 zn))], [(7, ([.one (.int .u16 M), .one (.slice i.A (rowS M l i.k).length i.c)], 34)), (8, ([.one (.int .u16 M), .one (.slice none 0 0)], 34))], [], i.pr, i.sw⟩)
    (fun i => i.k ≤ l.length ∧ Took M (rowS M l i.k) i.tk ∧ i.tk.length ≤ i.k ∧ Rd (fun q => i.pr q ∧ some q ≠ wblk i.B i.d) i.sw i.A (mcells (rowS M l i.k)) ∧ Own i.sw w0.heap.size 39 17 i.B i.tk.length i.d (mcells i.tk) ∧ (∀ g, wblk i.B i.d = some g → i.pr g) ∧ w0.heap.size ≤ i.sw.heap.size ∧ (∀ q, q < w0.heap.size → i.pr q ∧ i.sw.heap[q]? = w0.heap[q]?))
    (fun i => l.length - i.k) ⟨0, [], none, 0, none, 0, _, w0⟩ ⟨Nat.zero_le _, took_start M, Nat.le_refl _, Rd.empty _ _ _, Own.nil _ _ _ _ _, fun g hg => (by cases hg), Nat.le_refl _, fun q hq => ⟨hq, rfl⟩⟩ ⟨⟨rfl, rfl, rfl, rfl, rfl, rfl, rfl, trivial⟩, ⟨rfl, rfl, trivial⟩, rfl, fun _ h => h, rfl⟩ ?_
  intro i ⟨hk, htk, hlen, hra, hob, hpb, hws, hkeep⟩
  obtain ⟨hok, hlenS⟩ := rowS_ok M hl i.k hk
  conv => whnf
  refine ⟨fun hc => ?_, fun hc => ?_⟩
  · conv => whnf
    have hk' : i.k < l.length := by have := of_decide_eq_true hc; omega
    obtain ⟨m, hm⟩ : ∃ m, l[i.k]? = some m := ⟨_, List.getElem?_eq_getElem hk'⟩
    have hmk := hl m (List.mem_of_getElem? hm)
    have hi : (0 : Int) ≤ i.k ∧ (i.k : Int) < l.length ∧ A ≠ none := ⟨by omega, by omega, hA hk'⟩
    have hrl : Rd i.pr i.sw A (mcells l) := hrd.world (fun q hq => (hkeep q hq).2) (fun q hq => (hkeep q hq).1)
    refine ⟨hi, ?_⟩
    conv => whnf
    refine xload_row tabOK (t := 30) rfl Mk.segs hrl hsz ⟨rfl, hmk.2.1, trivial⟩ hm (i := i.k) (o := 0) (by rw [Int.toNat_natCast]; rfl) (by decide) ?_
    conv => whnf
    refine put_rule2 h0 h1 hok hmk (hra.map fun q hq _ => ⟨rfl, hq.1⟩) (by omega) fun A1 c1 w1 pr1 hr1 hk1 hs1 => ?_
    have hr1 := hr1 (fun q => wblk i.B i.d = some q) (fun q hq => (hob.block hq).2.1)
    have hob1 : Own w1 w0.heap.size 39 17 i.B i.tk.length i.d (mcells i.tk) := hob.world fun g hg => (hk1 g (hpb g hg)).2
    have hpb1 : ∀ g, wblk i.B i.d = some g → pr1 g := fun g hg => (hk1 g (hpb g hg)).1
    have hkeep1 : ∀ q, q < w0.heap.size → pr1 q ∧ w1.heap[q]? = w0.heap[q]? := fun q hq => by
      obtain ⟨p, e⟩ := hkeep q hq
      exact ⟨(hk1 q p).1, (hk1 q p).2.trans e⟩
    have hput : (putS M (rowS M l i.k) m).1 = rowS M l (i.k + 1) := (rowS_succ hm).symm
    conv => whnf
    refine ⟨fun he => ?_, fun he => ?_⟩
    · conv => whnf
      intro w2 g2 pr2 hg2 hlo2 hsame2 hs2 hsub2 hprg2 hprs2
      conv => whnf
      refine append_rule (base := w0.heap.size) (e := 39) (size := 17) (bytes := 34) (news := flat m.segs) (by kernel_rfl) (by kernel_rfl) (by decide) (hob1.world fun g hg => hsame2 g (hpb1 g hg)) (fun g hg => ⟨hsub2 g (hpb1 g hg), .inl (hob1.block hg).1⟩) (rd_row hg2 hprg2) (segs_len hmk) (fun u hu => mcells_one [m] u (by simpa [mcells] using hu)) (by unfold maxLen; omega) (by omega) (by omega) ?_
      intro B3 d3 w3 pr3 hown3 hkeep3 hblk3 hs3 hprs3
      conv => whnf
      refine ⟨⟨i.k + 1, i.tk ++ [m], A1, c1, B3, d3, pr3, w3⟩, ⟨hk', ?_, ?_, ?_, ?_, fun g hg => (hblk3 g hg).1, by show w0.heap.size ≤ w3.heap.size; omega, fun q hq => ?_⟩, by show l.length - (i.k + 1) < l.length - i.k; omega, ⟨i64_step (m := 100) (by omega) (by omega), rfl, rfl, ?_, rfl, rfl, rfl, trivial⟩, ⟨?_, rfl, trivial⟩, rfl, fun _ h => h, rfl⟩
      · show Took M (rowS M l (i.k + 1)) _
        rw [← hput]; exact took_put hmk htk (of_decide_eq_true he)
      · show (i.tk ++ [m]).length ≤ i.k + 1
        rw [List.length_append]; simp; omega
      · show Rd (fun q => pr3 q ∧ some q ≠ wblk B3 d3) w3 A1 (mcells (rowS M l (i.k + 1)))
        rw [← hput]
        refine hr1.map fun q hq hlt => ?_
        have hne : some q ≠ wblk i.B i.d := fun e => hq.2 e.symm
        have h3 := hkeep3 q (hsub2 q hq.1) hne
        refine ⟨h3.1.trans (hsame2 q hq.1), h3.2, fun e => ?_⟩
        rcases (hblk3 q e.symm).2 with h | h
        · exact hne h.symm
        · omega
      · show Own w3 _ 39 17 B3 (i.tk ++ [m]).length d3 (mcells (i.tk ++ [m]))
        rw [mcells_snoc, List.length_append]; exact hown3
      · obtain ⟨p, e⟩ := hkeep1 q hq
        have h3 := hkeep3 q (hsub2 q p) (fun h => by have := (hob1.block h.symm).1; omega)
        exact ⟨h3.2, h3.1.trans ((hsame2 q p).trans e)⟩
      · show _ = (SV.v (Value.slice B3 (i.tk ++ [m]).length d3)).norm
        rw [List.length_append]; rfl
      · show _ = ([Seg.one (.int .u16 M), Seg.one (.slice A1 (rowS M l (i.k + 1)).length c1)], 34)
        rw [← hput]
    · conv => whnf
      refine ⟨⟨i.k + 1, i.tk, A1, c1, i.B, i.d, pr1, w1⟩, ⟨hk', ?_, by show i.tk.length ≤ i.k + 1; omega, ?_, hob1, hpb1, by show w0.heap.size ≤ w1.heap.size; omega, hkeep1⟩, by show l.length - (i.k + 1) < l.length - i.k; omega, ⟨i64_step (m := 100) (by omega) (by omega), rfl, rfl, rfl, rfl, rfl, rfl, trivial⟩, ⟨?_, rfl, trivial⟩, rfl, fun _ h => h, rfl⟩
      · show Took M (rowS M l (i.k + 1)) _
        rw [← hput]; exact took_not htk (of_decide_eq_false he)
      · show Rd (fun q => pr1 q ∧ some q ≠ wblk i.B i.d) w1 A1 (mcells (rowS M l (i.k + 1)))
        rw [← hput]
        exact hr1.map fun q hq _ => ⟨rfl, hq.1, fun e => hq.2 e.symm⟩
      · show _ = ([Seg.one (.int .u16 M), Seg.one (.slice A1 (rowS M l (i.k + 1)).length c1)], 34)
        rw [← hput]
  conv => whnf
  have hke : i.k = l.length := by have := of_decide_eq_false hc; omega
  rw [hke] at htk hlen hra hok hlenS ⊢
  clear hke hc hk
  generalize hS : rowS M l l.length = S at *
  obtain ⟨_, tk, A1, c1, B, d, pr1, w1⟩ := i
  simp only at htk hlen hra hob hpb hws hkeep ⊢
  have htl : tk.length ≤ 40 := by omega
  have hM0 : ∀ {k : Nat}, k < tk.length → M ≠ 0 := fun {k} hk => by
    rcases htk.right with h | ⟨_, h⟩
    · exact (right_iff.1 h).2.2
    · have := List.getElem_mem hk
      rw [← htk.mem, h] at this; cases this
  have htok := htk.ok
  have hszt : ∀ x ∈ tk, (flat x.segs).length = 17 := fun x hx => segs_len (htok x hx)
  have hrdt : Rd (fun q => wblk B d = some q) w1 B (mcells tk) := hob.rd fun g hg => hg
  have hB : ∀ {k : Nat}, k < tk.length → B ≠ none := fun {k} h => hrdt.some fun e => by
    have := congrArg List.length e
    rw [mcells_len htok] at this
    simp at this; omega
  have hrdt : Rd pr1 w1 B (mcells tk) := Rd.weak hrdt hpb
  have hra : Rd pr1 w1 A1 (mcells S) := Rd.weak hra fun q hq => hq.1
  have hrok : ∀ m ∈ rot tk zn, m.Ok := fun m hm => htok m ((rot_mem _ _ _).1 hm)
  have hpuk : ∀ k, k ≤ tk.length → (∀ m ∈ putsS M ((rot tk zn).take k) [], m.Ok) ∧ (putsS M ((rot tk zn).take k) []).length ≤ k := fun k hk => rowS_ok M hrok k (by rw [rot_len]; exact hk)
  refine loop_rule tabOK (by kernel_rfl) (fun i : BI => ⟨[(54, .v (.int .i64 i.k)), (53, .v (.int .i64 tk.length)), (9, .v (.slice B tk.length d)), (8, .ptr 8 0), (7, .ptr 7 0), (2, .v (.int .u8 zn))], [(7, ([.one (.int .u16 M), .one (.slice A1 S.length c1)], 34)), (8, ([.one (.int .u16 M), .one (.slice i.A (putsS M ((rot tk zn).take i.k) []).length i.c)], 34))], [], i.pr, i.sw⟩)
    (fun i => i.k ≤ tk.length ∧ Rd i.pr i.sw A1 (mcells S) ∧ Rd i.pr i.sw B (mcells tk) ∧ Rd i.pr i.sw i.A (mcells (putsS M ((rot tk zn).take i.k) [])))
    (fun i => tk.length - i.k) ⟨0, none, 0, pr1, w1⟩ ⟨Nat.zero_le _, hra, hrdt, Rd.empty _ _ _⟩ ⟨⟨rfl, rfl, rfl, rfl, rfl, rfl, trivial⟩, ⟨rfl, rfl, trivial⟩, rfl, fun _ h => h, rfl⟩ ?_
  clear hra hrdt
  intro i ⟨hk, hra, hrt, hrb⟩
  obtain ⟨hbok, hblen⟩ := hpuk i.k hk
  conv => whnf
  refine ⟨fun hc => ?_, fun hc => ?_⟩
  · conv => whnf
    have hk' : i.k < tk.length := by have := of_decide_eq_true hc; omega
    have hM := hM0 hk'
    refine draw_rule tabOK mixed [15] [16, 17] pP5_18 [15] (by kernel_rfl) (by kernel_rfl) ?_
    conv => whnf
    refine ⟨by omega, ?_⟩
    conv => whnf
    have E : IntKind.i64.wrap ((i.k : Int) + IntKind.i64.wrap (zn : Int)) = ((i.k + zn : Nat) : Int) := by
      rw [i64_in (k := (zn : Int)) (by omega), i64_in (by omega)]; omega
    rw [E, Int.tmod_eq_emod_of_nonneg (by omega), ← Int.natCast_emod]
    have hjl : (i.k + zn) % tk.length < tk.length := Nat.mod_lt _ (by omega)
    generalize hj : (i.k + zn) % tk.length = j at hjl ⊢
    obtain ⟨m, hm⟩ : ∃ m, tk[j]? = some m := ⟨_, List.getElem?_eq_getElem hjl⟩
    have hmk := htok m (List.mem_of_getElem? hm)
    have hmr : (rot tk zn)[i.k]? = some m := by rw [rot_at hk', hj, hm]
    obtain ⟨g1, g2⟩ := good_next hM (rot_good htk.good zn) hmr
    have hi : (0 : Int) ≤ j ∧ (j : Int) < tk.length ∧ B ≠ none := ⟨by omega, by omega, hB hk'⟩
    refine ⟨hi, ?_⟩
    conv => whnf
    refine xload_row tabOK (t := 39) rfl Mk.segs hrt hszt ⟨rfl, hmk.2.1, trivial⟩ hm (i := j) (o := 0) (by rw [Int.toNat_natCast]; rfl) (by decide) ?_
    conv => whnf
    refine put_rule h0 h1 hbok hmk hrb (by omega) fun A2 c2 w2 pr2 hr2 hk2 => ?_
    rw [g1, g2]
    rw [g2] at hr2
    have hra2 := Rd.keep hra hk2
    have hrt2 := Rd.keep hrt hk2
    conv => whnf
    refine ⟨fun h => absurd h (by decide), fun _ => ?_⟩
    conv => whnf
    exact ⟨⟨i.k + 1, A2, c2, pr2, w2⟩, ⟨hk', hra2, hrt2, hr2⟩, by show tk.length - (i.k + 1) < tk.length - i.k; omega, ⟨i64_step (m := 100) (by omega) (by omega), rfl, rfl, rfl, rfl, rfl, trivial⟩, ⟨rfl, rfl, trivial⟩, rfl, fun _ h => h, rfl⟩
  conv => whnf
  have hke : i.k = tk.length := by have := of_decide_eq_false hc; omega
  have hsame : putsS M ((rot tk zn).take i.k) [] = S := by
    rw [hke, List.take_of_length_le (by rw [rot_len]; omega)]
    rcases Nat.eq_zero_or_pos tk.length with h | h
    · have h3 : tk = [] := List.eq_nil_of_length_eq_zero h
      have h4 : S = [] := by
        cases hS' : S with
        | nil => rfl
        | cons x r => have := (htk.mem x).1 (by rw [hS']; simp); rw [h3] at this; cases this
      rw [h3, h4]; simp [rot, putsS]
    · exact rot_same (hM0 h) htk zn
  rw [hsame] at hrb ⊢
  clear hsame hke hc hk hbok hblen hpuk
  obtain ⟨_, A2, c2, pr2, w2⟩ := i
  simp only at hra hrt hrb ⊢
  have hSl : S.length ≤ 40 := by omega
  refine call_det (.tup [vec (tgtV M S), .v (.bool (tgtB M S))]) ent12 (fun ad w hw => target_calls h0 h1 hok w (hw.rd hra) (by omega) ad) ⟨⟨tgtV_len hok, trivial⟩, rfl, trivial⟩ ?_
  conv => whnf
  refine call_det (.tup [vec (tgtV M S), .v (.bool (tgtB M S))]) ent12 (fun ad w hw => target_calls h0 h1 hok w (hw.rd hrb) (by omega) ad) ⟨⟨tgtV_len hok, trivial⟩, rfl, trivial⟩ ?_
  conv => whnf
  refine draw_rule tabOK mixed [] [] pP5_25 [] (by kernel_rfl) (by kernel_rfl) ?_
  conv => whnf
  refine ⟨fun h => absurd h (by simp), fun _ => ?_⟩
  conv => whnf
  refine eq_arr (e := 22) (n := 16) (k := .u16) (by kernel_rfl) (tgtV_len hok) (tgtV_len hok) ?_
  conv => whnf
  refine ⟨fun h => absurd h (by simp), fun _ => ?_⟩
  conv => whnf
  refine told_rule ent15 (fun w hw => ours_calls hok w hw (by omega)) hra fun A3 c3 w3 pr3 hr3 hk3 => ?_
  have hra3 := Rd.keep hra hk3
  have hrb3 := Rd.keep hrb hk3
  have hrt3 := Rd.keep hrt hk3
  conv => whnf
  refine told_rule ent15 (fun w hw => ours_calls hok w hw (by omega)) hrb3 fun A4 c4 w4 pr4 hr4 hk4 => ?_
  have hra4 := Rd.keep hra3 hk4
  have hr34 := Rd.keep hr3 hk4
  have hrt4 := Rd.keep hrt3 hk4
  conv => whnf
  refine call_det (.lit true) ent14 (fun ad w hw => same_calls hok w (hw.rd hr34) (hw.rd hr4) (by omega) ad) trivial ?_
  conv => whnf
  refine loop_rule tabOK (by kernel_rfl) (fun k : Nat => ⟨[(104, .v (.int .i64 k)), (103, .v (.int .i64 tk.length)), (102, .v (.slice B tk.length d)), (18, .v (.bool (tgtB M S))), (17, .ptr 17 0), (7, .ptr 7 0)], [(17, ([.ints .u16 16 (tgtV M S)], 28)), (7, ([.one (.int .u16 M), .one (.slice A1 S.length c1)], 34))], [], pr4, w4⟩)
    (fun k => k ≤ tk.length) (fun k => tk.length - k) 0 (Nat.zero_le _) ⟨⟨rfl, rfl, rfl, rfl, rfl, rfl, trivial⟩, ⟨rfl, rfl, trivial⟩, rfl, fun _ h => h, rfl⟩ ?_
  intro k hk
  conv => whnf
  refine ⟨fun hc => ?_, fun hc => ?_⟩
  · conv => whnf
    have hk' : k < tk.length := by have := of_decide_eq_true hc; omega
    obtain ⟨m, hm⟩ : ∃ m, tk[k]? = some m := ⟨_, List.getElem?_eq_getElem hk'⟩
    have hmk := htok m (List.mem_of_getElem? hm)
    have hi : (0 : Int) ≤ k ∧ (k : Int) < tk.length ∧ B ≠ none := ⟨by omega, by omega, hB hk'⟩
    refine ⟨hi, ?_⟩
    conv => whnf
    refine xload_row tabOK (t := 39) rfl Mk.segs hrt4 hszt ⟨rfl, hmk.2.1, trivial⟩ hm (i := k) (o := 0) (by rw [Int.toNat_natCast]; rfl) (by decide) ?_
    conv => whnf
    refine draw_rule tabOK mixed [] [] pP5_30 [] (by kernel_rfl) (by kernel_rfl) ?_
    conv => whnf
    have back : ∀ (x : Nat), x = k + 1 → (fun k => k ≤ tk.length) x := fun x hx => by show x ≤ tk.length; omega
    refine ⟨fun ht => ?_, fun ht => ?_⟩
    · conv => whnf
      have hge : ∀ q : Nat, q < 16 → (bump m).getD q 0 ≤ (tgtV M S).getD q 0 := fun q hq => by
        have := (fold_ge (v := zeros) (by simp [zeros]) hok hq).2 m ((htk.mem m).2 (List.mem_of_getElem? hm))
        simp only [tgtV, ht, if_true]
        exact this
      obtain ⟨hrS, _⟩ := Bool.and_eq_true_iff.1 ht
      have hgm := (right_iff.1 hrS).1 m ((htk.mem m).2 (List.mem_of_getElem? hm))
      have hw0 := hmk.1.1
      have hw : m.who < 16 := who_lt hrS ((htk.mem m).2 (List.mem_of_getElem? hm))
      have hle : ∀ q : Nat, q < 16 → m.past.getD q 0 ≤ (tgtV M S).getD q 0 := fun q hq => by
        have := hge q hq
        rw [bump_get hmk hgm.2 hw q hq] at this
        split at this <;> omega
      have hlt : m.past.getD m.who.toNat 0 < (tgtV M S).getD m.who.toNat 0 := by
        have := hge m.who.toNat (by omega)
        rw [bump_get hmk hgm.2 hw _ (by omega), if_pos rfl] at this
        omega
      refine call_det (.lit true) (show Ent Try.prog 18 by unfold Ent; kernel_rfl) (fun ad w hw => below_calls hmk.2.1 (tgtV_len hok) hle w ad) trivial ?_
      conv => whnf
      refine ⟨by decide, ?_⟩
      conv => whnf
      have hrem : m.who.tmod 16 = m.who := by rw [Int.tmod_eq_emod_of_nonneg hw0]; omega
      rw [hrem]
      refine ⟨⟨by omega, by omega⟩, ?_⟩
      conv => whnf
      refine ⟨by decide, ?_⟩
      conv => whnf
      rw [hrem]
      refine ⟨⟨by omega, by omega⟩, ?_⟩
      conv => whnf
      refine ⟨fun h => absurd (of_decide_eq_true h) (by omega), fun _ => ?_⟩
      conv => whnf
      exact ⟨k + 1, back _ rfl, by omega, ⟨i64_step (m := 100) (by omega) (by omega), rfl, rfl, rfl, rfl, rfl, trivial⟩, ⟨rfl, rfl, trivial⟩, rfl, fun _ h => h, rfl⟩
    · conv => whnf
      exact ⟨k + 1, back _ rfl, by omega, ⟨i64_step (m := 100) (by omega) (by omega), rfl, rfl, rfl, rfl, rfl, trivial⟩, ⟨rfl, rfl, trivial⟩, rfl, fun _ h => h, rfl⟩
  conv => whnf
  refine ⟨fun ht => ?_, fun ht => ?_⟩
  · conv => whnf
    refine ⟨fun h => absurd h (by simpa using ht), fun _ => ?_⟩
    conv => whnf
    have ht : tgtB M S = false := by simpa using ht
    refine eq_arr (e := 22) (n := 16) (k := .u16) (by kernel_rfl) (tgtV_len hok) (by simp) ?_
    conv => whnf
    have hz : tgtV M S = zeros := by simp [tgtV, ht]
    refine fin_ret fun ad => ?_
    simp [hz, retV, SV.dens, SV.den, zeros]
  · conv => whnf
    have ht : tgtB M S = true := by simpa using ht
    refine call_det (.v (.bool (overB M S (tgtV M S)))) ent16 (fun ad w hw => over_calls h0 h1 hok (tgtV_len hok) w (hw.rd hra4) (by omega) ad) rfl ?_
    conv => whnf
    refine ⟨fun _ => ?_, fun h => absurd h (by simp [overB, ht])⟩
    conv => whnf
    refine ⟨fun _ => ?_, fun h => absurd h (by simp [ht])⟩
    conv => whnf
    exact fin_ret fun ad => rfl
section
open Go.ChangeShapes Go.WideShapes Go.ChangeAt
namespace flushAny
set_option maxRecDepth 100000 in
theorem lifted (os : Os) (started : os.Started) (H : Type) (enc : TypeId × Value → H) :
    ReturnsInHanded {} Try.checked os 5 .any (Rows.flushAnySpec.pre6 enc Try.prog Try.f5 Rows.flushAnyRow.domain false) (Rows.flushAnySpec.post enc Try.prog Try.f5 false true false false) := by
  refine returnsInHanded_of_change_sized (C := Try.checked) own started (by kernel_rfl) Try.func5
    (ChangeSpec.witness6 (enc := enc) (C := Try.checked) false ⟨#[], #[.int .u16 0, .slice none 0 0, .int .u8 0], []⟩ 8 (by kernel_rfl) (by kernel_rfl) (by kernel_rfl) (by kernel_rfl)) ?_
  intro W base args ds gs before hval0 hW hcnd hsz0 _
  have hval : ∀ (j : Nat) t v, Try.f5.params[j]? = some t → args[j]? = some v → Value.okWide Try.prog W .any base t v := hval0
  have hW' := hW
  obtain ⟨p, q, hA0, hV, rfl, hfz, hnd⟩ := hW
  have hA : DataW.TrodAll enc Try.prog W 0 (fun _ => true) true Try.f5.params.toList args.toList ds p := hA0
  rw [Try.params5] at hA hval
  obtain ⟨v0, vs0, d0, ds0, p0, q0, hargs, rfl, rfl, h0, r0⟩ := trodAll_cons hA
  obtain ⟨v1, vs1, d1, ds1, p1, q1, rfl, rfl, rfl, h1, r1⟩ := trodAll_cons r0
  obtain ⟨v2, vs2, d2, ds2, p2, q2, rfl, rfl, rfl, h2, r2⟩ := trodAll_cons r1
  obtain ⟨rfl, rfl, rfl⟩ := trodAll_nil r2
  obtain rfl : args = #[v0, v1, v2] := by cases args; simp_all
  obtain ⟨rfl, rfl⟩ := trodVars_none hV
  have k0 := h0
  have lt0 : ∀ x ∈ p0, x.block < W.heap.size := by obtain ⟨m, hm⟩ := k0; exact DataW.trod_lt m _ _ _ hm
  have k1 := h1
  have lt1 : ∀ x ∈ p1, x.block < W.heap.size := by obtain ⟨m, hm⟩ := k1; exact DataW.trod_lt m _ _ _ hm
  have k2 := h2
  have lt2 : ∀ x ∈ p2, x.block < W.heap.size := by obtain ⟨m, hm⟩ := k2; exact DataW.trod_lt m _ _ _ hm
  obtain ⟨z0, rfl, a0, b0⟩ := u16_arg (hval 0 23 v0 rfl rfl) h0
  obtain ⟨A1, c1, ms1, rfl, hms1, hrd1⟩ := marks_arg (hval 1 24 v1 rfl rfl) h1
  obtain ⟨z2, rfl, a2, b2⟩ := u8_arg (hval 2 5 v2 rfl rfl) h2
  clear hA0 hval0 hsz0
  refine (flushAny_calls a0 b0 a2 b2 hms1 W hrd1 id).mono fun e W' ⟨he, bel⟩ => ?_
  subst he
  exact ⟨_, rfl, _, _, _, [], _, [], hW', trodAll_mk1 (shut_bool Try.underlying4 _), (trodAll_cons_mk (Below.trod laidOut (by kernel_rfl) (of_decide_eq_true (by kernel_rfl)) k0 bel lt0) (trodAll_cons_mk (Below.trod laidOut (by kernel_rfl) (of_decide_eq_true (by kernel_rfl)) k1 bel lt1) (trodAll_cons_mk (Below.trod laidOut (by kernel_rfl) (of_decide_eq_true (by kernel_rfl)) k2 bel lt2) trodAll_mk0))), rfl, bel.frame _, fun h => by cases h⟩
theorem over : Rows.flushAnyRow.holds Try.pinned (OpenSpec.ofChange Rows.flushAnySpec) :=
  OpenClaim.holds_of_wide 5 Try.f5 rfl rfl rfl rfl rfl rfl rfl ⟨rfl, rfl, rfl, rfl, rfl⟩ rfl rfl rfl rfl rfl (by kernel_rfl) Try.func5 (by kernel_rfl)
    (of_decide_eq_true (by kernel_rfl)) (by unfold Func.isWrapper; first | (rw [if_pos (by decide +kernel)]; kernel_rfl) | (rw [if_neg (by decide +kernel)]; exact ⟨rfl, rfl⟩))
    (fun os started H enc _ => lifted os started H enc)
end flushAny
theorem flushAny_holds : Rows.FlushAnySaid := flushAny.over
#print axioms flushAny_holds
end
end Go.Proofs.Ytcmooifiiakbdaa
