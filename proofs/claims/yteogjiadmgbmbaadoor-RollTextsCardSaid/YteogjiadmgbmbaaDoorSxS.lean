/-
  The rules of the symbolic machine: interfaces that are made, and compared with nil; the bytes of a string.
-/
import Derived.Test.YteogjiadmgbmbaaDoorSxP
import Derived.Lib.ConvBytes
set_option linter.unusedVariables false
set_option linter.unusedSimpArgs false
namespace Go.Sx
open Go Go.RowKit
variable {P : Program} {T : Tab}
section
variable {n : Nat} {w0 : Base} {kp : Bool} {d : Nat} {o : Oper} {ts : List (Nat × SV)} {bs : List (Nat × (List Seg × TypeId))} {ds : List (FuncId × List SV)} {pr : Nat → Prop} {sw : World} {K : St → Prop} {Q : Exit → St → Prop}
def isNilI : Value → Bool
  | .nilIface => true
  | _ => false
/-- An operation of a value that leaves the world alone. -/
theorem raw_val (x : SV) (hx : x.Ok) (hdst : o.dst = some d) (hd : d < n) (hrun : ∀ ad a w, Inv n w0 ad ⟨ts, bs, ds, pr, sw⟩ a w → (execOp a.eval o).run P w = .ok (.value (x.den ad)) w) (hk : K ⟨(d, x) :: ts, bs, ds, pr, sw⟩) : RawVC P n w0 kp o ⟨ts, bs, ds, pr, sw⟩ K Q := by
  refine ⟨fun ad a w hI next Q' hn hp => ?_⟩
  unfold Oper.wp
  rw [hrun ad a w hI, Oper.upon_value, hdst]
  refine hn _ _ _ (hI.put (some d) x (fun t ht => by cases ht; exact hd) hx) ?_ (fun _ => Kp.put ⟨ts, bs, ds, pr, sw⟩ ad (some d) w x) hk
  rw [hdst]
  exact Fr.put ⟨ts, bs, ds, pr, sw⟩ ad (some d) a w x (x.den ad)
theorem ev_tmp {ad : Nat → Nat} {a : Act} {w : World} (hI : Inv n w0 ad ⟨ts, bs, ds, pr, sw⟩ a w) {r : Nat} {x : SV} (h : lk r ts = some x) : a.eval (.tmp r) = x.den ad := (hI.tm r x h).1
theorem run_nil_cmp {t : TypeId} {ms : Array (String × TypeId)} (hu : P.underlying t = some (.interface ms)) {v : Value} (hv : v = .nilIface ∨ ∃ u x, v = .iface u x) (op : BinOp) (hop : op = .eql ∨ op = .neq) (x : Operand) (w : World) :
    (do eqGuard op t x (.const .nilIface) v .nilIface; binOp op t v .nilIface).run P w = .ok (.bool (if op = .eql then isNilI v else !isNilI v)) w := by
  have he : (Op.equal t v .nilIface).run P w = .ok (isNilI v) w := by
    unfold Op.equal
    rw [show Op.maxDepth = 9999 + 1 from rfl, Op.equalIn]
    rcases hv with rfl | ⟨u, y, rfl⟩ <;> simp [run_underlying hu, isNilI]
  have hg : (eqGuard op t x (.const .nilIface) v .nilIface).run P w = .ok () w := by
    rcases hv with rfl | ⟨u, y, rfl⟩ <;> rcases hop with rfl | rfl <;> simp [eqGuard]
  rw [Sem.run_bind, hg]
  simp only [Result.andThen_ok]
  rcases hv with rfl | ⟨u, y, rfl⟩ <;> rcases hop with rfl | rfl <;> simp [binOp, he, isNilI]
/-- A comparison of an interface with nil. -/
theorem raw_nil {bop : BinOp} {t rt : TypeId} {r : Nat} {v : Value} {ms : Array (String × TypeId)} (ho : o.op = .binOp bop t (.tmp r) (.const .nilIface) rt) (hdst : o.dst = some d) (hd : d < n) (hv : lk r ts = some (.v v)) (hu : P.underlying t = some (.interface ms)) (hi : v = .nilIface ∨ ∃ u x, v = .iface u x) (hop : bop = .eql ∨ bop = .neq)
    (hk : K ⟨(d, .v (.bool (if bop = .eql then isNilI v else !isNilI v))) :: ts, bs, ds, pr, sw⟩) : RawVC P n w0 kp o ⟨ts, bs, ds, pr, sw⟩ K Q := by
  refine raw_val (.v (.bool (if bop = .eql then isNilI v else !isNilI v))) rfl hdst hd (fun ad a w hI => ?_) hk
  have h1 := ev_tmp hI hv
  have h2 := run_nil_cmp (P := P) hu hi bop hop (.tmp r) w
  simp only [SV.den] at h1
  have h3 : a.eval (.const .nilIface) = .nilIface := rfl
  simp only [execOp, ho, h1, h3, Sem.run_bind] at h2 ⊢
  rw [h2]; rfl
/-- An interface made of a value. -/
theorem raw_iface {xt : TypeId} {x : Operand} {v : Value} {u : TypeDesc} (ho : o.op = .makeInterface xt x) (hdst : o.dst = some d) (hd : d < n) (hx : x = .const v ∨ ∃ r, x = .tmp r ∧ lk r ts = some (.v v)) (hu : P.underlying xt = some u) (hni : ∀ ms, u ≠ .interface ms)
    (hk : K ⟨(d, .v (.iface xt v)) :: ts, bs, ds, pr, sw⟩) : RawVC P n w0 kp o ⟨ts, bs, ds, pr, sw⟩ K Q := by
  refine raw_val (.v (.iface xt v)) rfl hdst hd (fun ad a w hI => ?_) hk
  have hev : a.eval x = v := by
    rcases hx with rfl | ⟨r, rfl, hr⟩
    · rfl
    · exact ev_tmp hI hr
  simp only [execOp, ho, hev, Instr.makeInterface, Sem.run_bind, run_underlying hu, Result.andThen_ok, SV.den]
  cases u <;> first | rfl | exact absurd rfl (hni _)
def byteSeg (b : UInt8) : List Seg := [.one (.int .u8 b.toNat)]
/-- The bytes of a string, in a row of their own. -/
theorem raw_bytes {src dst e : TypeId} {r : Nat} {s : ByteArray} {u : TypeDesc} (ho : o.op = .convert src dst (.tmp r)) (hdst : o.dst = some d) (hd : d < n) (hs : lk r ts = some (.v (.string s))) (hsrc : P.underlying src = some u) (hdt : P.underlying dst = some (.slice e)) (he : P.underlying e = some (.int .u8))
    (hk : ∀ g c w' pr', Rd pr' w' (some ⟨g, 0, none⟩) (s.data.toList.flatMap fun b => flat (byteSeg b)) → (∀ q, pr q → pr' q ∧ w'.heap[q]? = sw.heap[q]?) → sw.heap.size ≤ w'.heap.size → sw.heap.size ≤ g → K ⟨(d, .v (.slice (some ⟨g, 0, none⟩) s.size c)) :: ts, bs, ds, pr', w'⟩) : RawVC P n w0 kp o ⟨ts, bs, ds, pr, sw⟩ K Q := by
  refine ⟨fun ad a w hI next Q' hn hp => ?_⟩
  have hev : a.eval (.tmp r) = .string s := ev_tmp hI hs
  have hrun := Lib.run_convert_string_bytes (P := P) w src dst e s hsrc hdt he
  have hx : (execOp a.eval o).run P w = .ok (.value (.slice (some ⟨w.heap.size, 0, none⟩) s.size (grownCap w s.size 0 e))) (Lib.bytesWorld w e s) := by
    simp only [execOp, ho, hev, Sem.run_bind, hrun, Result.andThen_ok, Sem.run_pure]
  unfold Oper.wp
  rw [hx, Oper.upon_value, hdst]
  have hsz := Lib.bytesWorld_size w e s
  have hold := Lib.bytesWorld_at_old w e s
  have hb : Below w.heap.size w (Lib.bytesWorld w e s) := ⟨rfl, rfl, rfl, by omega, fun k hk => hold k hk⟩
  have hsn : sw.heap.size ≤ w.heap.size := hI.wi.sn
  have hpl : ∀ g, pr g → g < sw.heap.size ∧ w.heap[g]? = sw.heap[g]? := hI.wi.pl
  have hk := hk w.heap.size (grownCap w s.size 0 e) (Lib.bytesWorld w e s) (fun q => pr q ∨ q = w.heap.size) (fun j v hj => by
      have hlen : (s.data.toList.flatMap fun b => flat (byteSeg b)) = s.data.toList.map fun b => Value.int .u8 b.toNat := by
        simp [byteSeg, flat, Seg.cells, List.flatMap_singleton']
        induction s.data.toList with
        | nil => rfl
        | cons x r ih => simp [ih]
      rw [hlen] at hj
      have hj1 := (List.getElem?_eq_some_iff.1 hj).1
      rw [List.length_map] at hj1
      refine ⟨_, rfl, .inr rfl, ?_⟩
      rw [Addr.add_lit]
      have := Lib.bytesWorld_cell w e s j (by simpa using hj1)
      rw [Nat.zero_add, this]
      rw [List.getElem?_map, List.getElem?_eq_getElem hj1] at hj
      simp only [Option.map_some, Option.some.injEq] at hj
      rw [← hj, List.getD_eq_getElem?_getD, List.getElem?_eq_getElem hj1]; rfl) (fun q hq => ⟨.inl hq, by
      have := hpl q hq
      rw [hold q (by omega)]; exact this.2⟩) (by omega) hsn
  have hw := hI.wi.anew hb (fun q => pr q ∨ q = w.heap.size) (fun q hq => hq.imp id (fun h => by omega))
  have hI' : Inv n w0 ad ⟨ts, bs, ds, fun q => pr q ∨ q = w.heap.size, Lib.bytesWorld w e s⟩ a (Lib.bytesWorld w e s) := ⟨hI.tn, hI.tm, hI.df, hw⟩
  refine hn _ _ _ (hI'.put (some d) (.v (.slice (some ⟨w.heap.size, 0, none⟩) s.size (grownCap w s.size 0 e))) (fun t ht => by cases ht; exact hd) rfl) ?_ (fun _ => ⟨fun b c hb => ⟨hb, rfl⟩, fun q hq => ⟨.inl hq, ?_⟩⟩) hk
  · rw [hdst]
    exact ⟨by omega, fun q hq _ _ => hold q hq, fun t ht => actput_ne a _ _ t ht, fun q hq => hq.imp id (fun h => by omega), fun b c hb => .inl ⟨c, hb, rfl⟩, fun t ht hs => put_fresh ⟨ts, bs, ds, pr, sw⟩ (d := some d) _ ht hs⟩
  · have := hpl q hq
    exact hold q (by omega)
end
end Go.Sx
