import Derived.Test.YtifimeohdgnehaaHnt11
import Derived.Test.YtifimeohdgnehaaRdR
namespace Go.Proofs.Ytifimeohdgnehaa
open Go.RowKit Go.Maps

theorem octRestD (p : Nat) (l : List UInt8) (s : RSt) (w : World) (h : ORd w p l s) (hmx : l.length ≤ 140737488355328) :
    Calls Try.prog 37 #[.pointer (some ⟨p, 0, none⟩)] w fun e w' => e = .returned (.int .i64 ((l.length : Int) - s.at_)) ∧ ∃ n, w' = w.drewN n := by
  obtain ⟨b, cap, er, ea, h⟩ := h
  exact octRest p b cap er ea l s w h (by omega)
theorem refRestD (p : Nat) (l : List UInt8) (s : RSt) (w : World) (h : RRd w p l s) (hmx : l.length ≤ 140737488355328) :
    Calls Try.prog 43 #[.pointer (some ⟨p, 0, none⟩)] w fun e w' => e = .returned (.int .i64 ((l.length : Int) - s.at_)) ∧ ∃ n, w' = w.drewN n := by
  obtain ⟨b, cap, er, ea, h⟩ := h
  exact refRest p b cap er ea l s w h (by omega)
/-- A number that was read, as an int, at most m. -/
def bnd (m v : Nat) : Int := if v ≤ m then v else m
theorem bnd_le (m v : Nat) : 0 ≤ bnd m v ∧ bnd m v ≤ m := by unfold bnd; split <;> omega
theorem bnd_small {m v : Nat} (h : v ≤ m) : bnd m v = v := if_pos h

set_option maxRecDepth 100000 in
theorem octBounded (v : Nat) (w : World) (hv : v < 18446744073709551616) :
    Calls Try.prog 35 #[.int .u64 v] w fun e w' => e = .returned (.int .i64 (bnd 1125899906842624 v)) ∧ w = w' := by
  unfold bnd
  by_cases h : v ≤ 1125899906842624
  · rw [if_pos h]
    go_enter Try.func35, Try.ntmps35
    go_wp2
    go_ret
    refine ⟨ret_int ?_, rfl⟩
    omega
  · rw [if_neg h]
    go_enter Try.func35, Try.ntmps35
    go_wp2
    go_ret
    refine ⟨ret_int ?_, rfl⟩
    omega
set_option maxRecDepth 100000 in
theorem refFew (v : Nat) (w : World) (hv : v < 18446744073709551616) :
    Calls Try.prog 42 #[.int .u64 v] w fun e w' => e = .returned (.int .i64 (bnd 1099511627776 v)) ∧ w = w' := by
  unfold bnd
  by_cases h : v ≤ 1099511627776
  · rw [if_pos h]
    go_enter Try.func42, Try.ntmps42
    go_wp2
    go_ret
    exact ⟨rfl, rfl⟩
  · rw [if_neg h]
    go_enter Try.func42, Try.ntmps42
    go_wp2
    go_ret
    exact ⟨rfl, rfl⟩

/-- What Decode answers of the bytes bs. -/
def DAns (bs : List UInt8) (w w' : World) (e : Ending) : Prop :=
  (∃ (seg size : Int) (H : List HE) (b : Option Addr) (cap : Nat), HintR seg size H ∧ encH seg size H = bs ∧ (∀ sg sz K, HintR sg sz K → encH sg sz K = bs → sg = seg ∧ sz = size ∧ K = H) ∧
    e = .returned (.tuple #[hV seg size (.slice b H.length cap), .int .i64 0]) ∧ w'.ownsRow w.heap.size 33 6 (.slice b H.length cap) H.length (H.flatMap six)) ∨
  ((∀ seg size H, HintR seg size H → encH seg size H ≠ bs) ∧ e = .returned (.tuple #[hV 0 0 (.slice none 0 0), .int .i64 60]))

/-- Between the calls of the program's Decode: the reader, the answer's place, the hint and its entries. -/
structure DL (w : World) (p hb : Nat) (l : List UInt8) (s : RSt) (seg size : Int) (be : Option Addr) (m ce : Nat) (ents : List HE) (W : World) : Prop where
  rd : ORd W p l s
  below : Below w.heap.size w W
  res : Box W w.heap.size 24 #[.int .i64 0, .int .i64 0, .slice none 0 0]
  box : Box W hb 24 #[.int .i64 seg, .int .i64 size, .slice be m ce]
  row : W.ownsRow (hb + 1) 33 6 (.slice be m ce) m (ents.flatMap six)
  len : ents.length = m
  ord : w.heap.size < p ∧ p < hb
section
variable {w W W' : World} {p hb m ce : Nat} {l : List UInt8} {s s' : RSt} {seg size : Int} {be : Option Addr} {ents : List HE}
theorem DL.chg {S : Nat → Prop} (d : DL w p hb l s seg size be m ce ents W) (hc : Chg S W W') (hS : ∀ k, S k → hb < k ∧ (Value.slice be m ce).ownBlock ≠ some k) : DL w p hb l s seg size be m ce ents W' := by
  obtain ⟨o1, o2⟩ := d.ord
  refine ⟨d.rd.chg hc fun k hk => by have := hS k hk; omega, d.below.trans (hc.below d.below.size fun k hk => by have := hS k hk; omega), d.res.chg hc fun e => by have := hS _ e; omega, d.box.chg hc fun e => by have := hS _ e; omega,
    ownsRow_block d.row fun k hk => hc.block k (d.row.lt k hk).2 fun e => (hS k e).2 hk, d.len, d.ord⟩
theorem DL.next (d : DL w p hb l s seg size be m ce ents W) (hb' : Below W.heap.size W W') : DL w p hb l s seg size be m ce ents W' :=
  d.chg (Chg.of_below hb' fun _ => False) fun _ e => e.elim
theorem DL.drewN (d : DL w p hb l s seg size be m ce ents W) (n : Nat) : DL w p hb l s seg size be m ce ents (W.drewN n) :=
  d.next (below_drewN (Below.refl _ _) n)
theorem DL.step (d : DL w p hb l s seg size be m ce ents W) (h : RAft p l s' W W') : DL w p hb l s' seg size be m ce ents W' := by
  obtain ⟨o1, o2⟩ := d.ord
  obtain ⟨h1, hc⟩ := h
  refine ⟨h1, d.below.trans (hc.below d.below.size fun k hk => by omega), d.res.chg hc (by omega), d.box.chg hc (by omega),
    ownsRow_block d.row fun k hk => hc.block k (d.row.lt k hk).2 (by have := (d.row.lt k hk).1; omega), d.len, d.ord⟩
end
end Go.Proofs.Ytifimeohdgnehaa
