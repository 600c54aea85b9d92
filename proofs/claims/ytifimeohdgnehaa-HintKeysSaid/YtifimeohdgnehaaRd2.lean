import Derived.Test.YtifimeohdgnehaaRd1
import Derived.StillTailTactics
namespace Go.Proofs.Ytifimeohdgnehaa
open Go.RowKit Go.Maps

/-- An octet reader at block p: its bytes are l, it stands at s. -/
structure ORx (W : World) (p : Nat) (b : Option Addr) (cap : Nat) (er ea : Int) (l : List UInt8) (s : RSt) : Prop where
  box : Box W p 87 #[.slice b l.length cap, .int .i64 s.at_, .bool s.fl, .int .i64 er, .int .i64 ea]
  rd : Rd W p b (bv l)
  cap_ : l.length ≤ cap
  le : s.at_ ≤ l.length
  bad : s.fl = true → er ≠ 0
def ORd (W : World) (p : Nat) (l : List UInt8) (s : RSt) : Prop := ∃ b cap er ea, ORx W p b cap er ea l s
section
variable {W W' : World} {p cap : Nat} {b : Option Addr} {er ea : Int} {l : List UInt8} {s : RSt}
theorem ORx.chg {S : Nat → Prop} (h : ORx W p b cap er ea l s) (hc : Chg S W W') (hS : ∀ k, S k → p < k) : ORx W' p b cap er ea l s :=
  ⟨h.box.chg hc (fun e => by have := hS _ e; omega), h.rd.keep fun q hq => by
    have hk := hc.block q.block (by have := h.box.lt; omega) (fun e => by have := hS _ e; omega)
    simp [World.cell?, hk], h.cap_, h.le, h.bad⟩
theorem ORd.chg {S : Nat → Prop} (h : ORd W p l s) (hc : Chg S W W') (hS : ∀ k, S k → p < k) : ORd W' p l s :=
  let ⟨b, cap, er, ea, h⟩ := h; ⟨b, cap, er, ea, h.chg hc hS⟩
theorem ORd.lt (h : ORd W p l s) : p < W.heap.size := let ⟨_, _, _, _, h⟩ := h; h.box.lt
theorem ORd.below (h : ORd W p l s) (hb : Below W.heap.size W W') : ORd W' p l s := h.chg (Chg.of_below hb fun _ => False) (fun _ e => e.elim)
theorem ORd.le (h : ORd W p l s) : s.at_ ≤ l.length := let ⟨_, _, _, _, h⟩ := h; h.le
theorem ORx.drewN (h : ORx W p b cap er ea l s) (n : Nat) : ORx (W.drewN n) p b cap er ea l s := ⟨h.box, h.rd, h.cap_, h.le, h.bad⟩
theorem ORx.set_at (h : ORx W p b cap er ea l s) {k : Nat} (hk : k ≤ l.length) : ORx (W.setCell ⟨p, 1, none⟩ (.int .i64 k)) p b cap er ea l ⟨k, s.fl⟩ := by
  refine ⟨?_, h.rd.keep fun q hq => ?_, h.cap_, hk, h.bad⟩
  · simpa using h.box.set_ 1 (.int .i64 k)
  · have := Below.heap_setCell W ⟨p, 1, none⟩ (.int .i64 k) q.block (by show q.block ≠ p; omega)
    simp [World.cell?, this]
end
theorem sizeU8 : ∀ w, (Go.sizeOf 5).run Try.prog w = .ok 1 w := fun _ => by kernel_rfl
theorem quiet_two {P : Program} {f : FuncId} {args : Array Value} {w : World} {v : Value} (h : Calls P f args w fun e w' => e = .returned v ∧ w = w') : Calls P f args w fun e w' => e = .returned v ∧ ∃ n, w' = w.drewN n :=
  h.mono fun e w' ⟨he, hw⟩ => ⟨he, 0, by rw [← hw]; rfl⟩

theorem Chg.set1 {S : Nat → Prop} {a w : World} {p : Nat} (h : Chg S a w) (hp : S p) (i : Nat) (u : Value) : Chg S a (w.setCell ⟨p, i, none⟩ u) := h.setCell (.inl hp) u
theorem Chg.set4 (w : World) {p : Nat} (u1 u2 u3 u4 : Value) : Chg (fun k => k = p) w ((((w.setCell ⟨p, 2, none⟩ u1).setCell ⟨p, 3, none⟩ u2).setCell ⟨p, 4, none⟩ u3).setCell ⟨p, 1, none⟩ u4) :=
  ((((Chg.refl (fun k => k = p) w).set1 rfl _ _).set1 rfl _ _).set1 rfl _ _).set1 rfl _ _

set_option maxRecDepth 100000 in
theorem octPlace (p : Nat) (b : Option Addr) (cap : Nat) (er ea : Int) (l : List UInt8) (s : RSt) (w : World) (h : ORx w p b cap er ea l s) :
    Calls Try.prog 60 #[.pointer (some ⟨p, 0, none⟩)] w fun e w' => e = .returned (.int .i64 s.at_) ∧ w = w' := by
  have hc := h.box.cell
  have hl := h.box.lt
  obtain ⟨at_, fl⟩ := s
  simp only at hc
  have H := Lib.hid h
  clear h
  go_enter Try.func60, Try.ntmps60
  go_wp2
  go_ret
  exact ⟨rfl, rfl⟩

set_option maxRecDepth 100000 in
theorem octFailAt0 (p : Nat) (b : Option Addr) (cap : Nat) (er ea x : Int) (l : List UInt8) (at_ : Nat) (w : World) (h : ORx w p b cap er ea l ⟨at_, false⟩) :
    Calls Try.prog 61 #[.pointer (some ⟨p, 0, none⟩), .int .i64 0, .int .i64 x] w fun e w' => e = .returned (.tuple #[]) ∧ w = w' := by
  have hc := h.box.cell
  have hl := h.box.lt
  simp only at hc
  clear h
  go_enter Try.func61, Try.ntmps61
  go_wp2
  exact bodyPost_ret (v := .tuple #[]) (by simp [results, Try.results61, go_sem]) rfl ⟨rfl, rfl⟩

set_option maxRecDepth 100000 in
set_option maxHeartbeats 1000000 in
theorem octFailAt1 (p : Nat) (b : Option Addr) (cap : Nat) (er ea y x : Int) (l : List UInt8) (at_ : Nat) (w : World) (h : ORx w p b cap er ea l ⟨at_, false⟩) (hy : y ≠ 0) :
    Calls Try.prog 61 #[.pointer (some ⟨p, 0, none⟩), .int .i64 y, .int .i64 x] w fun e w' => e = .returned (.tuple #[]) ∧ ORx w' p b cap y x l ⟨l.length, true⟩ ∧ Chg (fun k => k = p) w w' := by
  have hc := h.box.cell
  have hf := h.box.free
  have hl := h.box.lt
  have hy1 : (y == 0) = false := by simpa using hy
  have H := Lib.hid h
  have Hy := Lib.hid hy
  simp only at hc
  clear h hy
  go_enter Try.func61, Try.ntmps61
  go_wp2
  go_end0
  refine ⟨rfl, ⟨?_, H.out.rd.keep fun q hq => ?_, H.out.cap_, Nat.le_refl _, fun _ => Hy.out⟩, ?_⟩
  · have h2 := ((((H.out.box.set_ 2 (.bool true)).set_ 3 (.int .i64 y)).set_ 4 (.int .i64 x)).set_ 1 (.int .i64 l.length))
    simpa using h2
  · have hb : ∀ W i u, (World.setCell W ⟨p, i, none⟩ u).heap[q.block]? = W.heap[q.block]? := fun W i u => Below.heap_setCell W ⟨p, i, none⟩ u q.block (by show q.block ≠ p; omega)
    simp [World.cell?, hb]
  · exact Chg.set4 _ _ _ _ _
end Go.Proofs.Ytifimeohdgnehaa
