import Derived.Test.YtbmbgkgjlnookaaDoorOMan6
namespace Go.Proofs.YtbmbgkgjlnookaaDoor
open Go.RowKit Go.Maps

theorem quiet_same {P : Program} {f : FuncId} {args : Array Value} {w : World} {n : Nat} {v : Value}
    (h : Calls P f args (w.drewN n) fun e w' => e = .returned v ∧ w.drewN n = w') : Calls P f args (w.drewN n) fun e w'' => e = .returned v ∧ ∃ m, w'' = w.drewN m :=
  h.mono fun _ _ ⟨he, hm⟩ => ⟨he, n, hm.symm⟩

/-- What a round of the reference's CheckCatalogue knows of the world. -/
structure CatV (nid : Int) (sl : Value) (p : T4) (B b e : Nat) (w0 W : World) : Prop where
  e0 : W.cell? ⟨e, 0, none⟩ = some (.int .i64 p.id)
  e1 : W.cell? ⟨e, 1, none⟩ = some (.string p.name)
  e2 : W.cell? ⟨e, 2, none⟩ = some (.int .i64 p.limit)
  e3 : W.cell? ⟨e, 3, none⟩ = some (.int .i64 p.hor)
  b0 : W.cell? ⟨b, 0, none⟩ = some (.int .i64 nid)
  b1 : W.cell? ⟨b, 1, none⟩ = some sl
  below : Below B w0 W
  size : e < W.heap.size ∧ b < W.heap.size
theorem CatV.drewN {nid : Int} {sl : Value} {p : T4} {B b e : Nat} {w0 W : World} (h : CatV nid sl p B b e w0 W) (m : Nat) : CatV nid sl p B b e w0 (W.drewN m) :=
  ⟨h.e0, h.e1, h.e2, h.e3, h.b0, h.b1, below_drewN h.below m, h.size⟩
theorem leq_cmp (a b : ByteArray) : (Op.bytesLess a.toList b.toList || a.toList == b.toList) = decide (0 ≤ cmpB b.data.toList a.data.toList) := by
  rw [← ByteArray.toList_eq, ← ByteArray.toList_eq]
  have h1 := cmpB_less a.toList b.toList
  have h2 := cmpB_swap a.toList b.toList
  have h3 := cmpB_range a.toList b.toList
  by_cases he : a.toList = b.toList
  · simp [he, cmpB_self]
  · have hne : cmpB a.toList b.toList ≠ 0 := fun h => he (cmpB_eq h)
    have he' : (a.toList == b.toList) = false := by simp [he]
    rw [he', Bool.or_false]
    cases hl : Op.bytesLess a.toList b.toList with
    | true =>
      have := h1.2 hl
      exact (decide_eq_true (by omega)).symm
    | false =>
      have : ¬ cmpB a.toList b.toList = -1 := fun h => by rw [h1.1 h] at hl; cases hl
      exact (decide_eq_false (by omega)).symm

end Go.Proofs.YtbmbgkgjlnookaaDoor
