import Derived.Test.YtbmbgkgjlnookaaDoorNq6
/- ManifestNames: the document's Name, where there is none. -/
namespace Go.Proofs.YtbmbgkgjlnookaaDoor
open Go.Shelf Go.RowKit

set_option maxRecDepth 100000 in
theorem nameR_lo (k a b : Int) (t : Bool) (w : World) (hk : k < 1) :
    Calls Tryd.prog 6 #[.agg #[.int .i64 k, .int .i64 a, .int .i64 b, .bool t]] w fun e w' => e = .returned (.string ⟨(nameN ⟨k, a, b, t⟩).toArray⟩) ∧ Below w.heap.size w w' := by
  have hn := Lib.hid (base_none k a b t (by omega))
  rw [hn.out]
  go_enter Tryd.func6, Tryd.ntmps6
  go_wp2_with fail
  all_goals go_ret
  all_goals exact ⟨rfl, Below.al _ _⟩
set_option maxRecDepth 100000 in
theorem nameR_hi (k a b : Int) (t : Bool) (w : World) (hk : 4 < k) :
    Calls Tryd.prog 6 #[.agg #[.int .i64 k, .int .i64 a, .int .i64 b, .bool t]] w fun e w' => e = .returned (.string ⟨(nameN ⟨k, a, b, t⟩).toArray⟩) ∧ Below w.heap.size w w' := by
  have hn := Lib.hid (base_none k a b t (by omega))
  rw [hn.out]
  go_enter Tryd.func6, Tryd.ntmps6
  go_wp2_with fail
  all_goals go_ret
  all_goals exact ⟨rfl, Below.al _ _⟩
set_option maxRecDepth 100000 in
theorem nameR_3seg (a b : Int) (t : Bool) (w : World) (hb : ¬ b = 0) :
    Calls Tryd.prog 6 #[.agg #[.int .i64 3, .int .i64 a, .int .i64 b, .bool t]] w fun e w' => e = .returned (.string ⟨(nameN ⟨3, a, b, t⟩).toArray⟩) ∧ Below w.heap.size w w' := by
  have hn := Lib.hid (base_none 3 a b t (by rintro (e | e | ⟨_, _, e⟩ | ⟨e, _⟩); cases e; cases e; exact hb e; cases e))
  rw [hn.out]
  go_enter Tryd.func6, Tryd.ntmps6
  go_wp2_with fail
  all_goals go_ret
  all_goals exact ⟨rfl, Below.al _ _⟩
end Go.Proofs.YtbmbgkgjlnookaaDoor
