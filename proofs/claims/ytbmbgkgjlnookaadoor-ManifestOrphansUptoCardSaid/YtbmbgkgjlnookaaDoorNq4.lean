import Derived.Test.YtbmbgkgjlnookaaDoorNq3
/- ManifestNames: manifest.Name, the other kinds. -/
namespace Go.Proofs.YtbmbgkgjlnookaaDoor
open Go.Shelf Go.RowKit

theorem base_none (k id seg : Int) (t : Bool) (h : ¬ (k = 1 ∨ k = 2 ∨ (k = 3 ∧ okId id ∧ seg = 0) ∨ (k = 4 ∧ id = 0 ∧ seg = 0))) : nameN ⟨k, id, seg, t⟩ = [] := by
  have h1 : baseN ⟨k, id, seg, t⟩ = [] := by
    rw [base_piece, if_neg (fun e => h (.inl e)), if_neg (fun e => h (.inr (.inl e)))]
    by_cases h3 : k = 3
    · rw [if_pos h3, if_neg (fun e => h (.inr (.inr (.inl ⟨h3, e.1, e.2⟩))))]
    · rw [if_neg h3, if_neg (fun e => h (.inr (.inr (.inr e))))]
  unfold nameN
  rw [if_pos h1]
set_option maxRecDepth 100000 in
theorem nameM_3seg (a b : Int) (t : Bool) (w : World) (hb : ¬ b = 0) :
    Calls Tryd.prog 5 #[.agg #[.int .i64 3, .int .i64 a, .int .i64 b, .bool t]] w fun e w' => e = .returned (.string ⟨(nameN ⟨3, a, b, t⟩).toArray⟩) ∧ Below w.heap.size w w' := by
  have hn := Lib.hid (base_none 3 a b t (by rintro (e | e | ⟨_, _, e⟩ | ⟨e, _⟩); cases e; cases e; exact hb e; cases e))
  rw [hn.out]
  go_enter Tryd.func5, Tryd.ntmps5
  go_wp2_with fail
  all_goals go_ret
  all_goals exact ⟨rfl, Below.al _ _⟩
set_option maxRecDepth 100000 in
theorem nameM_4id (a b : Int) (t : Bool) (w : World) (hb : ¬ (a = 0 ∧ b = 0)) :
    Calls Tryd.prog 5 #[.agg #[.int .i64 4, .int .i64 a, .int .i64 b, .bool t]] w fun e w' => e = .returned (.string ⟨(nameN ⟨4, a, b, t⟩).toArray⟩) ∧ Below w.heap.size w w' := by
  have hn := Lib.hid (base_none 4 a b t (by rintro (e | e | ⟨e, _⟩ | ⟨_, e⟩); cases e; cases e; cases e; exact hb e))
  rw [hn.out]
  go_enter Tryd.func5, Tryd.ntmps5
  by_cases h0 : a = 0
  · have h1 : ¬ b = 0 := fun e => hb ⟨h0, e⟩
    subst h0
    clear hb
    go_wp2_with fail
    all_goals go_ret
    all_goals exact ⟨rfl, Below.al _ _⟩
  clear hb
  go_wp2_with fail
  all_goals go_ret
  all_goals exact ⟨rfl, Below.al _ _⟩
set_option maxRecDepth 100000 in
theorem nameM_lo (k a b : Int) (t : Bool) (w : World) (hk : k < 1) :
    Calls Tryd.prog 5 #[.agg #[.int .i64 k, .int .i64 a, .int .i64 b, .bool t]] w fun e w' => e = .returned (.string ⟨(nameN ⟨k, a, b, t⟩).toArray⟩) ∧ Below w.heap.size w w' := by
  have hn := Lib.hid (base_none k a b t (by omega))
  rw [hn.out]
  go_enter Tryd.func5, Tryd.ntmps5
  go_wp2_with fail
  all_goals go_ret
  all_goals exact ⟨rfl, Below.al _ _⟩
set_option maxRecDepth 100000 in
theorem nameM_hi (k a b : Int) (t : Bool) (w : World) (hk : 4 < k) :
    Calls Tryd.prog 5 #[.agg #[.int .i64 k, .int .i64 a, .int .i64 b, .bool t]] w fun e w' => e = .returned (.string ⟨(nameN ⟨k, a, b, t⟩).toArray⟩) ∧ Below w.heap.size w w' := by
  have hn := Lib.hid (base_none k a b t (by omega))
  rw [hn.out]
  go_enter Tryd.func5, Tryd.ntmps5
  go_wp2_with fail
  all_goals go_ret
  all_goals exact ⟨rfl, Below.al _ _⟩
end Go.Proofs.YtbmbgkgjlnookaaDoor
