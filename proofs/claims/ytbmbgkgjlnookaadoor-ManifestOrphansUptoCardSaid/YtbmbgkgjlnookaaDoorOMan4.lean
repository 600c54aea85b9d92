import Derived.Test.YtbmbgkgjlnookaaDoorOMan3
namespace Go.Proofs.YtbmbgkgjlnookaaDoor
open Go.RowKit Go.Maps

def manA (id ns : Int) : Prop := ((0 ≤ id ∧ id < 1073741824) ∧ 2 ≤ ns) ∧ ns ≤ 1073741824
def manBO (nx mk cl : Int) : Prop := ((0 ≤ nx ∧ nx ≤ 1099511627776) ∧ 0 ≤ mk ∧ mk ≤ nx) ∧ 0 ≤ cl ∧ cl ≤ 1125899906842623
instance (id ns : Int) : Decidable (manA id ns) := by unfold manA; infer_instance
instance (nx mk cl : Int) : Decidable (manBO nx mk cl) := by unfold manBO; infer_instance
def manR (id ns nx mk cl : Int) (segs : List Int) (prods : List P3) : Bool := decide (manA id ns) && decide (manBO nx mk cl) && segsR ns segs && prodsR nx prods
def manE (id ns nx mk cl : Int) (segs : List Int) (prods : List P3) : Int := if manR id ns nx mk cl segs prods = true then 0 else 70
theorem manE_bad {id ns nx mk cl : Int} {segs : List Int} {prods : List P3} (h : manR id ns nx mk cl segs prods = false) : (70 : Int) = manE id ns nx mk cl segs prods := by unfold manE; rw [h]; rfl
theorem manE_good {id ns nx mk cl : Int} {segs : List Int} {prods : List P3} (h : manR id ns nx mk cl segs prods = true) : (0 : Int) = manE id ns nx mk cl segs prods := by unfold manE; rw [h]; rfl

end Go.Proofs.YtbmbgkgjlnookaaDoor
