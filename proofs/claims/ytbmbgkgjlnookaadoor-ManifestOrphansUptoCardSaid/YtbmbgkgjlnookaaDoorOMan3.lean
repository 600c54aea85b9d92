import Derived.Test.YtbmbgkgjlnookaaDoorOMan2
namespace Go.Proofs.YtbmbgkgjlnookaaDoor
open Go.RowKit Go.Maps

abbrev P3 := Int × Int × Int
def okp (nx last : Int) (p : P3) : Bool := decide (last < p.1) && decide (p.1 < 4294967296) && (decide (1 ≤ p.2.1) && decide (p.2.1 ≤ 1099511627775)) && (decide (0 ≤ p.2.2) && decide (p.2.2 ≤ nx - 1))
def prodsGo (nx : Int) : Int → List P3 → Bool
  | _, [] => true
  | last, p :: r => okp nx last p && prodsGo nx p.1 r
def prodsR (nx : Int) (l : List P3) : Bool := decide (l.length ≤ 64) && prodsGo nx 0 l
theorem prodsGo_bad {nx last : Int} {l : List P3} {k : Nat} (hk : k < l.length) (h : okp nx last l[k] = false) : prodsGo nx last (l.drop k) = false := by
  rw [List.drop_eq_getElem_cons hk, prodsGo, h, Bool.false_and]
theorem prodsGo_good {nx last : Int} {l : List P3} {k : Nat} (hk : k < l.length) (h : okp nx last l[k] = true) : prodsGo nx last (l.drop k) = prodsGo nx l[k].1 (l.drop (k + 1)) := by
  rw [List.drop_eq_getElem_cons hk, prodsGo, h, Bool.true_and]

theorem okp_ref {nx last : Int} {p : P3} : okp nx last p = true ↔ (last < p.1 ∧ p.1 < 4294967296) ∧ (1 ≤ p.2.1 ∧ p.2.1 ≤ 1099511627775) ∧ 0 ≤ p.2.2 ∧ p.2.2 ≤ nx - 1 := by
  simp only [okp, Bool.and_eq_true, decide_eq_true_eq, and_assoc]

end Go.Proofs.YtbmbgkgjlnookaaDoor
