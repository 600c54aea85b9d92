import Derived.Test.YtbmbgkgjlnookaaDoorRows
import Derived.Test.YtbmbgkgjlnookaaDoorLib
namespace Go.Proofs.YtbmbgkgjlnookaaDoor
open Go.RowKit Go.Maps

def segsR (ns : Int) (l : List Int) : Bool := decide (1 ≤ l.length) && decide (l.length ≤ 64) && (l.all fun s => decide (1 ≤ s) && decide (s < ns)) && decide l.Nodup

theorem zero_int (w : World) : (zeroValue 3).run Tryd.prog w = .ok (.int .i64 0) w := by kernel_rfl

def cnt (l : List Int) (x : Int) : Int := if x ∈ l then 1 else 0
theorem cnt_snoc (l : List Int) (s : Int) : (fun y => if y = s then (1 : Int) else cnt l y) = cnt (l ++ [s]) := by
  funext y
  unfold cnt
  by_cases hy : y = s
  · simp [hy]
  · simp [hy]
theorem segsR_bad {ns : Int} {l : List Int} {k : Nat} (hk : k < l.length) (h : l[k] < 1 ∨ ns ≤ l[k] ∨ l[k] ∈ l.take k) : segsR ns l = false := by
  unfold segsR
  rcases h with h | h | h
  · have : (l.all fun s => decide (1 ≤ s) && decide (s < ns)) = false := by
      rw [List.all_eq_false]; exact ⟨l[k], List.getElem_mem hk, by simp; omega⟩
    simp [this]
  · have : (l.all fun s => decide (1 ≤ s) && decide (s < ns)) = false := by
      rw [List.all_eq_false]; exact ⟨l[k], List.getElem_mem hk, by simp; omega⟩
    simp [this]
  · have : ¬ l.Nodup := by
      intro hn
      rw [← List.take_append_drop k l, List.drop_eq_getElem_cons hk, List.nodup_append] at hn
      exact hn.2.2 _ h _ (List.mem_cons_self ..) rfl
    simp [this]
theorem segsR_good {ns : Int} {l : List Int} (h0 : ¬ l.length < 1) (h1 : ¬ 64 < l.length) (h : ∀ s ∈ l, 1 ≤ s ∧ s < ns) (hn : l.Nodup) : segsR ns l = true := by
  unfold segsR
  simp only [Bool.and_eq_true, decide_eq_true_eq, List.all_eq_true]
  exact ⟨⟨⟨by omega, by omega⟩, h⟩, hn⟩
theorem nodup_snoc {l : List Int} {s : Int} (h : l.Nodup) (hs : s ∉ l) : (l ++ [s]).Nodup := by
  rw [List.nodup_append]
  exact ⟨h, by simp, fun a ha b hb => by simp at hb; subst hb; rintro rfl; exact hs ha⟩
theorem take_snoc {α : Type} (l : List α) (k : Nat) (h : k < l.length) : l.take (k + 1) = l.take k ++ [l[k]] := by
  rw [List.take_succ_eq_append_getElem h]

end Go.Proofs.YtbmbgkgjlnookaaDoor
