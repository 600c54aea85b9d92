import Derived.Test.YtifimeohdgnehaaHof1
import Derived.Test.YtifimeohdgnehaaLayS
import Derived.Test.YtifimeohdgnehaaHnt17
import Derived.Shelf.Sort.Plain
import Derived.Shelf.Slices.In.SortNone
namespace Go.Proofs.Ytifimeohdgnehaa
open Go.RowKit Go.Maps Go.Sort

theorem row_slice {w : World} {base : Nat} {e : TypeId} {size n : Nat} {v : Value} {xs : List Value} (h : w.ownsRow base e size v n xs) : ∃ b c, v = .slice b n c := by
  rcases h.2 with ⟨hv, h0⟩ | ⟨g, c, cur, hv, _⟩
  · exact ⟨none, 0, by rw [hv, h0]⟩
  · exact ⟨some ⟨g, 0, none⟩, c, hv⟩
/-- slices.Sort of a row of ints of the call's own. -/
theorem sortRow {base : Nat} {v : Value} {zs : List Int} {w : World} (h : w.ownsRow base 3 1 v zs.length (zs.map (Value.int .i64))) (hz : zs.length < 4611686018427387904) :
    Calls Try.prog 46 #[v] w fun e w' => e = .returned (.tuple #[]) ∧ w'.ownsRow base 3 1 v zs.length ((zs.mergeSort fun x y => decide (x ≤ y)).map (Value.int .i64)) ∧ w.grownBy w' v.ownBlock := by
  by_cases h0 : zs = []
  · subst h0
    obtain ⟨b, c, rfl⟩ := row_slice h
    refine (Any.slices_Sort_int_none lays189 b c w).mono ?_
    rintro e w' ⟨rfl, rfl⟩
    exact ⟨rfl, by rw [List.mergeSort_nil]; exact h, World.grownBy.refl _ _⟩
  · rcases h.2 with ⟨_, hn⟩ | ⟨g, cap, cur, rfl, hbase, hb, h1, h2, h3, h4⟩
    · exact absurd (List.eq_nil_of_length_eq_zero hn) h0
    have hH : Holds (Value.int .i64) w g 0 zs.toArray := holds_of_blockI hb (by simpa using h4)
    refine (Any.slices_Sort_int lays189 g 0 cap zs w hH (Array.getElem?_eq_some_iff.1 hb).1 hz).mono ?_
    rintro e w' ⟨rfl, nn, os, rfl⟩
    exact ⟨rfl, ownsRow_sortedI (by simp) hbase hb h1 h2 h3, grownBy_sortedI _⟩
end Go.Proofs.Ytifimeohdgnehaa
