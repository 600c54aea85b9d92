import Derived.Test.YtbmbgkgjlnookaaDoorOMan7
import Derived.Test.YtbmbgkgjlnookaaDoorMem
namespace Go.Proofs.YtbmbgkgjlnookaaDoor
open Go.RowKit Go.Maps

theorem info_int : (Tryd.prog.info? 3).map (fun i => (i.zero, i.size, i.bytes)) = some (some (.int .i64 0), 1, 8) := by kernel_rfl
theorem info_prod : (Tryd.prog.info? 60).map (fun i => (i.zero, i.size, i.bytes)) = some (some (.agg #[.int .i64 0, .int .i64 0, .int .i64 0]), 3, 24) := by kernel_rfl

/-- A manifest's value. -/
abbrev manV (id ns nx mk cl : Int) (s p : Value) : Value := .agg #[.int .i64 id, .int .i64 ns, .int .i64 nx, .int .i64 mk, .int .i64 cl, s, p]

set_option maxRecDepth 100000 in
set_option maxHeartbeats 4000000 in
theorem copied_any (id ns nx mk cl : Int) (A B : Option Addr) (c d : Nat) (segs : List Int) (prods : List P3) (w : World) (hA : Rd w w.heap.size A (segs.map (.int .i64))) (hB : Rd w w.heap.size B (prods.flatMap tri))
    (ha : segs.length * 8 ≤ 140737488351232) (hb : prods.length * 24 ≤ 140737488351232) :
    Calls Tryd.prog 9 #[.agg #[.int .i64 id, .int .i64 ns, .int .i64 nx, .int .i64 mk, .int .i64 cl, .slice A segs.length c, .slice B prods.length d]] w fun e w' =>
      ∃ g h c' d', e = .returned (manV id ns nx mk cl (.slice (some ⟨g, 0, none⟩) segs.length c') (.slice (some ⟨h, 0, none⟩) prods.length d')) ∧
        Below w.heap.size w w' ∧ Own w' w.heap.size g 3 (segs.map (.int .i64) ++ [.int .i64 (-77)]) ∧ Own w' w.heap.size h 60 (prods.flatMap tri ++ [.int .i64 (-77), .int .i64 0, .int .i64 0]) ∧ g ≠ h ∧
        segs.length < c' ∧ prods.length < d' := by
  obtain ⟨i0, hi0, hz0, hs0, hy0⟩ := info_parts info_int
  obtain ⟨i1, hi1, hz1, hs1, hy1⟩ := info_parts info_prod
  have hb2 : Below w.heap.size w ((w.alloc (.cells #[.int .i64 id, .int .i64 ns, .int .i64 nx, .int .i64 mk, .int .i64 cl, .slice A segs.length c, .slice B prods.length d] 31)).alloc (.cells #[.int .i64 0, .int .i64 0, .int .i64 0, .int .i64 0, .int .i64 0, .slice none 0 0, .slice none 0 0] 31)) := ((Below.refl _ _).alloc (Nat.le_refl _) _).alloc (by simp) _
  have hx2 : Box ((w.alloc (.cells #[.int .i64 id, .int .i64 ns, .int .i64 nx, .int .i64 mk, .int .i64 cl, .slice A segs.length c, .slice B prods.length d] 31)).alloc (.cells #[.int .i64 0, .int .i64 0, .int .i64 0, .int .i64 0, .int .i64 0, .slice none 0 0, .slice none 0 0] 31)) w.heap.size 31 #[.int .i64 id, .int .i64 ns, .int .i64 nx, .int .i64 mk, .int .i64 cl, .slice A segs.length c, .slice B prods.length d] := (Box.new w _ _).alloc _
  have hy2 : Box ((w.alloc (.cells #[.int .i64 id, .int .i64 ns, .int .i64 nx, .int .i64 mk, .int .i64 cl, .slice A segs.length c, .slice B prods.length d] 31)).alloc (.cells #[.int .i64 0, .int .i64 0, .int .i64 0, .int .i64 0, .int .i64 0, .slice none 0 0, .slice none 0 0] 31)) (w.heap.size + 1) 31 #[.int .i64 0, .int .i64 0, .int .i64 0, .int .i64 0, .int .i64 0, .slice none 0 0, .slice none 0 0] := by simpa using Box.new (w.alloc (.cells #[.int .i64 id, .int .i64 ns, .int .i64 nx, .int .i64 mk, .int .i64 cl, .slice A segs.length c, .slice B prods.length d] 31)) 31 #[.int .i64 0, .int .i64 0, .int .i64 0, .int .i64 0, .int .i64 0, .slice none 0 0, .slice none 0 0]
  have hown0 : (((w.alloc (.cells #[.int .i64 id, .int .i64 ns, .int .i64 nx, .int .i64 mk, .int .i64 cl, .slice A segs.length c, .slice B prods.length d] 31)).alloc (.cells #[.int .i64 0, .int .i64 0, .int .i64 0, .int .i64 0, .int .i64 0, .slice none 0 0, .slice none 0 0] 31)).alloc (.cells #[] 3)).ownsRow (w.heap.size + 2) 3 1 (.slice (some ⟨w.heap.size + 2, 0, none⟩) 0 0) 0 [] := by simpa using own_empty ((w.alloc (.cells #[.int .i64 id, .int .i64 ns, .int .i64 nx, .int .i64 mk, .int .i64 cl, .slice A segs.length c, .slice B prods.length d] 31)).alloc (.cells #[.int .i64 0, .int .i64 0, .int .i64 0, .int .i64 0, .int .i64 0, .slice none 0 0, .slice none 0 0] 31)) (w.heap.size + 2) 3 1 (by simp)
  have hrd0 : Rd (((w.alloc (.cells #[.int .i64 id, .int .i64 ns, .int .i64 nx, .int .i64 mk, .int .i64 cl, .slice A segs.length c, .slice B prods.length d] 31)).alloc (.cells #[.int .i64 0, .int .i64 0, .int .i64 0, .int .i64 0, .int .i64 0, .slice none 0 0, .slice none 0 0] 31)).alloc (.cells #[] 3)) w.heap.size A (segs.map (.int .i64)) := hA.below (hb2.alloc (by simp <;> omega) _)
  have hb3 := hb2.alloc (by simp <;> omega) (.cells #[] 3)
  have hx3 := hx2.alloc (.cells #[] 3)
  have hy3 := hy2.alloc (.cells #[] 3)
  have Hb3 := Lib.hid hb3
  have Hx3 := Lib.hid hx3
  have Hy3 := Lib.hid hy3
  have Hown0 := Lib.hid hown0
  have Hrd0 := Lib.hid hrd0
  have HB := Lib.hid hB
  clear hb2 hx2 hy2 hb3 hx3 hy3 hown0 hrd0 hA hB
  go_enter Tryd.func9, Tryd.ntmps9
  go_wp2_with (first
    | (at_builtin
       refine wpList_app _ rfl (.tmp 11) (.tmp 13) _ rfl (w.heap.size + 2) 3 i0 _ 1 8 Tryd.underlying28 hi0 hz0 hs0 hy0 rfl (by omega) (.slice (some ⟨w.heap.size + 2, 0, none⟩) 0 0) 0 [] rfl Hown0.out _ A segs.length c (segs.map (.int .i64)) rfl (by simp) Hrd0.out (one_int _) (by unfold maxLen; omega) (by omega) (by simp <;> omega) ?_
       intro v1 w1 hown1 hg1 _
       have hx1 := Hx3.out.grown hg1 (by simp [Value.ownBlock] <;> omega)
       have hy1 := Hy3.out.grown hg1 (by simp [Value.ownBlock] <;> omega)
       have hb1 := Hb3.out.grown hg1 (by simp <;> omega) (by simp [Value.ownBlock] <;> omega)
       have hcx1 := hx1.cell
       have hcy1 := hy1.cell
       have hfx1 := hx1.free
       have hfy1 := hy1.free
       have hsz1 : w.heap.size + 2 < w1.heap.size := by have := hg1.size; simp at this; omega
       have hsa1 : w.heap.size < w1.heap.size := by omega
       have hsb1 : w.heap.size + 1 < w1.heap.size := by omega
       have H1 := Lib.hid (And.intro hown1 (And.intro hx1 (And.intro hy1 hb1)))
       clear hown1 hg1 hx1 hy1 hb1)
    | (at_builtin
       refine wpList_app1 _ rfl (.tmp 14) (.tmp 15) _ rfl (w.heap.size + 2) 3 i0 _ 1 8 Tryd.underlying28 hi0 hz0 hs0 hy0 rfl (by omega) v1 (0 + segs.length) _ rfl (H1.out.1.alloc _) _ _ 1 1 [.int .i64 (-77)] rfl rfl (rd_new _ _ _) (by simp [Value.oneCell']) (by unfold maxLen; omega) (by omega) (by simp <;> omega) (by omega) ?_
       intro g c1 w2 hO2 hc2 hm2 _ hg2 _
       have hx2 := (H1.out.2.1.alloc (.cells #[.int .i64 (-77)] 3)).grown hg2 (fun e => by have := H1.out.1.lt _ e.symm; omega)
       have hy2 := (H1.out.2.2.1.alloc (.cells #[.int .i64 (-77)] 3)).grown hg2 (fun e => by have := H1.out.1.lt _ e.symm; omega)
       have hb2 := (H1.out.2.2.2.alloc (by omega) (.cells #[.int .i64 (-77)] 3)).grown hg2 (by simp <;> omega) (fun k e => by have := H1.out.1.lt _ e; omega)
       have hcx2 := hx2.cell
       have hcy2 := hy2.cell
       have hfx2 := hx2.free
       have hfy2 := hy2.free
       have hsz2 : w.heap.size + 2 < w2.heap.size := by have := hg2.size; simp at this; omega
       have hsa2 : w.heap.size < w2.heap.size := by omega
       have hsb2 : w.heap.size + 1 < w2.heap.size := by omega
       have hgl := hO2.lt
       have hgB := hO2.1
       have H2 := Lib.hid (And.intro hO2 (And.intro hx2 (And.intro hy2 hb2)))
       clear hO2 hg2 hx2 hy2 hb2)
    | (at_builtin
       refine wpList_app _ rfl (.tmp 18) (.tmp 20) _ rfl w2.heap.size 60 i1 _ 3 24 Tryd.underlying29 hi1 hz1 hs1 hy1 rfl (by omega) (.slice (some ⟨w2.heap.size, 0, none⟩) 0 0) 0 [] rfl
         (by simpa using own_empty (w2.setCell ⟨w.heap.size, 5, none⟩ (.slice (some ⟨g, 0, none⟩) (segs.length + 1) c1)) w2.heap.size 60 3 (by simp)) _ B prods.length d (prods.flatMap tri) rfl (tri_len _)
         (HB.out.below ((H2.out.2.2.2.setCell (p := ⟨w.heap.size, 5, none⟩) (Nat.le_refl _) _).alloc (by simp <;> omega) _)) (one_tri _) (by unfold maxLen; omega) (by omega) (by simp <;> omega) ?_
       intro v3 w3 hown3 hg3 _
       have hx3 := ((H2.out.2.1.set_ 5 (.slice (some ⟨g, 0, none⟩) (segs.length + 1) c1)).alloc (.cells #[] 60)).grown hg3 (by simp [Value.ownBlock] <;> omega)
       have hy3 := ((H2.out.2.2.1.far (p := ⟨w.heap.size, 5, none⟩) (by simp) (.slice (some ⟨g, 0, none⟩) (segs.length + 1) c1)).alloc (.cells #[] 60)).grown hg3 (by simp [Value.ownBlock] <;> omega)
       have hO3 := ((H2.out.1.far (p := ⟨w.heap.size, 5, none⟩) (by simp <;> omega) (.slice (some ⟨g, 0, none⟩) (segs.length + 1) c1)).alloc (.cells #[] 60)).grown hg3 (by simp [Value.ownBlock] <;> omega)
       have hb3 := ((H2.out.2.2.2.setCell (p := ⟨w.heap.size, 5, none⟩) (Nat.le_refl _) (.slice (some ⟨g, 0, none⟩) (segs.length + 1) c1)).alloc (by simp <;> omega) (.cells #[] 60)).grown hg3 (by simp <;> omega) (by simp [Value.ownBlock] <;> omega)
       have hcx3 := hx3.cell
       have hcy3 := hy3.cell
       have hfx3 := hx3.free
       have hfy3 := hy3.free
       have hsz3 : w2.heap.size < w3.heap.size := by have := hg3.size; simp at this; omega
       have hsa3 : w.heap.size < w3.heap.size := by omega
       have hsb3 : w.heap.size + 1 < w3.heap.size := by omega
       have H3 := Lib.hid (And.intro hown3 (And.intro hO3 (And.intro hx3 (And.intro hy3 hb3))))
       clear hown3 hg3 hx3 hy3 hb3 hO3)
    | (at_builtin
       refine wpList_app1 _ rfl (.tmp 21) (.tmp 23) _ rfl w2.heap.size 60 i1 _ 3 24 Tryd.underlying29 hi1 hz1 hs1 hy1 rfl (by omega) v3 (0 + prods.length) _ rfl (H3.out.1.alloc _) _ _ 1 1 [.int .i64 (-77), .int .i64 0, .int .i64 0] rfl rfl (rd_new _ _ _) (by simp [Value.oneCell']) (by unfold maxLen; omega) (by omega) (by simp <;> omega) (by omega) ?_
       intro h d1 w4 hO4 hd4 hm4 _ hg4 _
       have hx4 := (H3.out.2.2.1.alloc (.cells #[.int .i64 (-77), .int .i64 0, .int .i64 0] 60)).grown hg4 (fun e => by have := H3.out.1.lt _ e.symm; omega)
       have hy4 := (H3.out.2.2.2.1.alloc (.cells #[.int .i64 (-77), .int .i64 0, .int .i64 0] 60)).grown hg4 (fun e => by have := H3.out.1.lt _ e.symm; omega)
       have hO5 := (H3.out.2.1.alloc (.cells #[.int .i64 (-77), .int .i64 0, .int .i64 0] 60)).grown hg4 (fun e => by have := H3.out.1.lt _ e.symm; omega)
       have hb4 := (H3.out.2.2.2.2.alloc (by omega) (.cells #[.int .i64 (-77), .int .i64 0, .int .i64 0] 60)).grown hg4 (by simp <;> omega) (fun k e => by have := H3.out.1.lt _ e; omega)
       have hcx4 := hx4.cell
       have hcy4 := hy4.cell
       have hfx4 := hx4.free
       have hfy4 := hy4.free
       have hhB := hO4.1
       have H4 := Lib.hid (And.intro hO4 (And.intro hO5 hb4))
       clear hO4 hg4 hx4 hy4 hb4 hO5))
  refine bodyPost_ret (v := manV id ns nx mk cl (.slice (some ⟨g, 0, none⟩) segs.length c1) (.slice (some ⟨h, 0, none⟩) prods.length d1)) ?_ rfl ?_
  · simp [results, Tryd.results9, go_sem, hcy4]
  refine ⟨g, h, c1, d1, rfl, ?_⟩
  have a1 : g ≠ h := by omega
  have a2 : segs.length < c1 := by omega
  have a3 : prods.length < d1 := by omega
  refine And.intro ?_ (And.intro ?_ (And.intro ?_ (And.intro a1 (And.intro a2 a3))))
  · repeat (first | with_reducible exact H4.out.2.2 | refine Below.setCell ?_ (by simp) _)
  · refine Own.le (B := w.heap.size + 2) ?_ (by omega)
    repeat (with_reducible refine Own.far ?_ (by simp <;> omega) _)
    exact H4.out.2.1
  · refine Own.le (B := w2.heap.size) ?_ (by omega)
    repeat (with_reducible refine Own.far ?_ (by simp <;> omega) _)
    exact H4.out.1
end Go.Proofs.YtbmbgkgjlnookaaDoor
