import Derived.Test.YtbmbgkgjlnookaaDoorOMan8
namespace Go.Proofs.YtbmbgkgjlnookaaDoor
open Go.RowKit Go.Maps

theorem info_topic : (Tryd.prog.info? 62).map (fun i => (i.zero, i.size, i.bytes)) = some (some (.agg #[.int .i64 0, .string ByteArray.empty, .int .i64 0, .int .i64 0]), 4, 40) := by kernel_rfl
theorem one_quad (l : List T4) : ∀ u ∈ l.flatMap quad, u.oneCell' = true := by
  intro u hu
  obtain ⟨p, _, hp⟩ := List.mem_flatMap.1 hu
  simp [quad] at hp
  rcases hp with rfl | rfl | rfl | rfl <;> rfl

set_option maxRecDepth 100000 in
set_option maxHeartbeats 4000000 in
theorem copiedCat_any (nid : Int) (A : Option Addr) (c : Nat) (l : List T4) (w : World) (hA : Rd w w.heap.size A (l.flatMap quad)) (ha : l.length * 40 ≤ 140737488351232) :
    Calls Tryd.prog 10 #[.agg #[.int .i64 nid, .slice A l.length c]] w fun e w' =>
      ∃ g c', e = .returned (.agg #[.int .i64 nid, .slice (some ⟨g, 0, none⟩) l.length c']) ∧
        Below w.heap.size w w' ∧ Own w' w.heap.size g 62 (l.flatMap quad ++ [.int .i64 (-77), .string ByteArray.empty, .int .i64 0, .int .i64 0]) ∧ l.length < c' := by
  obtain ⟨i1, hi1, hz1, hs1, hy1⟩ := info_parts info_topic
  have hb2 : Below w.heap.size w ((w.alloc (.cells #[.int .i64 nid, .slice A l.length c] 34)).alloc (.cells #[.int .i64 0, .slice none 0 0] 34)) := ((Below.refl _ _).alloc (Nat.le_refl _) _).alloc (by simp) _
  have hx2 : Box ((w.alloc (.cells #[.int .i64 nid, .slice A l.length c] 34)).alloc (.cells #[.int .i64 0, .slice none 0 0] 34)) w.heap.size 34 #[.int .i64 nid, .slice A l.length c] := (Box.new w _ _).alloc _
  have hy2 : Box ((w.alloc (.cells #[.int .i64 nid, .slice A l.length c] 34)).alloc (.cells #[.int .i64 0, .slice none 0 0] 34)) (w.heap.size + 1) 34 #[.int .i64 0, .slice none 0 0] := by simpa using Box.new (w.alloc (.cells #[.int .i64 nid, .slice A l.length c] 34)) 34 #[.int .i64 0, .slice none 0 0]
  have hown0 : (((w.alloc (.cells #[.int .i64 nid, .slice A l.length c] 34)).alloc (.cells #[.int .i64 0, .slice none 0 0] 34)).alloc (.cells #[] 62)).ownsRow (w.heap.size + 2) 62 4 (.slice (some ⟨w.heap.size + 2, 0, none⟩) 0 0) 0 [] := by simpa using own_empty ((w.alloc (.cells #[.int .i64 nid, .slice A l.length c] 34)).alloc (.cells #[.int .i64 0, .slice none 0 0] 34)) (w.heap.size + 2) 62 4 (by simp)
  have hrd0 : Rd (((w.alloc (.cells #[.int .i64 nid, .slice A l.length c] 34)).alloc (.cells #[.int .i64 0, .slice none 0 0] 34)).alloc (.cells #[] 62)) w.heap.size A (l.flatMap quad) := hA.below (hb2.alloc (by simp <;> omega) _)
  have Hb3 := Lib.hid (hb2.alloc (by simp <;> omega) (.cells #[] 62))
  have Hx3 := Lib.hid (hx2.alloc (.cells #[] 62))
  have Hy3 := Lib.hid (hy2.alloc (.cells #[] 62))
  have Hown0 := Lib.hid hown0
  have Hrd0 := Lib.hid hrd0
  clear hb2 hx2 hy2 hown0 hrd0 hA
  go_enter Tryd.func10, Tryd.ntmps10
  go_wp2_with (first
    | (at_builtin
       refine wpList_app _ rfl (.tmp 7) (.tmp 9) _ rfl (w.heap.size + 2) 62 i1 _ 4 40 Tryd.underlying32 hi1 hz1 hs1 hy1 rfl (by omega) (.slice (some ⟨w.heap.size + 2, 0, none⟩) 0 0) 0 [] rfl Hown0.out _ A l.length c (l.flatMap quad) rfl (quad_len _) Hrd0.out (one_quad _) (by unfold maxLen; omega) (by omega) (by simp <;> omega) ?_
       intro v1 w1 hown1 hg1 _
       have hx1 := Hx3.out.grown hg1 (by simp [Value.ownBlock] <;> omega)
       have hy1 := Hy3.out.grown hg1 (by simp [Value.ownBlock] <;> omega)
       have hb1 := Hb3.out.grown hg1 (by simp <;> omega) (by simp [Value.ownBlock] <;> omega)
       have hcx1 := hx1.cell
       have hcy1 := hy1.cell
       have hfx1 := hx1.free
       have hfy1 := hy1.free
       have hsz1 : w.heap.size + 2 < w1.heap.size := by have := hg1.size; simp at this; omega
       have hsa1 : w.heap.size < w1.heap.size := by omega
       have hsb1 : w.heap.size + 1 < w1.heap.size := by omega
       have H1 := Lib.hid (And.intro hown1 (And.intro hx1 (And.intro hy1 hb1)))
       clear hown1 hg1 hx1 hy1 hb1)
    | (at_builtin
       refine wpList_app1 _ rfl (.tmp 10) (.tmp 12) _ rfl (w.heap.size + 2) 62 i1 _ 4 40 Tryd.underlying32 hi1 hz1 hs1 hy1 rfl (by omega) v1 (0 + l.length) _ rfl (H1.out.1.alloc _) _ _ 1 1 [.int .i64 (-77), .string ByteArray.empty, .int .i64 0, .int .i64 0] rfl rfl (rd_new _ _ _) (by simp [Value.oneCell']) (by unfold maxLen; omega) (by omega) (by simp <;> omega) (by omega) ?_
       intro g c1 w2 hO2 hc2 hm2 _ hg2 _
       have hx2 := (H1.out.2.1.alloc (.cells #[.int .i64 (-77), .string ByteArray.empty, .int .i64 0, .int .i64 0] 62)).grown hg2 (fun e => by have := H1.out.1.lt _ e.symm; omega)
       have hy2 := (H1.out.2.2.1.alloc (.cells #[.int .i64 (-77), .string ByteArray.empty, .int .i64 0, .int .i64 0] 62)).grown hg2 (fun e => by have := H1.out.1.lt _ e.symm; omega)
       have hb2 := (H1.out.2.2.2.alloc (by omega) (.cells #[.int .i64 (-77), .string ByteArray.empty, .int .i64 0, .int .i64 0] 62)).grown hg2 (by simp <;> omega) (fun k e => by have := H1.out.1.lt _ e; omega)
       have hcx2 := hx2.cell
       have hcy2 := hy2.cell
       have hfx2 := hx2.free
       have hfy2 := hy2.free
       have hgB := hO2.1
       have H2 := Lib.hid (And.intro hO2 hb2)
       clear hO2 hg2 hx2 hy2 hb2))
  refine bodyPost_ret (v := .agg #[.int .i64 nid, .slice (some ⟨g, 0, none⟩) l.length c1]) ?_ rfl ?_
  · simp [results, Tryd.results10, go_sem, hcy2]
  refine ⟨g, c1, rfl, ?_⟩
  have a2 : l.length < c1 := by omega
  refine And.intro ?_ (And.intro ?_ a2)
  · repeat (first | with_reducible exact H2.out.2 | refine Below.setCell ?_ (by simp) _)
  · refine Own.le (B := w.heap.size + 2) ?_ (by omega)
    repeat (with_reducible refine Own.far ?_ (by simp <;> omega) _)
    exact H2.out.1
end Go.Proofs.YtbmbgkgjlnookaaDoor
