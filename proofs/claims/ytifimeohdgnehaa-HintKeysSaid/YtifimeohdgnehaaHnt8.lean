import Derived.Test.YtifimeohdgnehaaHnt7
import Derived.StillTailTactics
namespace Go.Proofs.Ytifimeohdgnehaa
open Go.RowKit Go.Maps

theorem Own.get {w : World} {B g : Nat} {t : TypeId} {cs : List Value} (h : Own w B g t cs) {i : Nat} {u : Value} (hi : cs[i]? = some u) : w.cell? ⟨g, i, none⟩ = some u := by
  have hl := (List.getElem?_eq_some_iff.1 hi).1
  rw [h.cell hl, ← hi, List.getElem?_eq_getElem hl]
theorem Own.rd_pre {w : World} {B g : Nat} {t : TypeId} {xs ts : List Value} (h : Own w B g t (xs ++ ts)) : Rd w w.heap.size (some ⟨g, 0, none⟩) xs :=
  h.rd h.lt fun j u hj => by rw [List.getElem?_append_left (List.getElem?_eq_some_iff.1 hj).1]; exact hj
theorem Own.tail {w : World} {B g : Nat} {t : TypeId} {xs ts : List Value} (h : Own w B g t (xs ++ ts)) {n j : Nat} (hn : xs.length = n) {u : Value} (hu : ts[j]? = some u) : w.cell? ⟨g, n + j, none⟩ = some u :=
  h.get (by rw [List.getElem?_append_right (by omega), hn, Nat.add_sub_cancel_left]; exact hu)
theorem info_he : (Try.prog.info? 33).map (fun i => (i.zero, i.size, i.bytes)) = some (some (.agg #[.string ByteArray.empty, .int .i64 0, .int .i64 0, .bool false, .int .i64 0, .int .i64 0]), 6, 56) := by kernel_rfl
theorem one_six (l : List HE) : ∀ u ∈ l.flatMap six, u.oneCell' = true := by
  intro u hu
  obtain ⟨p, _, hp⟩ := List.mem_flatMap.1 hu
  simp [six] at hp
  rcases hp with rfl | rfl | rfl | rfl | rfl | rfl <;> rfl
theorem below_drew {B : Nat} {a w : World} (h : Below B a w) : Below B a w.drew := ⟨h.os, h.tape, h.output, h.size, h.block⟩
/-- The marks behind a twin's entries. -/
def marks : List Value := [.string { data := #[109, 97, 114, 107] }, .int .i64 (-1), .int .i64 0, .bool false, .int .i64 0, .int .i64 0, .string { data := #[109, 97, 114, 107] }, .int .i64 (-2), .int .i64 0, .bool false, .int .i64 0, .int .i64 0]

set_option maxRecDepth 100000 in
set_option maxHeartbeats 4000000 in
theorem twin_any (seg size : Int) (A : Option Addr) (c : Nat) (l : List HE) (w : World) (hA : Rd w w.heap.size A (l.flatMap six)) (ha : l.length * 56 ≤ 140737488351232) :
    Calls Try.prog 7 #[hV seg size (.slice A l.length c)] w fun e w' =>
      ∃ g c', e = .returned (hV seg size (.slice (some ⟨g, 0, none⟩) l.length c')) ∧
        Below w.heap.size w w' ∧ Own w' w.heap.size g 33 (l.flatMap six ++ marks) ∧ l.length + 2 ≤ c' := by
  unfold hV
  obtain ⟨i1, hi1, hz1, hs1, hy1⟩ := info_parts info_he
  have hb2 : Below w.heap.size w ((w.alloc (.cells #[.int .i64 seg, .int .i64 size, .slice A l.length c] 24)).alloc (.cells #[.int .i64 0, .int .i64 0, .slice none 0 0] 24)) := ((Below.refl _ _).alloc (Nat.le_refl _) _).alloc (by simp) _
  have hx2 : Box ((w.alloc (.cells #[.int .i64 seg, .int .i64 size, .slice A l.length c] 24)).alloc (.cells #[.int .i64 0, .int .i64 0, .slice none 0 0] 24)) w.heap.size 24 #[.int .i64 seg, .int .i64 size, .slice A l.length c] := (Box.new w _ _).alloc _
  have hy2 : Box ((w.alloc (.cells #[.int .i64 seg, .int .i64 size, .slice A l.length c] 24)).alloc (.cells #[.int .i64 0, .int .i64 0, .slice none 0 0] 24)) (w.heap.size + 1) 24 #[.int .i64 0, .int .i64 0, .slice none 0 0] := by simpa using Box.new (w.alloc (.cells #[.int .i64 seg, .int .i64 size, .slice A l.length c] 24)) 24 #[.int .i64 0, .int .i64 0, .slice none 0 0]
  have hown0 : (((w.alloc (.cells #[.int .i64 seg, .int .i64 size, .slice A l.length c] 24)).alloc (.cells #[.int .i64 0, .int .i64 0, .slice none 0 0] 24)).alloc (.cells #[] 33)).ownsRow (w.heap.size + 2) 33 6 (.slice (some ⟨w.heap.size + 2, 0, none⟩) 0 0) 0 [] := by simpa using own_empty ((w.alloc (.cells #[.int .i64 seg, .int .i64 size, .slice A l.length c] 24)).alloc (.cells #[.int .i64 0, .int .i64 0, .slice none 0 0] 24)) (w.heap.size + 2) 33 6 (by simp)
  have hrd0 : Rd (((w.alloc (.cells #[.int .i64 seg, .int .i64 size, .slice A l.length c] 24)).alloc (.cells #[.int .i64 0, .int .i64 0, .slice none 0 0] 24)).alloc (.cells #[] 33)) w.heap.size A (l.flatMap six) := hA.below (hb2.alloc (by simp <;> omega) _)
  have Hb3 := Lib.hid (hb2.alloc (by simp <;> omega) (.cells #[] 33))
  have Hx3 := Lib.hid (hx2.alloc (.cells #[] 33))
  have Hy3 := Lib.hid (hy2.alloc (.cells #[] 33))
  have Hown0 := Lib.hid hown0
  have Hrd0 := Lib.hid hrd0
  clear hb2 hx2 hy2 hown0 hrd0 hA
  go_enter Try.func7, Try.ntmps7
  go_wp2_with (first
    | (at_builtin
       refine wpList_app _ rfl (.tmp 5) (.tmp 7) _ rfl (w.heap.size + 2) 33 i1 _ 6 56 Try.underlying22 hi1 hz1 hs1 hy1 rfl (by omega) (.slice (some ⟨w.heap.size + 2, 0, none⟩) 0 0) 0 [] rfl Hown0.out _ A l.length c (l.flatMap six) rfl (six_len _) Hrd0.out (one_six _) (by unfold maxLen; omega) (by omega) (by simp <;> omega) ?_
       intro v1 w1 hown1 hg1 _
       rw [Nat.zero_add, List.nil_append] at hown1
       obtain ⟨b1, cap1, rfl⟩ := ownsRow_slice hown1
       have hx1 := Hx3.out.grown hg1 (by simp [Value.ownBlock] <;> omega)
       have hy1 := Hy3.out.grown hg1 (by simp [Value.ownBlock] <;> omega)
       have hb1 := Hb3.out.grown hg1 (by simp <;> omega) (by simp [Value.ownBlock] <;> omega)
       have hcx1 := hx1.cell
       have hcy1 := hy1.cell
       have hfx1 := hx1.free
       have hfy1 := hy1.free
       have hsz1 : w.heap.size + 2 < w1.heap.size := by have := hg1.size; simp at this; omega
       have hsa1 : w.heap.size < w1.heap.size := by omega
       have hsb1 : w.heap.size + 1 < w1.heap.size := by omega
       have H1 := Lib.hid (And.intro hown1 (And.intro hx1 (And.intro hy1 hb1)))
       clear hown1 hg1 hx1 hy1 hb1)
    | (at_builtin
       refine wpList_app1 _ rfl (.tmp 11) (.tmp 14) _ rfl (w.heap.size + 2) 33 i1 _ 6 56 Try.underlying22 hi1 hz1 hs1 hy1 rfl (by omega) (.slice b1 l.length cap1) l.length _ rfl (H1.out.1.alloc _) _ _ 2 2 marks rfl rfl (rd_new _ _ _) (by simp [marks, Value.oneCell']) (by unfold maxLen; omega) (by omega) (by simp <;> omega) (by omega) ?_
       intro g c1 w2 hO2 hc2 hm2 _ hg2 _
       have hx2 := (H1.out.2.1.alloc (.cells marks.toArray 33)).grown hg2 (fun e => by have := H1.out.1.lt _ e.symm; omega)
       have hy2 := (H1.out.2.2.1.alloc (.cells marks.toArray 33)).grown hg2 (fun e => by have := H1.out.1.lt _ e.symm; omega)
       have hb2 := (H1.out.2.2.2.alloc (by omega) (.cells marks.toArray 33)).grown hg2 (by simp <;> omega) (fun k e => by have := H1.out.1.lt _ e; omega)
       have hcx2 := hx2.cell
       have hcy2 := hy2.cell
       have hfx2 := hx2.free
       have hfy2 := hy2.free
       have hgB := hO2.1
       unfold maxLen at hm2
       have H2 := Lib.hid (And.intro hO2 hb2)
       clear hO2 hg2 hx2 hy2 hb2))
  have hq0 : (0 : Int) ≤ (l.length : Int) := by omega
  have hq1 : (l.length : Int) ≤ (c1 : Int) := by omega
  have hsl := fun W => run_slice_h (P := Try.prog) W 22 (some ⟨g, 0, none⟩) (l.length + 2) c1 Try.underlying22 .i64 l.length hq0 hq1
  go_still_tail 8, (by kernel_rfl)
  go_wp2
  refine bodyPost_ret (v := .agg #[.int .i64 seg, .int .i64 size, .slice (some ⟨g, 0, none⟩) l.length c1]) ?_ rfl ?_
  · simp [results, Try.results7, go_sem, hcy2]
  refine ⟨g, c1, rfl, ?_⟩
  have a2 : l.length + 2 ≤ c1 := by omega
  refine And.intro ?_ (And.intro ?_ a2)
  · refine below_drew ?_
    repeat (first | with_reducible exact H2.out.2 | refine Below.setCell ?_ (by simp) _)
  · refine Own.le (B := w.heap.size + 2) ?_ (by omega)
    refine Own.drew ?_
    repeat (with_reducible refine Own.far ?_ (by simp <;> omega) _)
    exact H2.out.1

set_option maxRecDepth 100000 in
set_option maxHeartbeats 4000000 in
theorem sameHint_eq (seg size : Int) (A A' : Option Addr) (c c' : Nat) (l : List HE) (w : World) (hA : Rd w w.heap.size A (l.flatMap six)) (hA' : Rd w w.heap.size A' (l.flatMap six)) (hmx : l.length ≤ 140737488351232) :
    Calls Try.prog 14 #[hV seg size (.slice A l.length c), hV seg size (.slice A' l.length c')] w fun e w' =>
      e = .returned (.bool true) ∧ Below w.heap.size w w' := by
  unfold hV
  go_enter Try.func14, Try.ntmps14
  go_wp2
  go_loopw [5] (fun i wr => ∃ (k : Nat), k ≤ l.length ∧ i = .int .i64 k ∧ Below w.heap.size w wr ∧
      Box wr w.heap.size 24 #[.int .i64 seg, .int .i64 size, .slice A l.length c] ∧ Box wr (w.heap.size + 1) 24 #[.int .i64 seg, .int .i64 size, .slice A' l.length c'])
    (fun i _ => l.length - (intOf i).toNat)
  case atStart =>
    refine ⟨0, Nat.zero_le _, rfl, ((Below.refl _ _).alloc (Nat.le_refl _) _).alloc (by simp) _, (Box.new w _ _).alloc _, ?_⟩
    simpa using Box.new (w.alloc (.cells #[.int .i64 seg, .int .i64 size, .slice A l.length c] 24)) 24 #[.int .i64 seg, .int .i64 size, .slice A' l.length c']
  case round =>
    obtain ⟨k, hk, rfl, hb, hX, hY⟩ := hrel
    have hcx := hX.cell
    have hcy := hY.cell
    by_cases hlt : k < l.length
    · have hk0 : (0 : Int) ≤ k := by omega
      have hk1 : (k : Int) < l.length := by omega
      obtain ⟨ad, rfl, had, p0, p1, p2, p3, p4, p5⟩ := (hA.below hb).six_ hlt
      obtain ⟨ad', rfl, had', q0, q1, q2, q3, q4, q5⟩ := (hA'.below hb).six_ hlt
      have H := Lib.hid (And.intro hb (And.intro hX hY))
      clear hb hX hY
      generalize l[k] = p at p0 p1 p2 p3 p4 p5 q0 q1 q2 q3 q4 q5
      go_wp2
      go_quiet (fail)
      go_wp2
      go_roundw
      case rel => exact ⟨k + 1, by omega, by go_num, below_drewN H.out.1 _, H.out.2.1.drewN _, H.out.2.2.drewN _⟩
      case measure => simp [intOf]; omega
    · go_wp2
      go_ret
      exact ⟨rfl, hb⟩

set_option maxRecDepth 100000 in
set_option maxHeartbeats 4000000 in
theorem kept_any (seg size : Int) (g c : Nat) (A : Option Addr) (c' : Nat) (l : List HE) (B : Nat) (w : World)
    (hO : Own w B g 33 (l.flatMap six ++ marks)) (hA : Rd w w.heap.size A (l.flatMap six)) (hc : l.length + 2 ≤ c) (hcm : l.length ≤ 140737488351232) :
    Calls Try.prog 11 #[hV seg size (.slice (some ⟨g, 0, none⟩) l.length c), hV seg size (.slice A l.length c')] w fun e w' =>
      e = .returned (.bool true) ∧ Below w.heap.size w w' := by
  have hgl := hO.lt
  have hb0 : ∀ o1 o2, Below w.heap.size w ((w.alloc o1).alloc o2) := fun o1 o2 => ((Below.refl _ _).alloc (Nat.le_refl _) _).alloc (by simp) _
  have Hb0 := Lib.hid hb0
  have HA := Lib.hid hA
  have HO := Lib.hid hO
  clear hb0 hA hO
  unfold hV
  go_enter Try.func11, Try.ntmps11
  go_wp2_with (go_at_call 14
               refine (sameHint_eq seg size _ _ c c' l _ ((HO.out.alloc _).alloc _).rd_pre ((HA.out.below (Hb0.out _ _)).mono (by simp <;> omega)) hcm).mono ?_
               rintro e w1 ⟨rfl, hb1⟩
               have z1 : w1.cell? ⟨g, l.length * 6 + 1, none⟩ = some (.int .i64 (-1)) := (hb1.cell (by simp; omega)).trans (((HO.out.alloc _).alloc _).tail (six_len _) rfl)
               have z2 : w1.cell? ⟨g, l.length * 6 + 7, none⟩ = some (.int .i64 (-2)) := (hb1.cell (by simp; omega)).trans (((HO.out.alloc _).alloc _).tail (six_len _) rfl)
               have e2 : (l.length + 1) * 6 + 1 = l.length * 6 + 7 := by omega
               have z3 : w1.cell? ⟨g, (l.length + 1) * 6 + 1, none⟩ = some (.int .i64 (-2)) := by rw [e2]; exact z2
               have Hb1 := Lib.hid ((Hb0.out _ _).trans (hb1.mono (by simp <;> omega)))
               clear hb1 e2)
  go_ret
  exact ⟨rfl, Hb1.out⟩

set_option maxRecDepth 100000 in
set_option maxHeartbeats 4000000 in
theorem sameBytes_eq (n : Nat) (A A' : Option Addr) (c c' : Nat) (l : List UInt8) (w : World) (hn : l.length = n) (hA : Rd w w.heap.size A (bv l)) (hA' : Rd w w.heap.size A' (bv l)) (hmx : n ≤ 140737488351232) :
    Calls Try.prog 10 #[.slice A n c, .slice A' n c'] w fun e w' =>
      e = .returned (.bool true) ∧ Below w.heap.size w w' := by
  have Hn := Lib.hid hn
  clear hn
  go_enter Try.func10, Try.ntmps10
  go_wp2
  go_loopw [5] (fun i wr => ∃ (k : Nat), k ≤ n ∧ i = .int .i64 k ∧ Below w.heap.size w wr)
    (fun i _ => n - (intOf i).toNat)
  case atStart => exact ⟨0, Nat.zero_le _, rfl, Below.refl _ _⟩
  case round =>
    obtain ⟨k, hk, rfl, hb⟩ := hrel
    by_cases hlt : k < n
    · have hk0 : (0 : Int) ≤ k := by omega
      have hk1 : (k : Int) < n := by omega
      have hkl : k < l.length := by rw [Hn.out]; exact hlt
      have hg : (bv l)[k]? = some (.int .u8 l[k].toNat) := by simp [bv, hkl]
      obtain ⟨ad, rfl, had, p0⟩ := (hA.below hb) _ _ hg
      obtain ⟨ad', rfl, had', q0⟩ := (hA'.below hb) _ _ hg
      have H := Lib.hid hb
      clear hb hg
      generalize l[k] = p at p0 q0
      go_wp2
      go_quiet (fail)
      go_wp2
      go_roundw
      case rel => exact ⟨k + 1, by omega, by go_num, below_drewN H.out _⟩
      case measure => simp [intOf]; omega
    · go_wp2
      go_ret
      exact ⟨rfl, hb⟩
end Go.Proofs.Ytifimeohdgnehaa
