import Derived.Test.YtbmbgkgjlnookaaDoorNq10
/- ManifestNames: manifest.Parse, walked. -/
namespace Go.Proofs.YtbmbgkgjlnookaaDoor
open Go.Shelf Go.RowKit

set_option maxRecDepth 100000 in
set_option maxHeartbeats 4000000 in
theorem parseM_3s (s x y z r : List UInt8) (t : Bool) (w : World) (E : Env w)  (hs : s.length ≤ 1048576) (hr : r.length ≤ 1048576)
    (hne : ¬ s = []) (hcut : cutT s = (r, t)) (hcat : ¬ r = [99, 97, 116, 97, 108, 111, 103]) (hspl : spl r = [x, y, z]) (hlx : x.length ≤ 1048576) (hly : y.length ≤ 1048576) (h0 : z = [115, 101, 103]) :
    Calls Tryd.prog 7 #[.string ⟨s.toArray⟩] w fun e w' => e = .returned (pickV (nameN ⟨1, atoiV (Lib.trimPrefix x [116]), atoiV y, t⟩) s (FN.v ⟨1, atoiV (Lib.trimPrefix x [116]), atoiV y, t⟩)) ∧ Below w.heap.size w w' := by
  have C1 := Lib.hid (cut_call s hs)
  rw [hcut] at C1
  have C2 := Lib.hid (split_call r hr)
  rw [hspl] at C2
  have C3 := Lib.hid (trim_call x)
  have C4 := Lib.hid (atoi_call (Lib.trimPrefix x [116]) (trim_len hlx))
  have C5 := Lib.hid (atoi_call y hly)
  have C6 := Lib.hid (nameM_any 1 (atoiV (Lib.trimPrefix x [116])) (atoiV y) t)
  generalize hid1 : atoiV (Lib.trimPrefix x [116]) = id1 at C4 C6
  generalize hsg1 : atoiV y = sg1 at C5 C6
  generalize htx : Lib.trimPrefix x [116] = tx at C3 C4
  generalize hnm : nameN ⟨1, id1, sg1, t⟩ = nm at C6
  have k0 := beq_no2 hcat
  have k1 := beq_no2 hne
  have g0 := beq_yes2 h0
  have EE := Lib.hid E
  clear E hcut hspl hlx hcat hne hs hr htx hid1 hsg1 hly h0
  obtain ⟨S, hS⟩ : ∃ S : ByteArray, (⟨s.toArray⟩ : ByteArray) = S := ⟨_, rfl⟩
  obtain ⟨R, hR⟩ : ∃ S : ByteArray, (⟨r.toArray⟩ : ByteArray) = S := ⟨_, rfl⟩
  obtain ⟨X, hX⟩ : ∃ S : ByteArray, (⟨x.toArray⟩ : ByteArray) = S := ⟨_, rfl⟩
  obtain ⟨T, hT⟩ : ∃ S : ByteArray, (⟨tx.toArray⟩ : ByteArray) = S := ⟨_, rfl⟩
  obtain ⟨Y, hY⟩ : ∃ S : ByteArray, (⟨y.toArray⟩ : ByteArray) = S := ⟨_, rfl⟩
  obtain ⟨Z, hZ⟩ : ∃ S : ByteArray, (⟨z.toArray⟩ : ByteArray) = S := ⟨_, rfl⟩
  obtain ⟨NM, hNM⟩ : ∃ S : ByteArray, (⟨nm.toArray⟩ : ByteArray) = S := ⟨_, rfl⟩
  have HS := Lib.hid (And.intro hS hNM)
  simp only [List.map_cons, List.map_nil, List.length_cons, List.length_nil, Nat.zero_add, Nat.reduceAdd, hS, hR, hX, hT, hY, hZ, hNM] at C1 C2 C3 C4 C5 C6 k0 k1 g0
  simp only [hS]
  clear hS hR hX hT hY hZ hNM
  go_enter Tryd.func7, Tryd.ntmps7
  go_upto_region 7 with (first
    | (go_at_call 27
       refine (C1.out _).mono ?_
       rintro e w1 ⟨rfl, hw1⟩
       rw [hw1]
       clear hw1)
    | go_in)
  obtain ⟨W0, hW0⟩ : ∃ W0, (w.alloc (.cells #[.int .i64 0, .int .i64 0, .int .i64 0, .bool false] 23)).alloc (.cells #[.int .i64 0, .int .i64 0, .int .i64 0, .bool t] 23) = W0 := ⟨_, rfl⟩
  have hz0 : W0.heap.size = w.heap.size + 2 := by rw [← hW0]; simp
  have hb0 : Below w.heap.size w W0 := by rw [← hW0]; exact (Below.al _ _).alloc (by simp) _
  have hx2 : Box W0 w.heap.size 23 #[.int .i64 0, .int .i64 0, .int .i64 0, .bool false] := by rw [← hW0]; exact (Box.new _ _ _).alloc _
  have hx3 : Box W0 (w.heap.size + 1) 23 #[.int .i64 0, .int .i64 0, .int .i64 0, .bool t] := by rw [← hW0]; simpa using Box.new (w.alloc (.cells #[.int .i64 0, .int .i64 0, .int .i64 0, .bool false] 23)) 23 #[.int .i64 0, .int .i64 0, .int .i64 0, .bool t]
  rw [hW0]
  clear hW0
  have H0 := Lib.hid (And.intro hz0 (And.intro hb0 (And.intro hx2 hx3)))
  clear hz0 hb0 hx2 hx3
  go_upto_region 9 with (first
    | (go_at_call 28
       refine (C2.out _ (EE.out.below H0.out.2.1)).mono ?_
       rintro e w1 ⟨rfl, hw1⟩
       have hb1 : Below W0.heap.size W0 w1 := by rw [hw1]; exact Below.al _ _
       have hz1 : w1.heap.size = W0.heap.size + 1 := by rw [hw1]; simp
       have hxp : Box w1 W0.heap.size 9 #[.string X, .string Y, .string Z] := by rw [hw1]; exact Box.new _ _ _
       have hxc := hxp.cell
       have H1 := Lib.hid (And.intro hz1 (And.intro (H0.out.2.1.trans (hb1.mono H0.out.2.1.size)) (And.intro (H0.out.2.2.1.next hb1) (And.intro (H0.out.2.2.2.next hb1) hxp))))
       clear hb1 hz1 hxp hw1)
    | (go_at_call 30
       refine (C3.out _).mono ?_
       rintro e w2 ⟨rfl, hw2⟩
       rw [hw2]
       clear hw2)
    | (go_at_call 29
       refine (C4.out _ (EE.out.below H1.out.2.1)).mono ?_
       rintro e w3 ⟨⟨xe, rfl⟩, hb3⟩
       clear hxc
       have hx3 := H1.out.2.2.2.1.next hb3
       have hxc := hx3.cell
       have hxf := hx3.free
       have hxl := hx3.lt
       have H3 := Lib.hid (And.intro (H1.out.2.1.trans (hb3.mono H1.out.2.1.size)) (And.intro (H1.out.2.2.1.next hb3) (And.intro hx3 (H1.out.2.2.2.2.next hb3))))
       clear hb3 hx3)
    | go_in)
  obtain ⟨W4, hW4⟩ : ∃ Wx, w3.setCell ⟨w.heap.size + 1, 1, none⟩ (.int .i64 id1) = Wx := ⟨_, rfl⟩
  have hb4 : Below w.heap.size w W4 := by rw [← hW4]; exact H3.out.1.setCell (by simp) _
  have hx2 : Box W4 w.heap.size 23 #[.int .i64 0, .int .i64 0, .int .i64 0, .bool false] := by rw [← hW4]; exact H3.out.2.1.far (by simp) _
  have hx3 : Box W4 (w.heap.size + 1) 23 #[.int .i64 0, .int .i64 id1, .int .i64 0, .bool t] := by rw [← hW4]; exact H3.out.2.2.1.set_ 1 _
  have hxp : Box W4 W0.heap.size 9 #[.string X, .string Y, .string Z] := by rw [← hW4]; exact H3.out.2.2.2.far (by have := H0.out.1; simp; omega) _
  rw [hW4]
  clear hxc hxf hxl hW4
  have hxc := hx3.cell
  have hxf := hx3.free
  have hxl := hx3.lt
  have hxq := hxp.cell
  have H4 := Lib.hid (And.intro hb4 (And.intro hx2 (And.intro hx3 hxp)))
  clear hb4 hx2 hx3 hxp
  go_upto_region 15 with fail
  obtain ⟨W5, hW5⟩ : ∃ Wx, W4.setCell ⟨w.heap.size + 1, 0, none⟩ (.int .i64 1) = Wx := ⟨_, rfl⟩
  have hb4 : Below w.heap.size w W5 := by rw [← hW5]; exact H4.out.1.setCell (by simp) _
  have hx2 : Box W5 w.heap.size 23 #[.int .i64 0, .int .i64 0, .int .i64 0, .bool false] := by rw [← hW5]; exact H4.out.2.1.far (by simp) _
  have hx3 : Box W5 (w.heap.size + 1) 23 #[.int .i64 1, .int .i64 id1, .int .i64 0, .bool t] := by rw [← hW5]; exact H4.out.2.2.1.set_ 0 _
  have hxp : Box W5 W0.heap.size 9 #[.string X, .string Y, .string Z] := by rw [← hW5]; exact H4.out.2.2.2.far (by have := H0.out.1; simp; omega) _
  rw [hW5]
  clear hxc hxf hxl hxq hW5
  have hxc := hx3.cell
  have hxf := hx3.free
  have hxl := hx3.lt
  have hxq := hxp.cell
  have H5 := Lib.hid (And.intro hb4 (And.intro hx2 (And.intro hx3 hxp)))
  clear hb4 hx2 hx3 hxp
  go_upto_region 17 with (first
    | (go_at_call 29
       refine (C5.out _ (EE.out.below H5.out.1)).mono ?_
       rintro e w6 ⟨⟨xe2, rfl⟩, hb6⟩
       clear hxc hxf hxl hxq
       have hx3 := H5.out.2.2.1.next hb6
       have hxc := hx3.cell
       have hxf := hx3.free
       have hxl := hx3.lt
       have H6 := Lib.hid (And.intro (H5.out.1.trans (hb6.mono H5.out.1.size)) (And.intro (H5.out.2.1.next hb6) (And.intro hx3 (H5.out.2.2.2.next hb6))))
       clear hb6 hx3)
    | go_in)
  obtain ⟨W7, hW7⟩ : ∃ Wx, w6.setCell ⟨w.heap.size + 1, 2, none⟩ (.int .i64 sg1) = Wx := ⟨_, rfl⟩
  have hb4 : Below w.heap.size w W7 := by rw [← hW7]; exact H6.out.1.setCell (by simp) _
  have hx2 : Box W7 w.heap.size 23 #[.int .i64 0, .int .i64 0, .int .i64 0, .bool false] := by rw [← hW7]; exact H6.out.2.1.far (by simp) _
  have hx3 : Box W7 (w.heap.size + 1) 23 #[.int .i64 1, .int .i64 id1, .int .i64 sg1, .bool t] := by rw [← hW7]; exact H6.out.2.2.1.set_ 2 _
  have hxp : Box W7 W0.heap.size 9 #[.string X, .string Y, .string Z] := by rw [← hW7]; exact H6.out.2.2.2.far (by have := H0.out.1; simp; omega) _
  rw [hW7]
  clear hxc hxf hxl hW7
  have hxc := hx3.cell
  have hxf := hx3.free
  have hxl := hx3.lt
  have H7 := Lib.hid (And.intro hb4 (And.intro hx2 (And.intro hx3 hxp)))
  clear hb4 hx2 hx3 hxp
  have HE : Hid (∀ W, Below w.heap.size w W → Tab W) := Lib.hid fun W hb => (EE.out.below hb).tab
  by_cases hq : nm = s
  · have k9 : (NM.toList == S.toList) = true := by rw [← HS.out.1, ← HS.out.2]; exact beq_yes hq
    have HQ := Lib.hid hq
    clear hq
    go_wp2_with (first
      | (go_at_call 5
         refine (C6.out _ (HE.out _ H7.out.1)).mono ?_
         rintro e w8 ⟨rfl, hb8⟩
         clear hxc hxf hxl
         have hx2 := H7.out.2.1.next hb8
         have hx3 := H7.out.2.2.1.next hb8
         have hxc := hx3.cell
         have hxc2 := hx2.cell
         have hxf2 := hx2.free
         have hxl2 := hx2.lt
         have H8 := Lib.hid (H7.out.1.trans (hb8.mono H7.out.1.size))
         clear hb8 hx2 hx3))
    refine bodyPost_ret (v := FN.v ⟨1, id1, sg1, t⟩) ?_ rfl ?_
    · simp [results, Tryd.results7, go_sem, hxc2, FN.v]
    refine ⟨by unfold pickV; rw [if_pos HQ.out], ?_⟩
    repeat (first | with_reducible exact H8.out | refine Below.setCell ?_ (by simp) _)
  · have k9 : (NM.toList == S.toList) = false := by rw [← HS.out.1, ← HS.out.2]; exact beq_no hq
    have HQ := Lib.hid hq
    clear hq
    go_wp2_with (first
      | (go_at_call 5
         refine (C6.out _ (HE.out _ H7.out.1)).mono ?_
         rintro e w8 ⟨rfl, hb8⟩
         clear hxc hxf hxl
         have hx2 := H7.out.2.1.next hb8
         have hx3 := H7.out.2.2.1.next hb8
         have hxc := hx3.cell
         have hxc2 := hx2.cell
         have hxf2 := hx2.free
         have hxl2 := hx2.lt
         have H8 := Lib.hid (H7.out.1.trans (hb8.mono H7.out.1.size))
         clear hb8 hx2 hx3))
    refine bodyPost_ret (v := FN.v FN.zero) ?_ rfl ?_
    · simp [results, Tryd.results7, go_sem, hxc2, FN.v, FN.zero]
    refine ⟨by unfold pickV; rw [if_neg HQ.out], ?_⟩
    repeat (first | with_reducible exact H8.out | refine Below.setCell ?_ (by simp) _)
set_option maxRecDepth 100000 in
set_option maxHeartbeats 4000000 in
theorem parseM_3h (s x y z r : List UInt8) (t : Bool) (w : World) (E : Env w)  (hs : s.length ≤ 1048576) (hr : r.length ≤ 1048576)
    (hne : ¬ s = []) (hcut : cutT s = (r, t)) (hcat : ¬ r = [99, 97, 116, 97, 108, 111, 103]) (hspl : spl r = [x, y, z]) (hlx : x.length ≤ 1048576) (hly : y.length ≤ 1048576) (h0 : ¬ z = [115, 101, 103]) (h1 : z = [104, 105, 110, 116]) :
    Calls Tryd.prog 7 #[.string ⟨s.toArray⟩] w fun e w' => e = .returned (pickV (nameN ⟨2, atoiV (Lib.trimPrefix x [116]), atoiV y, t⟩) s (FN.v ⟨2, atoiV (Lib.trimPrefix x [116]), atoiV y, t⟩)) ∧ Below w.heap.size w w' := by
  have C1 := Lib.hid (cut_call s hs)
  rw [hcut] at C1
  have C2 := Lib.hid (split_call r hr)
  rw [hspl] at C2
  have C3 := Lib.hid (trim_call x)
  have C4 := Lib.hid (atoi_call (Lib.trimPrefix x [116]) (trim_len hlx))
  have C5 := Lib.hid (atoi_call y hly)
  have C6 := Lib.hid (nameM_any 2 (atoiV (Lib.trimPrefix x [116])) (atoiV y) t)
  generalize hid1 : atoiV (Lib.trimPrefix x [116]) = id1 at C4 C6
  generalize hsg1 : atoiV y = sg1 at C5 C6
  generalize htx : Lib.trimPrefix x [116] = tx at C3 C4
  generalize hnm : nameN ⟨2, id1, sg1, t⟩ = nm at C6
  have k0 := beq_no2 hcat
  have k1 := beq_no2 hne
  have g0 := beq_no2 h0
  have g1 := beq_yes2 h1
  have EE := Lib.hid E
  clear E hcut hspl hlx hcat hne hs hr htx hid1 hsg1 hly h0 h1
  obtain ⟨S, hS⟩ : ∃ S : ByteArray, (⟨s.toArray⟩ : ByteArray) = S := ⟨_, rfl⟩
  obtain ⟨R, hR⟩ : ∃ S : ByteArray, (⟨r.toArray⟩ : ByteArray) = S := ⟨_, rfl⟩
  obtain ⟨X, hX⟩ : ∃ S : ByteArray, (⟨x.toArray⟩ : ByteArray) = S := ⟨_, rfl⟩
  obtain ⟨T, hT⟩ : ∃ S : ByteArray, (⟨tx.toArray⟩ : ByteArray) = S := ⟨_, rfl⟩
  obtain ⟨Y, hY⟩ : ∃ S : ByteArray, (⟨y.toArray⟩ : ByteArray) = S := ⟨_, rfl⟩
  obtain ⟨Z, hZ⟩ : ∃ S : ByteArray, (⟨z.toArray⟩ : ByteArray) = S := ⟨_, rfl⟩
  obtain ⟨NM, hNM⟩ : ∃ S : ByteArray, (⟨nm.toArray⟩ : ByteArray) = S := ⟨_, rfl⟩
  have HS := Lib.hid (And.intro hS hNM)
  simp only [List.map_cons, List.map_nil, List.length_cons, List.length_nil, Nat.zero_add, Nat.reduceAdd, hS, hR, hX, hT, hY, hZ, hNM] at C1 C2 C3 C4 C5 C6 k0 k1 g0 g1
  simp only [hS]
  clear hS hR hX hT hY hZ hNM
  go_enter Tryd.func7, Tryd.ntmps7
  go_upto_region 7 with (first
    | (go_at_call 27
       refine (C1.out _).mono ?_
       rintro e w1 ⟨rfl, hw1⟩
       rw [hw1]
       clear hw1)
    | go_in)
  obtain ⟨W0, hW0⟩ : ∃ W0, (w.alloc (.cells #[.int .i64 0, .int .i64 0, .int .i64 0, .bool false] 23)).alloc (.cells #[.int .i64 0, .int .i64 0, .int .i64 0, .bool t] 23) = W0 := ⟨_, rfl⟩
  have hz0 : W0.heap.size = w.heap.size + 2 := by rw [← hW0]; simp
  have hb0 : Below w.heap.size w W0 := by rw [← hW0]; exact (Below.al _ _).alloc (by simp) _
  have hx2 : Box W0 w.heap.size 23 #[.int .i64 0, .int .i64 0, .int .i64 0, .bool false] := by rw [← hW0]; exact (Box.new _ _ _).alloc _
  have hx3 : Box W0 (w.heap.size + 1) 23 #[.int .i64 0, .int .i64 0, .int .i64 0, .bool t] := by rw [← hW0]; simpa using Box.new (w.alloc (.cells #[.int .i64 0, .int .i64 0, .int .i64 0, .bool false] 23)) 23 #[.int .i64 0, .int .i64 0, .int .i64 0, .bool t]
  rw [hW0]
  clear hW0
  have H0 := Lib.hid (And.intro hz0 (And.intro hb0 (And.intro hx2 hx3)))
  clear hz0 hb0 hx2 hx3
  go_upto_region 9 with (first
    | (go_at_call 28
       refine (C2.out _ (EE.out.below H0.out.2.1)).mono ?_
       rintro e w1 ⟨rfl, hw1⟩
       have hb1 : Below W0.heap.size W0 w1 := by rw [hw1]; exact Below.al _ _
       have hz1 : w1.heap.size = W0.heap.size + 1 := by rw [hw1]; simp
       have hxp : Box w1 W0.heap.size 9 #[.string X, .string Y, .string Z] := by rw [hw1]; exact Box.new _ _ _
       have hxc := hxp.cell
       have H1 := Lib.hid (And.intro hz1 (And.intro (H0.out.2.1.trans (hb1.mono H0.out.2.1.size)) (And.intro (H0.out.2.2.1.next hb1) (And.intro (H0.out.2.2.2.next hb1) hxp))))
       clear hb1 hz1 hxp hw1)
    | (go_at_call 30
       refine (C3.out _).mono ?_
       rintro e w2 ⟨rfl, hw2⟩
       rw [hw2]
       clear hw2)
    | (go_at_call 29
       refine (C4.out _ (EE.out.below H1.out.2.1)).mono ?_
       rintro e w3 ⟨⟨xe, rfl⟩, hb3⟩
       clear hxc
       have hx3 := H1.out.2.2.2.1.next hb3
       have hxc := hx3.cell
       have hxf := hx3.free
       have hxl := hx3.lt
       have H3 := Lib.hid (And.intro (H1.out.2.1.trans (hb3.mono H1.out.2.1.size)) (And.intro (H1.out.2.2.1.next hb3) (And.intro hx3 (H1.out.2.2.2.2.next hb3))))
       clear hb3 hx3)
    | go_in)
  obtain ⟨W4, hW4⟩ : ∃ Wx, w3.setCell ⟨w.heap.size + 1, 1, none⟩ (.int .i64 id1) = Wx := ⟨_, rfl⟩
  have hb4 : Below w.heap.size w W4 := by rw [← hW4]; exact H3.out.1.setCell (by simp) _
  have hx2 : Box W4 w.heap.size 23 #[.int .i64 0, .int .i64 0, .int .i64 0, .bool false] := by rw [← hW4]; exact H3.out.2.1.far (by simp) _
  have hx3 : Box W4 (w.heap.size + 1) 23 #[.int .i64 0, .int .i64 id1, .int .i64 0, .bool t] := by rw [← hW4]; exact H3.out.2.2.1.set_ 1 _
  have hxp : Box W4 W0.heap.size 9 #[.string X, .string Y, .string Z] := by rw [← hW4]; exact H3.out.2.2.2.far (by have := H0.out.1; simp; omega) _
  rw [hW4]
  clear hxc hxf hxl hW4
  have hxc := hx3.cell
  have hxf := hx3.free
  have hxl := hx3.lt
  have hxq := hxp.cell
  have H4 := Lib.hid (And.intro hb4 (And.intro hx2 (And.intro hx3 hxp)))
  clear hb4 hx2 hx3 hxp
  go_upto_region 15 with fail
  obtain ⟨W5, hW5⟩ : ∃ Wx, W4.setCell ⟨w.heap.size + 1, 0, none⟩ (.int .i64 2) = Wx := ⟨_, rfl⟩
  have hb4 : Below w.heap.size w W5 := by rw [← hW5]; exact H4.out.1.setCell (by simp) _
  have hx2 : Box W5 w.heap.size 23 #[.int .i64 0, .int .i64 0, .int .i64 0, .bool false] := by rw [← hW5]; exact H4.out.2.1.far (by simp) _
  have hx3 : Box W5 (w.heap.size + 1) 23 #[.int .i64 2, .int .i64 id1, .int .i64 0, .bool t] := by rw [← hW5]; exact H4.out.2.2.1.set_ 0 _
  have hxp : Box W5 W0.heap.size 9 #[.string X, .string Y, .string Z] := by rw [← hW5]; exact H4.out.2.2.2.far (by have := H0.out.1; simp; omega) _
  rw [hW5]
  clear hxc hxf hxl hxq hW5
  have hxc := hx3.cell
  have hxf := hx3.free
  have hxl := hx3.lt
  have hxq := hxp.cell
  have H5 := Lib.hid (And.intro hb4 (And.intro hx2 (And.intro hx3 hxp)))
  clear hb4 hx2 hx3 hxp
  go_upto_region 17 with (first
    | (go_at_call 29
       refine (C5.out _ (EE.out.below H5.out.1)).mono ?_
       rintro e w6 ⟨⟨xe2, rfl⟩, hb6⟩
       clear hxc hxf hxl hxq
       have hx3 := H5.out.2.2.1.next hb6
       have hxc := hx3.cell
       have hxf := hx3.free
       have hxl := hx3.lt
       have H6 := Lib.hid (And.intro (H5.out.1.trans (hb6.mono H5.out.1.size)) (And.intro (H5.out.2.1.next hb6) (And.intro hx3 (H5.out.2.2.2.next hb6))))
       clear hb6 hx3)
    | go_in)
  obtain ⟨W7, hW7⟩ : ∃ Wx, w6.setCell ⟨w.heap.size + 1, 2, none⟩ (.int .i64 sg1) = Wx := ⟨_, rfl⟩
  have hb4 : Below w.heap.size w W7 := by rw [← hW7]; exact H6.out.1.setCell (by simp) _
  have hx2 : Box W7 w.heap.size 23 #[.int .i64 0, .int .i64 0, .int .i64 0, .bool false] := by rw [← hW7]; exact H6.out.2.1.far (by simp) _
  have hx3 : Box W7 (w.heap.size + 1) 23 #[.int .i64 2, .int .i64 id1, .int .i64 sg1, .bool t] := by rw [← hW7]; exact H6.out.2.2.1.set_ 2 _
  have hxp : Box W7 W0.heap.size 9 #[.string X, .string Y, .string Z] := by rw [← hW7]; exact H6.out.2.2.2.far (by have := H0.out.1; simp; omega) _
  rw [hW7]
  clear hxc hxf hxl hW7
  have hxc := hx3.cell
  have hxf := hx3.free
  have hxl := hx3.lt
  have H7 := Lib.hid (And.intro hb4 (And.intro hx2 (And.intro hx3 hxp)))
  clear hb4 hx2 hx3 hxp
  have HE : Hid (∀ W, Below w.heap.size w W → Tab W) := Lib.hid fun W hb => (EE.out.below hb).tab
  by_cases hq : nm = s
  · have k9 : (NM.toList == S.toList) = true := by rw [← HS.out.1, ← HS.out.2]; exact beq_yes hq
    have HQ := Lib.hid hq
    clear hq
    go_wp2_with (first
      | (go_at_call 5
         refine (C6.out _ (HE.out _ H7.out.1)).mono ?_
         rintro e w8 ⟨rfl, hb8⟩
         clear hxc hxf hxl
         have hx2 := H7.out.2.1.next hb8
         have hx3 := H7.out.2.2.1.next hb8
         have hxc := hx3.cell
         have hxc2 := hx2.cell
         have hxf2 := hx2.free
         have hxl2 := hx2.lt
         have H8 := Lib.hid (H7.out.1.trans (hb8.mono H7.out.1.size))
         clear hb8 hx2 hx3))
    refine bodyPost_ret (v := FN.v ⟨2, id1, sg1, t⟩) ?_ rfl ?_
    · simp [results, Tryd.results7, go_sem, hxc2, FN.v]
    refine ⟨by unfold pickV; rw [if_pos HQ.out], ?_⟩
    repeat (first | with_reducible exact H8.out | refine Below.setCell ?_ (by simp) _)
  · have k9 : (NM.toList == S.toList) = false := by rw [← HS.out.1, ← HS.out.2]; exact beq_no hq
    have HQ := Lib.hid hq
    clear hq
    go_wp2_with (first
      | (go_at_call 5
         refine (C6.out _ (HE.out _ H7.out.1)).mono ?_
         rintro e w8 ⟨rfl, hb8⟩
         clear hxc hxf hxl
         have hx2 := H7.out.2.1.next hb8
         have hx3 := H7.out.2.2.1.next hb8
         have hxc := hx3.cell
         have hxc2 := hx2.cell
         have hxf2 := hx2.free
         have hxl2 := hx2.lt
         have H8 := Lib.hid (H7.out.1.trans (hb8.mono H7.out.1.size))
         clear hb8 hx2 hx3))
    refine bodyPost_ret (v := FN.v FN.zero) ?_ rfl ?_
    · simp [results, Tryd.results7, go_sem, hxc2, FN.v, FN.zero]
    refine ⟨by unfold pickV; rw [if_neg HQ.out], ?_⟩
    repeat (first | with_reducible exact H8.out | refine Below.setCell ?_ (by simp) _)
set_option maxRecDepth 100000 in
set_option maxHeartbeats 4000000 in
theorem parseM_3o (s x y z r : List UInt8) (t : Bool) (w : World) (E : Env w)  (hs : s.length ≤ 1048576) (hr : r.length ≤ 1048576)
    (hne : ¬ s = []) (hcut : cutT s = (r, t)) (hcat : ¬ r = [99, 97, 116, 97, 108, 111, 103]) (hspl : spl r = [x, y, z]) (hlx : x.length ≤ 1048576) (hly : y.length ≤ 1048576) (h0 : ¬ z = [115, 101, 103]) (h1 : ¬ z = [104, 105, 110, 116]) :
    Calls Tryd.prog 7 #[.string ⟨s.toArray⟩] w fun e w' => e = .returned (pickV (nameN ⟨0, atoiV (Lib.trimPrefix x [116]), atoiV y, t⟩) s (FN.v ⟨0, atoiV (Lib.trimPrefix x [116]), atoiV y, t⟩)) ∧ Below w.heap.size w w' := by
  have C1 := Lib.hid (cut_call s hs)
  rw [hcut] at C1
  have C2 := Lib.hid (split_call r hr)
  rw [hspl] at C2
  have C3 := Lib.hid (trim_call x)
  have C4 := Lib.hid (atoi_call (Lib.trimPrefix x [116]) (trim_len hlx))
  have C5 := Lib.hid (atoi_call y hly)
  have C6 := Lib.hid (nameM_any 0 (atoiV (Lib.trimPrefix x [116])) (atoiV y) t)
  generalize hid1 : atoiV (Lib.trimPrefix x [116]) = id1 at C4 C6
  generalize hsg1 : atoiV y = sg1 at C5 C6
  generalize htx : Lib.trimPrefix x [116] = tx at C3 C4
  generalize hnm : nameN ⟨0, id1, sg1, t⟩ = nm at C6
  have k0 := beq_no2 hcat
  have k1 := beq_no2 hne
  have g0 := beq_no2 h0
  have g1 := beq_no2 h1
  have EE := Lib.hid E
  clear E hcut hspl hlx hcat hne hs hr htx hid1 hsg1 hly h0 h1
  obtain ⟨S, hS⟩ : ∃ S : ByteArray, (⟨s.toArray⟩ : ByteArray) = S := ⟨_, rfl⟩
  obtain ⟨R, hR⟩ : ∃ S : ByteArray, (⟨r.toArray⟩ : ByteArray) = S := ⟨_, rfl⟩
  obtain ⟨X, hX⟩ : ∃ S : ByteArray, (⟨x.toArray⟩ : ByteArray) = S := ⟨_, rfl⟩
  obtain ⟨T, hT⟩ : ∃ S : ByteArray, (⟨tx.toArray⟩ : ByteArray) = S := ⟨_, rfl⟩
  obtain ⟨Y, hY⟩ : ∃ S : ByteArray, (⟨y.toArray⟩ : ByteArray) = S := ⟨_, rfl⟩
  obtain ⟨Z, hZ⟩ : ∃ S : ByteArray, (⟨z.toArray⟩ : ByteArray) = S := ⟨_, rfl⟩
  obtain ⟨NM, hNM⟩ : ∃ S : ByteArray, (⟨nm.toArray⟩ : ByteArray) = S := ⟨_, rfl⟩
  have HS := Lib.hid (And.intro hS hNM)
  simp only [List.map_cons, List.map_nil, List.length_cons, List.length_nil, Nat.zero_add, Nat.reduceAdd, hS, hR, hX, hT, hY, hZ, hNM] at C1 C2 C3 C4 C5 C6 k0 k1 g0 g1
  simp only [hS]
  clear hS hR hX hT hY hZ hNM
  go_enter Tryd.func7, Tryd.ntmps7
  go_upto_region 7 with (first
    | (go_at_call 27
       refine (C1.out _).mono ?_
       rintro e w1 ⟨rfl, hw1⟩
       rw [hw1]
       clear hw1)
    | go_in)
  obtain ⟨W0, hW0⟩ : ∃ W0, (w.alloc (.cells #[.int .i64 0, .int .i64 0, .int .i64 0, .bool false] 23)).alloc (.cells #[.int .i64 0, .int .i64 0, .int .i64 0, .bool t] 23) = W0 := ⟨_, rfl⟩
  have hz0 : W0.heap.size = w.heap.size + 2 := by rw [← hW0]; simp
  have hb0 : Below w.heap.size w W0 := by rw [← hW0]; exact (Below.al _ _).alloc (by simp) _
  have hx2 : Box W0 w.heap.size 23 #[.int .i64 0, .int .i64 0, .int .i64 0, .bool false] := by rw [← hW0]; exact (Box.new _ _ _).alloc _
  have hx3 : Box W0 (w.heap.size + 1) 23 #[.int .i64 0, .int .i64 0, .int .i64 0, .bool t] := by rw [← hW0]; simpa using Box.new (w.alloc (.cells #[.int .i64 0, .int .i64 0, .int .i64 0, .bool false] 23)) 23 #[.int .i64 0, .int .i64 0, .int .i64 0, .bool t]
  rw [hW0]
  clear hW0
  have H0 := Lib.hid (And.intro hz0 (And.intro hb0 (And.intro hx2 hx3)))
  clear hz0 hb0 hx2 hx3
  go_upto_region 9 with (first
    | (go_at_call 28
       refine (C2.out _ (EE.out.below H0.out.2.1)).mono ?_
       rintro e w1 ⟨rfl, hw1⟩
       have hb1 : Below W0.heap.size W0 w1 := by rw [hw1]; exact Below.al _ _
       have hz1 : w1.heap.size = W0.heap.size + 1 := by rw [hw1]; simp
       have hxp : Box w1 W0.heap.size 9 #[.string X, .string Y, .string Z] := by rw [hw1]; exact Box.new _ _ _
       have hxc := hxp.cell
       have H1 := Lib.hid (And.intro hz1 (And.intro (H0.out.2.1.trans (hb1.mono H0.out.2.1.size)) (And.intro (H0.out.2.2.1.next hb1) (And.intro (H0.out.2.2.2.next hb1) hxp))))
       clear hb1 hz1 hxp hw1)
    | (go_at_call 30
       refine (C3.out _).mono ?_
       rintro e w2 ⟨rfl, hw2⟩
       rw [hw2]
       clear hw2)
    | (go_at_call 29
       refine (C4.out _ (EE.out.below H1.out.2.1)).mono ?_
       rintro e w3 ⟨⟨xe, rfl⟩, hb3⟩
       clear hxc
       have hx3 := H1.out.2.2.2.1.next hb3
       have hxc := hx3.cell
       have hxf := hx3.free
       have hxl := hx3.lt
       have H3 := Lib.hid (And.intro (H1.out.2.1.trans (hb3.mono H1.out.2.1.size)) (And.intro (H1.out.2.2.1.next hb3) (And.intro hx3 (H1.out.2.2.2.2.next hb3))))
       clear hb3 hx3)
    | go_in)
  obtain ⟨W4, hW4⟩ : ∃ Wx, w3.setCell ⟨w.heap.size + 1, 1, none⟩ (.int .i64 id1) = Wx := ⟨_, rfl⟩
  have hb4 : Below w.heap.size w W4 := by rw [← hW4]; exact H3.out.1.setCell (by simp) _
  have hx2 : Box W4 w.heap.size 23 #[.int .i64 0, .int .i64 0, .int .i64 0, .bool false] := by rw [← hW4]; exact H3.out.2.1.far (by simp) _
  have hx3 : Box W4 (w.heap.size + 1) 23 #[.int .i64 0, .int .i64 id1, .int .i64 0, .bool t] := by rw [← hW4]; exact H3.out.2.2.1.set_ 1 _
  have hxp : Box W4 W0.heap.size 9 #[.string X, .string Y, .string Z] := by rw [← hW4]; exact H3.out.2.2.2.far (by have := H0.out.1; simp; omega) _
  rw [hW4]
  clear hxc hxf hxl hW4
  have hxc := hx3.cell
  have hxf := hx3.free
  have hxl := hx3.lt
  have hxq := hxp.cell
  have H4 := Lib.hid (And.intro hb4 (And.intro hx2 (And.intro hx3 hxp)))
  clear hb4 hx2 hx3 hxp
  go_upto_region 17 with (first
    | (go_at_call 29
       refine (C5.out _ (EE.out.below H4.out.1)).mono ?_
       rintro e w6 ⟨⟨xe2, rfl⟩, hb6⟩
       clear hxc hxf hxl hxq
       have hx3 := H4.out.2.2.1.next hb6
       have hxc := hx3.cell
       have hxf := hx3.free
       have hxl := hx3.lt
       have H6 := Lib.hid (And.intro (H4.out.1.trans (hb6.mono H4.out.1.size)) (And.intro (H4.out.2.1.next hb6) (And.intro hx3 (H4.out.2.2.2.next hb6))))
       clear hb6 hx3)
    | go_in)
  obtain ⟨W7, hW7⟩ : ∃ Wx, w6.setCell ⟨w.heap.size + 1, 2, none⟩ (.int .i64 sg1) = Wx := ⟨_, rfl⟩
  have hb4 : Below w.heap.size w W7 := by rw [← hW7]; exact H6.out.1.setCell (by simp) _
  have hx2 : Box W7 w.heap.size 23 #[.int .i64 0, .int .i64 0, .int .i64 0, .bool false] := by rw [← hW7]; exact H6.out.2.1.far (by simp) _
  have hx3 : Box W7 (w.heap.size + 1) 23 #[.int .i64 0, .int .i64 id1, .int .i64 sg1, .bool t] := by rw [← hW7]; exact H6.out.2.2.1.set_ 2 _
  have hxp : Box W7 W0.heap.size 9 #[.string X, .string Y, .string Z] := by rw [← hW7]; exact H6.out.2.2.2.far (by have := H0.out.1; simp; omega) _
  rw [hW7]
  clear hxc hxf hxl hW7
  have hxc := hx3.cell
  have hxf := hx3.free
  have hxl := hx3.lt
  have H7 := Lib.hid (And.intro hb4 (And.intro hx2 (And.intro hx3 hxp)))
  clear hb4 hx2 hx3 hxp
  have HE : Hid (∀ W, Below w.heap.size w W → Tab W) := Lib.hid fun W hb => (EE.out.below hb).tab
  by_cases hq : nm = s
  · have k9 : (NM.toList == S.toList) = true := by rw [← HS.out.1, ← HS.out.2]; exact beq_yes hq
    have HQ := Lib.hid hq
    clear hq
    go_wp2_with (first
      | (go_at_call 5
         refine (C6.out _ (HE.out _ H7.out.1)).mono ?_
         rintro e w8 ⟨rfl, hb8⟩
         clear hxc hxf hxl
         have hx2 := H7.out.2.1.next hb8
         have hx3 := H7.out.2.2.1.next hb8
         have hxc := hx3.cell
         have hxc2 := hx2.cell
         have hxf2 := hx2.free
         have hxl2 := hx2.lt
         have H8 := Lib.hid (H7.out.1.trans (hb8.mono H7.out.1.size))
         clear hb8 hx2 hx3))
    refine bodyPost_ret (v := FN.v ⟨0, id1, sg1, t⟩) ?_ rfl ?_
    · simp [results, Tryd.results7, go_sem, hxc2, FN.v]
    refine ⟨by unfold pickV; rw [if_pos HQ.out], ?_⟩
    repeat (first | with_reducible exact H8.out | refine Below.setCell ?_ (by simp) _)
  · have k9 : (NM.toList == S.toList) = false := by rw [← HS.out.1, ← HS.out.2]; exact beq_no hq
    have HQ := Lib.hid hq
    clear hq
    go_wp2_with (first
      | (go_at_call 5
         refine (C6.out _ (HE.out _ H7.out.1)).mono ?_
         rintro e w8 ⟨rfl, hb8⟩
         clear hxc hxf hxl
         have hx2 := H7.out.2.1.next hb8
         have hx3 := H7.out.2.2.1.next hb8
         have hxc := hx3.cell
         have hxc2 := hx2.cell
         have hxf2 := hx2.free
         have hxl2 := hx2.lt
         have H8 := Lib.hid (H7.out.1.trans (hb8.mono H7.out.1.size))
         clear hb8 hx2 hx3))
    refine bodyPost_ret (v := FN.v FN.zero) ?_ rfl ?_
    · simp [results, Tryd.results7, go_sem, hxc2, FN.v, FN.zero]
    refine ⟨by unfold pickV; rw [if_neg HQ.out], ?_⟩
    repeat (first | with_reducible exact H8.out | refine Below.setCell ?_ (by simp) _)
set_option maxRecDepth 100000 in
set_option maxHeartbeats 4000000 in
theorem parseM_4 (s x r : List UInt8) (t : Bool) (w : World) (E : Env w) (n : Nat) (ar : Array Value) (hn : 4 ≤ n) (ha0 : ar[0]? = some (.string ⟨x.toArray⟩)) (hs : s.length ≤ 1048576) (hr : r.length ≤ 1048576)
    (hne : ¬ s = []) (hcut : cutT s = (r, t)) (hcat : ¬ r = [99, 97, 116, 97, 108, 111, 103]) (hspl : (spl r).length = n) (harr : ((spl r).map fun l => Value.string ⟨l.toArray⟩).toArray = ar) (hlx : x.length ≤ 1048576) :
    Calls Tryd.prog 7 #[.string ⟨s.toArray⟩] w fun e w' => e = .returned (pickV (nameN ⟨0, atoiV (Lib.trimPrefix x [116]), 0, t⟩) s (FN.v ⟨0, atoiV (Lib.trimPrefix x [116]), 0, t⟩)) ∧ Below w.heap.size w w' := by
  have C1 := Lib.hid (cut_call s hs)
  rw [hcut] at C1
  have C2 := Lib.hid (split_call r hr)
  rw [hspl, harr] at C2
  have C3 := Lib.hid (trim_call x)
  have C4 := Lib.hid (atoi_call (Lib.trimPrefix x [116]) (trim_len hlx))
  have C6 := Lib.hid (nameM_any 0 (atoiV (Lib.trimPrefix x [116])) (0) t)
  generalize hid1 : atoiV (Lib.trimPrefix x [116]) = id1 at C4 C6
  generalize htx : Lib.trimPrefix x [116] = tx at C3 C4
  generalize hnm : nameN ⟨0, id1, 0, t⟩ = nm at C6
  have k0 := beq_no2 hcat
  have k1 := beq_no2 hne
  have m1 : (0 : Int) < n := by omega
  have m2 : ¬ (n : Int) = 2 := by omega
  have m3 : ¬ (n : Int) = 3 := by omega
  have EE := Lib.hid E
  clear E hcut hspl hlx hcat hne hs hr htx hid1 harr hn
  obtain ⟨S, hS⟩ : ∃ S : ByteArray, (⟨s.toArray⟩ : ByteArray) = S := ⟨_, rfl⟩
  obtain ⟨R, hR⟩ : ∃ S : ByteArray, (⟨r.toArray⟩ : ByteArray) = S := ⟨_, rfl⟩
  obtain ⟨X, hX⟩ : ∃ S : ByteArray, (⟨x.toArray⟩ : ByteArray) = S := ⟨_, rfl⟩
  obtain ⟨T, hT⟩ : ∃ S : ByteArray, (⟨tx.toArray⟩ : ByteArray) = S := ⟨_, rfl⟩
  obtain ⟨NM, hNM⟩ : ∃ S : ByteArray, (⟨nm.toArray⟩ : ByteArray) = S := ⟨_, rfl⟩
  have HS := Lib.hid (And.intro hS hNM)
  simp only [hS, hR, hX, hT, hNM] at C1 C2 C3 C4 C6 k0 k1 ha0
  simp only [hS]
  clear hS hR hX hT hNM
  have HA0 := Lib.hid ha0
  clear ha0
  go_enter Tryd.func7, Tryd.ntmps7
  go_upto_region 7 with (first
    | (go_at_call 27
       refine (C1.out _).mono ?_
       rintro e w1 ⟨rfl, hw1⟩
       rw [hw1]
       clear hw1)
    | go_in)
  obtain ⟨W0, hW0⟩ : ∃ W0, (w.alloc (.cells #[.int .i64 0, .int .i64 0, .int .i64 0, .bool false] 23)).alloc (.cells #[.int .i64 0, .int .i64 0, .int .i64 0, .bool t] 23) = W0 := ⟨_, rfl⟩
  have hz0 : W0.heap.size = w.heap.size + 2 := by rw [← hW0]; simp
  have hb0 : Below w.heap.size w W0 := by rw [← hW0]; exact (Below.al _ _).alloc (by simp) _
  have hx2 : Box W0 w.heap.size 23 #[.int .i64 0, .int .i64 0, .int .i64 0, .bool false] := by rw [← hW0]; exact (Box.new _ _ _).alloc _
  have hx3 : Box W0 (w.heap.size + 1) 23 #[.int .i64 0, .int .i64 0, .int .i64 0, .bool t] := by rw [← hW0]; simpa using Box.new (w.alloc (.cells #[.int .i64 0, .int .i64 0, .int .i64 0, .bool false] 23)) 23 #[.int .i64 0, .int .i64 0, .int .i64 0, .bool t]
  rw [hW0]
  clear hW0
  have H0 := Lib.hid (And.intro hz0 (And.intro hb0 (And.intro hx2 hx3)))
  clear hz0 hb0 hx2 hx3
  go_upto_region 9 with (first
    | (go_at_call 28
       refine (C2.out _ (EE.out.below H0.out.2.1)).mono ?_
       rintro e w1 ⟨rfl, hw1⟩
       have hb1 : Below W0.heap.size W0 w1 := by rw [hw1]; exact Below.al _ _
       have hz1 : w1.heap.size = W0.heap.size + 1 := by rw [hw1]; simp
       have hxp : Box w1 W0.heap.size 9 ar := by rw [hw1]; exact Box.new _ _ _
       have hxc := (hxp.cell 0).trans HA0.out
       have H1 := Lib.hid (And.intro hz1 (And.intro (H0.out.2.1.trans (hb1.mono H0.out.2.1.size)) (And.intro (H0.out.2.2.1.next hb1) (And.intro (H0.out.2.2.2.next hb1) hxp))))
       clear hb1 hz1 hxp hw1)
    | (go_at_call 30
       refine (C3.out _).mono ?_
       rintro e w2 ⟨rfl, hw2⟩
       rw [hw2]
       clear hw2)
    | (go_at_call 29
       refine (C4.out _ (EE.out.below H1.out.2.1)).mono ?_
       rintro e w3 ⟨⟨xe, rfl⟩, hb3⟩
       clear hxc
       have hx3 := H1.out.2.2.2.1.next hb3
       have hxc := hx3.cell
       have hxf := hx3.free
       have hxl := hx3.lt
       have H3 := Lib.hid (And.intro (H1.out.2.1.trans (hb3.mono H1.out.2.1.size)) (And.intro (H1.out.2.2.1.next hb3) (And.intro hx3 (H1.out.2.2.2.2.next hb3))))
       clear hb3 hx3)
    | go_in)
  obtain ⟨W4, hW4⟩ : ∃ Wx, w3.setCell ⟨w.heap.size + 1, 1, none⟩ (.int .i64 id1) = Wx := ⟨_, rfl⟩
  have hb4 : Below w.heap.size w W4 := by rw [← hW4]; exact H3.out.1.setCell (by simp) _
  have hx2 : Box W4 w.heap.size 23 #[.int .i64 0, .int .i64 0, .int .i64 0, .bool false] := by rw [← hW4]; exact H3.out.2.1.far (by simp) _
  have hx3 : Box W4 (w.heap.size + 1) 23 #[.int .i64 0, .int .i64 id1, .int .i64 0, .bool t] := by rw [← hW4]; exact H3.out.2.2.1.set_ 1 _
  have hxp : Box W4 W0.heap.size 9 ar := by rw [← hW4]; exact H3.out.2.2.2.far (by have := H0.out.1; simp; omega) _
  rw [hW4]
  clear hxc hxf hxl hW4
  have hxc := hx3.cell
  have hxf := hx3.free
  have hxl := hx3.lt
  have H4 := Lib.hid (And.intro hb4 (And.intro hx2 (And.intro hx3 hxp)))
  clear hb4 hx2 hx3 hxp
  go_upto_region 17 with fail
  have HE : Hid (∀ W, Below w.heap.size w W → Tab W) := Lib.hid fun W hb => (EE.out.below hb).tab
  by_cases hq : nm = s
  · have k9 : (NM.toList == S.toList) = true := by rw [← HS.out.1, ← HS.out.2]; exact beq_yes hq
    have HQ := Lib.hid hq
    clear hq
    go_wp2_with (first
      | (go_at_call 5
         refine (C6.out _ (HE.out _ H4.out.1)).mono ?_
         rintro e w8 ⟨rfl, hb8⟩
         clear hxc hxf hxl
         have hx2 := H4.out.2.1.next hb8
         have hx3 := H4.out.2.2.1.next hb8
         have hxc := hx3.cell
         have hxc2 := hx2.cell
         have hxf2 := hx2.free
         have hxl2 := hx2.lt
         have H8 := Lib.hid (H4.out.1.trans (hb8.mono H4.out.1.size))
         clear hb8 hx2 hx3))
    refine bodyPost_ret (v := FN.v ⟨0, id1, 0, t⟩) ?_ rfl ?_
    · simp [results, Tryd.results7, go_sem, hxc2, FN.v]
    refine ⟨by unfold pickV; rw [if_pos HQ.out], ?_⟩
    repeat (first | with_reducible exact H8.out | refine Below.setCell ?_ (by simp) _)
  · have k9 : (NM.toList == S.toList) = false := by rw [← HS.out.1, ← HS.out.2]; exact beq_no hq
    have HQ := Lib.hid hq
    clear hq
    go_wp2_with (first
      | (go_at_call 5
         refine (C6.out _ (HE.out _ H4.out.1)).mono ?_
         rintro e w8 ⟨rfl, hb8⟩
         clear hxc hxf hxl
         have hx2 := H4.out.2.1.next hb8
         have hx3 := H4.out.2.2.1.next hb8
         have hxc := hx3.cell
         have hxc2 := hx2.cell
         have hxf2 := hx2.free
         have hxl2 := hx2.lt
         have H8 := Lib.hid (H4.out.1.trans (hb8.mono H4.out.1.size))
         clear hb8 hx2 hx3))
    refine bodyPost_ret (v := FN.v FN.zero) ?_ rfl ?_
    · simp [results, Tryd.results7, go_sem, hxc2, FN.v, FN.zero]
    refine ⟨by unfold pickV; rw [if_neg HQ.out], ?_⟩
    repeat (first | with_reducible exact H8.out | refine Below.setCell ?_ (by simp) _)
end Go.Proofs.YtbmbgkgjlnookaaDoor
