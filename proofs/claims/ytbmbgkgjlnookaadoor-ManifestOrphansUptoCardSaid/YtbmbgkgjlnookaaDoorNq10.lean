import Derived.Test.YtbmbgkgjlnookaaDoorNq9
/- ManifestNames: manifest.Parse, walked. -/
namespace Go.Proofs.YtbmbgkgjlnookaaDoor
open Go.Shelf Go.RowKit

/-- A file's name as a value. -/
def FN.v (n : FN) : Value := .agg #[.int .i64 n.k, .int .i64 n.id, .int .i64 n.seg, .bool n.t]
theorem beq_no {a b : List UInt8} (h : ¬ a = b) : ((⟨a.toArray⟩ : ByteArray).toList == (⟨b.toArray⟩ : ByteArray).toList) = false := by
  rw [beq_eq_false_iff_ne, ByteArray.toList_eq, ByteArray.toList_eq]
  exact h
theorem beq_yes {a b : List UInt8} (h : a = b) : ((⟨a.toArray⟩ : ByteArray).toList == (⟨b.toArray⟩ : ByteArray).toList) = true := by
  rw [h, beq_self_eq_true]
theorem beq_no2 {a b : List UInt8} (h : ¬ a = b) : ((⟨a.toArray⟩ : ByteArray).toList == b) = false := by
  rw [beq_eq_false_iff_ne, ByteArray.toList_eq]
  exact h
theorem beq_yes2 {a b : List UInt8} (h : a = b) : ((⟨a.toArray⟩ : ByteArray).toList == b) = true := by
  rw [ByteArray.toList_eq, beq_iff_eq]
  exact h
/-- What Parse hands back: the name's parts if the name is just this one. -/
def pickV (nm s : List UInt8) (v : Value) : Value := if nm = s then v else FN.v FN.zero
theorem trim_len {x : List UInt8} (h : x.length ≤ 1048576) : (Lib.trimPrefix x [116]).length ≤ 1048576 := by
  unfold Lib.trimPrefix
  split
  · rw [List.length_drop]; omega
  · exact h
set_option maxRecDepth 100000 in
set_option maxHeartbeats 4000000 in
theorem parseM_cat (s r : List UInt8) (t : Bool) (w : World) (hs : s.length ≤ 1048576) (hcut : cutT s = (r, t)) (hcat : r = [99, 97, 116, 97, 108, 111, 103]) :
    Calls Tryd.prog 7 #[.string ⟨s.toArray⟩] w fun e w' => e = .returned (FN.v ⟨4, 0, 0, t⟩) ∧ Below w.heap.size w w' := by
  have C1 := Lib.hid (cut_call s hs)
  rw [hcut] at C1
  have k0 := beq_yes2 hcat
  clear hcut hcat
  obtain ⟨S, hS⟩ : ∃ S : ByteArray, (⟨s.toArray⟩ : ByteArray) = S := ⟨_, rfl⟩
  obtain ⟨R, hR⟩ : ∃ S : ByteArray, (⟨r.toArray⟩ : ByteArray) = S := ⟨_, rfl⟩
  simp only [hS, hR] at C1 k0
  simp only [hS]
  clear hR hS
  go_enter Tryd.func7, Tryd.ntmps7
  go_upto_region 5 with (first
    | (go_at_call 27
       refine (C1.out _).mono ?_
       rintro e w1 ⟨rfl, hw1⟩
       rw [hw1]
       clear hw1)
    | go_in)
  obtain ⟨W0, hW0⟩ : ∃ W0, (w.alloc (.cells #[.int .i64 0, .int .i64 0, .int .i64 0, .bool false] 23)).alloc (.cells #[.int .i64 0, .int .i64 0, .int .i64 0, .bool t] 23) = W0 := ⟨_, rfl⟩
  have hz0 : W0.heap.size = w.heap.size + 2 := by rw [← hW0]; simp
  have hb0 : Below w.heap.size w W0 := by rw [← hW0]; exact (Below.al _ _).alloc (by simp) _
  have hx2 : Box W0 w.heap.size 23 #[.int .i64 0, .int .i64 0, .int .i64 0, .bool false] := by rw [← hW0]; exact (Box.new _ _ _).alloc _
  have hx3 : Box W0 (w.heap.size + 1) 23 #[.int .i64 0, .int .i64 0, .int .i64 0, .bool t] := by rw [← hW0]; simpa using Box.new (w.alloc (.cells #[.int .i64 0, .int .i64 0, .int .i64 0, .bool false] 23)) 23 #[.int .i64 0, .int .i64 0, .int .i64 0, .bool t]
  rw [hW0]
  clear hW0
  have H0 := Lib.hid (And.intro hz0 (And.intro hb0 (And.intro hx2 hx3)))
  clear hz0 hb0 hx2 hx3
  have hxc := H0.out.2.2.2.cell
  have hxf := H0.out.2.2.2.free
  have hxl := H0.out.2.2.2.lt
  have hxc2 := H0.out.2.2.1.cell
  have hxf2 := H0.out.2.2.1.free
  have hxl2 := H0.out.2.2.1.lt
  go_wp2_with fail
  refine bodyPost_ret (v := FN.v ⟨4, 0, 0, t⟩) ?_ rfl ?_
  · simp [results, Tryd.results7, go_sem, hxc2, FN.v]
  refine ⟨rfl, ?_⟩
  repeat (first | with_reducible exact H0.out.2.1 | refine Below.setCell ?_ (by simp) _)
set_option maxRecDepth 100000 in
set_option maxHeartbeats 4000000 in
theorem parseM_1 (s x r : List UInt8) (t : Bool) (w : World) (E : Env w)  (hs : s.length ≤ 1048576) (hr : r.length ≤ 1048576)
    (hne : ¬ s = []) (hcut : cutT s = (r, t)) (hcat : ¬ r = [99, 97, 116, 97, 108, 111, 103]) (hspl : spl r = [x]) (hlx : x.length ≤ 1048576) :
    Calls Tryd.prog 7 #[.string ⟨s.toArray⟩] w fun e w' => e = .returned (pickV (nameN ⟨0, atoiV (Lib.trimPrefix x [116]), 0, t⟩) s (FN.v ⟨0, atoiV (Lib.trimPrefix x [116]), 0, t⟩)) ∧ Below w.heap.size w w' := by
  have C1 := Lib.hid (cut_call s hs)
  rw [hcut] at C1
  have C2 := Lib.hid (split_call r hr)
  rw [hspl] at C2
  have C3 := Lib.hid (trim_call x)
  have C4 := Lib.hid (atoi_call (Lib.trimPrefix x [116]) (trim_len hlx))
  have C6 := Lib.hid (nameM_any 0 (atoiV (Lib.trimPrefix x [116])) (0) t)
  generalize hid1 : atoiV (Lib.trimPrefix x [116]) = id1 at C4 C6
  generalize htx : Lib.trimPrefix x [116] = tx at C3 C4
  generalize hnm : nameN ⟨0, id1, 0, t⟩ = nm at C6
  have k0 := beq_no2 hcat
  have k1 := beq_no2 hne
  have EE := Lib.hid E
  clear E hcut hspl hlx hcat hne hs hr htx hid1
  obtain ⟨S, hS⟩ : ∃ S : ByteArray, (⟨s.toArray⟩ : ByteArray) = S := ⟨_, rfl⟩
  obtain ⟨R, hR⟩ : ∃ S : ByteArray, (⟨r.toArray⟩ : ByteArray) = S := ⟨_, rfl⟩
  obtain ⟨X, hX⟩ : ∃ S : ByteArray, (⟨x.toArray⟩ : ByteArray) = S := ⟨_, rfl⟩
  obtain ⟨T, hT⟩ : ∃ S : ByteArray, (⟨tx.toArray⟩ : ByteArray) = S := ⟨_, rfl⟩
  obtain ⟨NM, hNM⟩ : ∃ S : ByteArray, (⟨nm.toArray⟩ : ByteArray) = S := ⟨_, rfl⟩
  have HS := Lib.hid (And.intro hS hNM)
  simp only [List.map_cons, List.map_nil, List.length_cons, List.length_nil, Nat.zero_add, hS, hR, hX, hT, hNM] at C1 C2 C3 C4 C6 k0 k1
  simp only [hS]
  clear hS hR hX hT hNM
  go_enter Tryd.func7, Tryd.ntmps7
  go_upto_region 7 with (first
    | (go_at_call 27
       refine (C1.out _).mono ?_
       rintro e w1 ⟨rfl, hw1⟩
       rw [hw1]
       clear hw1)
    | go_in)
  obtain ⟨W0, hW0⟩ : ∃ W0, (w.alloc (.cells #[.int .i64 0, .int .i64 0, .int .i64 0, .bool false] 23)).alloc (.cells #[.int .i64 0, .int .i64 0, .int .i64 0, .bool t] 23) = W0 := ⟨_, rfl⟩
  have hz0 : W0.heap.size = w.heap.size + 2 := by rw [← hW0]; simp
  have hb0 : Below w.heap.size w W0 := by rw [← hW0]; exact (Below.al _ _).alloc (by simp) _
  have hx2 : Box W0 w.heap.size 23 #[.int .i64 0, .int .i64 0, .int .i64 0, .bool false] := by rw [← hW0]; exact (Box.new _ _ _).alloc _
  have hx3 : Box W0 (w.heap.size + 1) 23 #[.int .i64 0, .int .i64 0, .int .i64 0, .bool t] := by rw [← hW0]; simpa using Box.new (w.alloc (.cells #[.int .i64 0, .int .i64 0, .int .i64 0, .bool false] 23)) 23 #[.int .i64 0, .int .i64 0, .int .i64 0, .bool t]
  rw [hW0]
  clear hW0
  have H0 := Lib.hid (And.intro hz0 (And.intro hb0 (And.intro hx2 hx3)))
  clear hz0 hb0 hx2 hx3
  go_upto_region 9 with (first
    | (go_at_call 28
       refine (C2.out _ (EE.out.below H0.out.2.1)).mono ?_
       rintro e w1 ⟨rfl, hw1⟩
       have hb1 : Below W0.heap.size W0 w1 := by rw [hw1]; exact Below.al _ _
       have hz1 : w1.heap.size = W0.heap.size + 1 := by rw [hw1]; simp
       have hxp : Box w1 W0.heap.size 9 #[.string X] := by rw [hw1]; exact Box.new _ _ _
       have hxc := hxp.cell
       have H1 := Lib.hid (And.intro hz1 (And.intro (H0.out.2.1.trans (hb1.mono H0.out.2.1.size)) (And.intro (H0.out.2.2.1.next hb1) (And.intro (H0.out.2.2.2.next hb1) hxp))))
       clear hb1 hz1 hxp hw1)
    | (go_at_call 30
       refine (C3.out _).mono ?_
       rintro e w2 ⟨rfl, hw2⟩
       rw [hw2]
       clear hw2)
    | (go_at_call 29
       refine (C4.out _ (EE.out.below H1.out.2.1)).mono ?_
       rintro e w3 ⟨⟨xe, rfl⟩, hb3⟩
       clear hxc
       have hx3 := H1.out.2.2.2.1.next hb3
       have hxc := hx3.cell
       have hxf := hx3.free
       have hxl := hx3.lt
       have H3 := Lib.hid (And.intro (H1.out.2.1.trans (hb3.mono H1.out.2.1.size)) (And.intro (H1.out.2.2.1.next hb3) (And.intro hx3 (H1.out.2.2.2.2.next hb3))))
       clear hb3 hx3)
    | go_in)
  obtain ⟨W4, hW4⟩ : ∃ Wx, w3.setCell ⟨w.heap.size + 1, 1, none⟩ (.int .i64 id1) = Wx := ⟨_, rfl⟩
  have hb4 : Below w.heap.size w W4 := by rw [← hW4]; exact H3.out.1.setCell (by simp) _
  have hx2 : Box W4 w.heap.size 23 #[.int .i64 0, .int .i64 0, .int .i64 0, .bool false] := by rw [← hW4]; exact H3.out.2.1.far (by simp) _
  have hx3 : Box W4 (w.heap.size + 1) 23 #[.int .i64 0, .int .i64 id1, .int .i64 0, .bool t] := by rw [← hW4]; exact H3.out.2.2.1.set_ 1 _
  have hxp : Box W4 W0.heap.size 9 #[.string X] := by rw [← hW4]; exact H3.out.2.2.2.far (by have := H0.out.1; simp; omega) _
  rw [hW4]
  clear hxc hxf hxl hW4
  have hxc := hx3.cell
  have hxf := hx3.free
  have hxl := hx3.lt
  have H4 := Lib.hid (And.intro hb4 (And.intro hx2 (And.intro hx3 hxp)))
  clear hb4 hx2 hx3 hxp
  go_upto_region 17 with fail
  have HE : Hid (∀ W, Below w.heap.size w W → Tab W) := Lib.hid fun W hb => (EE.out.below hb).tab
  by_cases hq : nm = s
  · have k9 : (NM.toList == S.toList) = true := by rw [← HS.out.1, ← HS.out.2]; exact beq_yes hq
    have HQ := Lib.hid hq
    clear hq
    go_wp2_with (first
      | (go_at_call 5
         refine (C6.out _ (HE.out _ H4.out.1)).mono ?_
         rintro e w8 ⟨rfl, hb8⟩
         clear hxc hxf hxl
         have hx2 := H4.out.2.1.next hb8
         have hx3 := H4.out.2.2.1.next hb8
         have hxc := hx3.cell
         have hxc2 := hx2.cell
         have hxf2 := hx2.free
         have hxl2 := hx2.lt
         have H8 := Lib.hid (H4.out.1.trans (hb8.mono H4.out.1.size))
         clear hb8 hx2 hx3))
    refine bodyPost_ret (v := FN.v ⟨0, id1, 0, t⟩) ?_ rfl ?_
    · simp [results, Tryd.results7, go_sem, hxc2, FN.v]
    refine ⟨by unfold pickV; rw [if_pos HQ.out], ?_⟩
    repeat (first | with_reducible exact H8.out | refine Below.setCell ?_ (by simp) _)
  · have k9 : (NM.toList == S.toList) = false := by rw [← HS.out.1, ← HS.out.2]; exact beq_no hq
    have HQ := Lib.hid hq
    clear hq
    go_wp2_with (first
      | (go_at_call 5
         refine (C6.out _ (HE.out _ H4.out.1)).mono ?_
         rintro e w8 ⟨rfl, hb8⟩
         clear hxc hxf hxl
         have hx2 := H4.out.2.1.next hb8
         have hx3 := H4.out.2.2.1.next hb8
         have hxc := hx3.cell
         have hxc2 := hx2.cell
         have hxf2 := hx2.free
         have hxl2 := hx2.lt
         have H8 := Lib.hid (H4.out.1.trans (hb8.mono H4.out.1.size))
         clear hb8 hx2 hx3))
    refine bodyPost_ret (v := FN.v FN.zero) ?_ rfl ?_
    · simp [results, Tryd.results7, go_sem, hxc2, FN.v, FN.zero]
    refine ⟨by unfold pickV; rw [if_neg HQ.out], ?_⟩
    repeat (first | with_reducible exact H8.out | refine Below.setCell ?_ (by simp) _)
set_option maxRecDepth 100000 in
set_option maxHeartbeats 4000000 in
theorem parseM_1e (s x r : List UInt8) (t : Bool) (w : World) (E : Env w)  (hs : s.length ≤ 1048576) (hr : r.length ≤ 1048576)
    (hne : s = []) (hcut : cutT s = (r, t)) (hcat : ¬ r = [99, 97, 116, 97, 108, 111, 103]) (hspl : spl r = [x]) (hlx : x.length ≤ 1048576) :
    Calls Tryd.prog 7 #[.string ⟨s.toArray⟩] w fun e w' => e = .returned (FN.v FN.zero) ∧ Below w.heap.size w w' := by
  have C1 := Lib.hid (cut_call s hs)
  rw [hcut] at C1
  have C2 := Lib.hid (split_call r hr)
  rw [hspl] at C2
  have C3 := Lib.hid (trim_call x)
  have C4 := Lib.hid (atoi_call (Lib.trimPrefix x [116]) (trim_len hlx))
  generalize hid1 : atoiV (Lib.trimPrefix x [116]) = id1 at C4
  generalize htx : Lib.trimPrefix x [116] = tx at C3 C4
  have k0 := beq_no2 hcat
  have k1 := beq_yes2 hne
  have EE := Lib.hid E
  clear E hcut hspl hlx hcat hne hs hr htx hid1
  obtain ⟨S, hS⟩ : ∃ S : ByteArray, (⟨s.toArray⟩ : ByteArray) = S := ⟨_, rfl⟩
  obtain ⟨R, hR⟩ : ∃ S : ByteArray, (⟨r.toArray⟩ : ByteArray) = S := ⟨_, rfl⟩
  obtain ⟨X, hX⟩ : ∃ S : ByteArray, (⟨x.toArray⟩ : ByteArray) = S := ⟨_, rfl⟩
  obtain ⟨T, hT⟩ : ∃ S : ByteArray, (⟨tx.toArray⟩ : ByteArray) = S := ⟨_, rfl⟩
  simp only [List.map_cons, List.map_nil, List.length_cons, List.length_nil, Nat.zero_add, hS, hR, hX, hT] at C1 C2 C3 C4 k0 k1
  simp only [hS]
  clear hS hR hX hT
  go_enter Tryd.func7, Tryd.ntmps7
  go_upto_region 7 with (first
    | (go_at_call 27
       refine (C1.out _).mono ?_
       rintro e w1 ⟨rfl, hw1⟩
       rw [hw1]
       clear hw1)
    | go_in)
  obtain ⟨W0, hW0⟩ : ∃ W0, (w.alloc (.cells #[.int .i64 0, .int .i64 0, .int .i64 0, .bool false] 23)).alloc (.cells #[.int .i64 0, .int .i64 0, .int .i64 0, .bool t] 23) = W0 := ⟨_, rfl⟩
  have hz0 : W0.heap.size = w.heap.size + 2 := by rw [← hW0]; simp
  have hb0 : Below w.heap.size w W0 := by rw [← hW0]; exact (Below.al _ _).alloc (by simp) _
  have hx2 : Box W0 w.heap.size 23 #[.int .i64 0, .int .i64 0, .int .i64 0, .bool false] := by rw [← hW0]; exact (Box.new _ _ _).alloc _
  have hx3 : Box W0 (w.heap.size + 1) 23 #[.int .i64 0, .int .i64 0, .int .i64 0, .bool t] := by rw [← hW0]; simpa using Box.new (w.alloc (.cells #[.int .i64 0, .int .i64 0, .int .i64 0, .bool false] 23)) 23 #[.int .i64 0, .int .i64 0, .int .i64 0, .bool t]
  rw [hW0]
  clear hW0
  have H0 := Lib.hid (And.intro hz0 (And.intro hb0 (And.intro hx2 hx3)))
  clear hz0 hb0 hx2 hx3
  go_upto_region 9 with (first
    | (go_at_call 28
       refine (C2.out _ (EE.out.below H0.out.2.1)).mono ?_
       rintro e w1 ⟨rfl, hw1⟩
       have hb1 : Below W0.heap.size W0 w1 := by rw [hw1]; exact Below.al _ _
       have hz1 : w1.heap.size = W0.heap.size + 1 := by rw [hw1]; simp
       have hxp : Box w1 W0.heap.size 9 #[.string X] := by rw [hw1]; exact Box.new _ _ _
       have hxc := hxp.cell
       have H1 := Lib.hid (And.intro hz1 (And.intro (H0.out.2.1.trans (hb1.mono H0.out.2.1.size)) (And.intro (H0.out.2.2.1.next hb1) (And.intro (H0.out.2.2.2.next hb1) hxp))))
       clear hb1 hz1 hxp hw1)
    | (go_at_call 30
       refine (C3.out _).mono ?_
       rintro e w2 ⟨rfl, hw2⟩
       rw [hw2]
       clear hw2)
    | (go_at_call 29
       refine (C4.out _ (EE.out.below H1.out.2.1)).mono ?_
       rintro e w3 ⟨⟨xe, rfl⟩, hb3⟩
       clear hxc
       have hx3 := H1.out.2.2.2.1.next hb3
       have hxc := hx3.cell
       have hxf := hx3.free
       have hxl := hx3.lt
       have H3 := Lib.hid (And.intro (H1.out.2.1.trans (hb3.mono H1.out.2.1.size)) (And.intro (H1.out.2.2.1.next hb3) (And.intro hx3 (H1.out.2.2.2.2.next hb3))))
       clear hb3 hx3)
    | go_in)
  obtain ⟨W4, hW4⟩ : ∃ Wx, w3.setCell ⟨w.heap.size + 1, 1, none⟩ (.int .i64 id1) = Wx := ⟨_, rfl⟩
  have hb4 : Below w.heap.size w W4 := by rw [← hW4]; exact H3.out.1.setCell (by simp) _
  have hx2 : Box W4 w.heap.size 23 #[.int .i64 0, .int .i64 0, .int .i64 0, .bool false] := by rw [← hW4]; exact H3.out.2.1.far (by simp) _
  have hx3 : Box W4 (w.heap.size + 1) 23 #[.int .i64 0, .int .i64 id1, .int .i64 0, .bool t] := by rw [← hW4]; exact H3.out.2.2.1.set_ 1 _
  have hxp : Box W4 W0.heap.size 9 #[.string X] := by rw [← hW4]; exact H3.out.2.2.2.far (by have := H0.out.1; simp; omega) _
  rw [hW4]
  clear hxc hxf hxl hW4
  have hxc := hx3.cell
  have hxf := hx3.free
  have hxl := hx3.lt
  have H4 := Lib.hid (And.intro hb4 (And.intro hx2 (And.intro hx3 hxp)))
  clear hb4 hx2 hx3 hxp
  have hx2 := H4.out.2.1
  have hxc2 := hx2.cell
  have hxf2 := hx2.free
  have hxl2 := hx2.lt
  go_wp2_with fail
  refine bodyPost_ret (v := FN.v FN.zero) ?_ rfl ?_
  · simp [results, Tryd.results7, go_sem, hxc2, FN.v, FN.zero]
  refine ⟨rfl, ?_⟩
  repeat (first | with_reducible exact H4.out.1 | refine Below.setCell ?_ (by simp) _)
set_option maxRecDepth 100000 in
set_option maxHeartbeats 4000000 in
theorem parseM_2m (s x y r : List UInt8) (t : Bool) (w : World) (E : Env w)  (hs : s.length ≤ 1048576) (hr : r.length ≤ 1048576)
    (hne : ¬ s = []) (hcut : cutT s = (r, t)) (hcat : ¬ r = [99, 97, 116, 97, 108, 111, 103]) (hspl : spl r = [x, y]) (hlx : x.length ≤ 1048576) (h0 : y = [109, 97, 110]) :
    Calls Tryd.prog 7 #[.string ⟨s.toArray⟩] w fun e w' => e = .returned (pickV (nameN ⟨3, atoiV (Lib.trimPrefix x [116]), 0, t⟩) s (FN.v ⟨3, atoiV (Lib.trimPrefix x [116]), 0, t⟩)) ∧ Below w.heap.size w w' := by
  have C1 := Lib.hid (cut_call s hs)
  rw [hcut] at C1
  have C2 := Lib.hid (split_call r hr)
  rw [hspl] at C2
  have C3 := Lib.hid (trim_call x)
  have C4 := Lib.hid (atoi_call (Lib.trimPrefix x [116]) (trim_len hlx))
  have C6 := Lib.hid (nameM_any 3 (atoiV (Lib.trimPrefix x [116])) (0) t)
  generalize hid1 : atoiV (Lib.trimPrefix x [116]) = id1 at C4 C6
  generalize htx : Lib.trimPrefix x [116] = tx at C3 C4
  generalize hnm : nameN ⟨3, id1, 0, t⟩ = nm at C6
  have k0 := beq_no2 hcat
  have k1 := beq_no2 hne
  have g0 := beq_yes2 h0
  have EE := Lib.hid E
  clear E hcut hspl hlx hcat hne hs hr htx hid1 h0
  obtain ⟨S, hS⟩ : ∃ S : ByteArray, (⟨s.toArray⟩ : ByteArray) = S := ⟨_, rfl⟩
  obtain ⟨R, hR⟩ : ∃ S : ByteArray, (⟨r.toArray⟩ : ByteArray) = S := ⟨_, rfl⟩
  obtain ⟨X, hX⟩ : ∃ S : ByteArray, (⟨x.toArray⟩ : ByteArray) = S := ⟨_, rfl⟩
  obtain ⟨T, hT⟩ : ∃ S : ByteArray, (⟨tx.toArray⟩ : ByteArray) = S := ⟨_, rfl⟩
  obtain ⟨Y, hY⟩ : ∃ S : ByteArray, (⟨y.toArray⟩ : ByteArray) = S := ⟨_, rfl⟩
  obtain ⟨NM, hNM⟩ : ∃ S : ByteArray, (⟨nm.toArray⟩ : ByteArray) = S := ⟨_, rfl⟩
  have HS := Lib.hid (And.intro hS hNM)
  simp only [List.map_cons, List.map_nil, List.length_cons, List.length_nil, Nat.zero_add, Nat.reduceAdd, hS, hR, hX, hT, hY, hNM] at C1 C2 C3 C4 C6 k0 k1 g0
  simp only [hS]
  clear hS hR hX hT hY hNM
  go_enter Tryd.func7, Tryd.ntmps7
  go_upto_region 7 with (first
    | (go_at_call 27
       refine (C1.out _).mono ?_
       rintro e w1 ⟨rfl, hw1⟩
       rw [hw1]
       clear hw1)
    | go_in)
  obtain ⟨W0, hW0⟩ : ∃ W0, (w.alloc (.cells #[.int .i64 0, .int .i64 0, .int .i64 0, .bool false] 23)).alloc (.cells #[.int .i64 0, .int .i64 0, .int .i64 0, .bool t] 23) = W0 := ⟨_, rfl⟩
  have hz0 : W0.heap.size = w.heap.size + 2 := by rw [← hW0]; simp
  have hb0 : Below w.heap.size w W0 := by rw [← hW0]; exact (Below.al _ _).alloc (by simp) _
  have hx2 : Box W0 w.heap.size 23 #[.int .i64 0, .int .i64 0, .int .i64 0, .bool false] := by rw [← hW0]; exact (Box.new _ _ _).alloc _
  have hx3 : Box W0 (w.heap.size + 1) 23 #[.int .i64 0, .int .i64 0, .int .i64 0, .bool t] := by rw [← hW0]; simpa using Box.new (w.alloc (.cells #[.int .i64 0, .int .i64 0, .int .i64 0, .bool false] 23)) 23 #[.int .i64 0, .int .i64 0, .int .i64 0, .bool t]
  rw [hW0]
  clear hW0
  have H0 := Lib.hid (And.intro hz0 (And.intro hb0 (And.intro hx2 hx3)))
  clear hz0 hb0 hx2 hx3
  go_upto_region 9 with (first
    | (go_at_call 28
       refine (C2.out _ (EE.out.below H0.out.2.1)).mono ?_
       rintro e w1 ⟨rfl, hw1⟩
       have hb1 : Below W0.heap.size W0 w1 := by rw [hw1]; exact Below.al _ _
       have hz1 : w1.heap.size = W0.heap.size + 1 := by rw [hw1]; simp
       have hxp : Box w1 W0.heap.size 9 #[.string X, .string Y] := by rw [hw1]; exact Box.new _ _ _
       have hxc := hxp.cell
       have H1 := Lib.hid (And.intro hz1 (And.intro (H0.out.2.1.trans (hb1.mono H0.out.2.1.size)) (And.intro (H0.out.2.2.1.next hb1) (And.intro (H0.out.2.2.2.next hb1) hxp))))
       clear hb1 hz1 hxp hw1)
    | (go_at_call 30
       refine (C3.out _).mono ?_
       rintro e w2 ⟨rfl, hw2⟩
       rw [hw2]
       clear hw2)
    | (go_at_call 29
       refine (C4.out _ (EE.out.below H1.out.2.1)).mono ?_
       rintro e w3 ⟨⟨xe, rfl⟩, hb3⟩
       clear hxc
       have hx3 := H1.out.2.2.2.1.next hb3
       have hxc := hx3.cell
       have hxf := hx3.free
       have hxl := hx3.lt
       have H3 := Lib.hid (And.intro (H1.out.2.1.trans (hb3.mono H1.out.2.1.size)) (And.intro (H1.out.2.2.1.next hb3) (And.intro hx3 (H1.out.2.2.2.2.next hb3))))
       clear hb3 hx3)
    | go_in)
  obtain ⟨W4, hW4⟩ : ∃ Wx, w3.setCell ⟨w.heap.size + 1, 1, none⟩ (.int .i64 id1) = Wx := ⟨_, rfl⟩
  have hb4 : Below w.heap.size w W4 := by rw [← hW4]; exact H3.out.1.setCell (by simp) _
  have hx2 : Box W4 w.heap.size 23 #[.int .i64 0, .int .i64 0, .int .i64 0, .bool false] := by rw [← hW4]; exact H3.out.2.1.far (by simp) _
  have hx3 : Box W4 (w.heap.size + 1) 23 #[.int .i64 0, .int .i64 id1, .int .i64 0, .bool t] := by rw [← hW4]; exact H3.out.2.2.1.set_ 1 _
  have hxp : Box W4 W0.heap.size 9 #[.string X, .string Y] := by rw [← hW4]; exact H3.out.2.2.2.far (by have := H0.out.1; simp; omega) _
  rw [hW4]
  clear hxc hxf hxl hW4
  have hxc := hx3.cell
  have hxf := hx3.free
  have hxl := hx3.lt
  have hxq := hxp.cell
  have H4 := Lib.hid (And.intro hb4 (And.intro hx2 (And.intro hx3 hxp)))
  clear hb4 hx2 hx3 hxp
  go_upto_region 15 with fail
  obtain ⟨W5, hW5⟩ : ∃ Wx, W4.setCell ⟨w.heap.size + 1, 0, none⟩ (.int .i64 3) = Wx := ⟨_, rfl⟩
  have hb4 : Below w.heap.size w W5 := by rw [← hW5]; exact H4.out.1.setCell (by simp) _
  have hx2 : Box W5 w.heap.size 23 #[.int .i64 0, .int .i64 0, .int .i64 0, .bool false] := by rw [← hW5]; exact H4.out.2.1.far (by simp) _
  have hx3 : Box W5 (w.heap.size + 1) 23 #[.int .i64 3, .int .i64 id1, .int .i64 0, .bool t] := by rw [← hW5]; exact H4.out.2.2.1.set_ 0 _
  have hxp : Box W5 W0.heap.size 9 #[.string X, .string Y] := by rw [← hW5]; exact H4.out.2.2.2.far (by have := H0.out.1; simp; omega) _
  rw [hW5]
  clear hxc hxf hxl hxq hW5
  have hxc := hx3.cell
  have hxf := hx3.free
  have hxl := hx3.lt
  have H5 := Lib.hid (And.intro hb4 (And.intro hx2 (And.intro hx3 hxp)))
  clear hb4 hx2 hx3 hxp
  go_upto_region 17 with fail
  have HE : Hid (∀ W, Below w.heap.size w W → Tab W) := Lib.hid fun W hb => (EE.out.below hb).tab
  by_cases hq : nm = s
  · have k9 : (NM.toList == S.toList) = true := by rw [← HS.out.1, ← HS.out.2]; exact beq_yes hq
    have HQ := Lib.hid hq
    clear hq
    go_wp2_with (first
      | (go_at_call 5
         refine (C6.out _ (HE.out _ H5.out.1)).mono ?_
         rintro e w8 ⟨rfl, hb8⟩
         clear hxc hxf hxl
         have hx2 := H5.out.2.1.next hb8
         have hx3 := H5.out.2.2.1.next hb8
         have hxc := hx3.cell
         have hxc2 := hx2.cell
         have hxf2 := hx2.free
         have hxl2 := hx2.lt
         have H8 := Lib.hid (H5.out.1.trans (hb8.mono H5.out.1.size))
         clear hb8 hx2 hx3))
    refine bodyPost_ret (v := FN.v ⟨3, id1, 0, t⟩) ?_ rfl ?_
    · simp [results, Tryd.results7, go_sem, hxc2, FN.v]
    refine ⟨by unfold pickV; rw [if_pos HQ.out], ?_⟩
    repeat (first | with_reducible exact H8.out | refine Below.setCell ?_ (by simp) _)
  · have k9 : (NM.toList == S.toList) = false := by rw [← HS.out.1, ← HS.out.2]; exact beq_no hq
    have HQ := Lib.hid hq
    clear hq
    go_wp2_with (first
      | (go_at_call 5
         refine (C6.out _ (HE.out _ H5.out.1)).mono ?_
         rintro e w8 ⟨rfl, hb8⟩
         clear hxc hxf hxl
         have hx2 := H5.out.2.1.next hb8
         have hx3 := H5.out.2.2.1.next hb8
         have hxc := hx3.cell
         have hxc2 := hx2.cell
         have hxf2 := hx2.free
         have hxl2 := hx2.lt
         have H8 := Lib.hid (H5.out.1.trans (hb8.mono H5.out.1.size))
         clear hb8 hx2 hx3))
    refine bodyPost_ret (v := FN.v FN.zero) ?_ rfl ?_
    · simp [results, Tryd.results7, go_sem, hxc2, FN.v, FN.zero]
    refine ⟨by unfold pickV; rw [if_neg HQ.out], ?_⟩
    repeat (first | with_reducible exact H8.out | refine Below.setCell ?_ (by simp) _)
set_option maxRecDepth 100000 in
set_option maxHeartbeats 4000000 in
theorem parseM_2o (s x y r : List UInt8) (t : Bool) (w : World) (E : Env w)  (hs : s.length ≤ 1048576) (hr : r.length ≤ 1048576)
    (hne : ¬ s = []) (hcut : cutT s = (r, t)) (hcat : ¬ r = [99, 97, 116, 97, 108, 111, 103]) (hspl : spl r = [x, y]) (hlx : x.length ≤ 1048576) (h0 : ¬ y = [109, 97, 110]) :
    Calls Tryd.prog 7 #[.string ⟨s.toArray⟩] w fun e w' => e = .returned (pickV (nameN ⟨0, atoiV (Lib.trimPrefix x [116]), 0, t⟩) s (FN.v ⟨0, atoiV (Lib.trimPrefix x [116]), 0, t⟩)) ∧ Below w.heap.size w w' := by
  have C1 := Lib.hid (cut_call s hs)
  rw [hcut] at C1
  have C2 := Lib.hid (split_call r hr)
  rw [hspl] at C2
  have C3 := Lib.hid (trim_call x)
  have C4 := Lib.hid (atoi_call (Lib.trimPrefix x [116]) (trim_len hlx))
  have C6 := Lib.hid (nameM_any 0 (atoiV (Lib.trimPrefix x [116])) (0) t)
  generalize hid1 : atoiV (Lib.trimPrefix x [116]) = id1 at C4 C6
  generalize htx : Lib.trimPrefix x [116] = tx at C3 C4
  generalize hnm : nameN ⟨0, id1, 0, t⟩ = nm at C6
  have k0 := beq_no2 hcat
  have k1 := beq_no2 hne
  have g0 := beq_no2 h0
  have EE := Lib.hid E
  clear E hcut hspl hlx hcat hne hs hr htx hid1 h0
  obtain ⟨S, hS⟩ : ∃ S : ByteArray, (⟨s.toArray⟩ : ByteArray) = S := ⟨_, rfl⟩
  obtain ⟨R, hR⟩ : ∃ S : ByteArray, (⟨r.toArray⟩ : ByteArray) = S := ⟨_, rfl⟩
  obtain ⟨X, hX⟩ : ∃ S : ByteArray, (⟨x.toArray⟩ : ByteArray) = S := ⟨_, rfl⟩
  obtain ⟨T, hT⟩ : ∃ S : ByteArray, (⟨tx.toArray⟩ : ByteArray) = S := ⟨_, rfl⟩
  obtain ⟨Y, hY⟩ : ∃ S : ByteArray, (⟨y.toArray⟩ : ByteArray) = S := ⟨_, rfl⟩
  obtain ⟨NM, hNM⟩ : ∃ S : ByteArray, (⟨nm.toArray⟩ : ByteArray) = S := ⟨_, rfl⟩
  have HS := Lib.hid (And.intro hS hNM)
  simp only [List.map_cons, List.map_nil, List.length_cons, List.length_nil, Nat.zero_add, Nat.reduceAdd, hS, hR, hX, hT, hY, hNM] at C1 C2 C3 C4 C6 k0 k1 g0
  simp only [hS]
  clear hS hR hX hT hY hNM
  go_enter Tryd.func7, Tryd.ntmps7
  go_upto_region 7 with (first
    | (go_at_call 27
       refine (C1.out _).mono ?_
       rintro e w1 ⟨rfl, hw1⟩
       rw [hw1]
       clear hw1)
    | go_in)
  obtain ⟨W0, hW0⟩ : ∃ W0, (w.alloc (.cells #[.int .i64 0, .int .i64 0, .int .i64 0, .bool false] 23)).alloc (.cells #[.int .i64 0, .int .i64 0, .int .i64 0, .bool t] 23) = W0 := ⟨_, rfl⟩
  have hz0 : W0.heap.size = w.heap.size + 2 := by rw [← hW0]; simp
  have hb0 : Below w.heap.size w W0 := by rw [← hW0]; exact (Below.al _ _).alloc (by simp) _
  have hx2 : Box W0 w.heap.size 23 #[.int .i64 0, .int .i64 0, .int .i64 0, .bool false] := by rw [← hW0]; exact (Box.new _ _ _).alloc _
  have hx3 : Box W0 (w.heap.size + 1) 23 #[.int .i64 0, .int .i64 0, .int .i64 0, .bool t] := by rw [← hW0]; simpa using Box.new (w.alloc (.cells #[.int .i64 0, .int .i64 0, .int .i64 0, .bool false] 23)) 23 #[.int .i64 0, .int .i64 0, .int .i64 0, .bool t]
  rw [hW0]
  clear hW0
  have H0 := Lib.hid (And.intro hz0 (And.intro hb0 (And.intro hx2 hx3)))
  clear hz0 hb0 hx2 hx3
  go_upto_region 9 with (first
    | (go_at_call 28
       refine (C2.out _ (EE.out.below H0.out.2.1)).mono ?_
       rintro e w1 ⟨rfl, hw1⟩
       have hb1 : Below W0.heap.size W0 w1 := by rw [hw1]; exact Below.al _ _
       have hz1 : w1.heap.size = W0.heap.size + 1 := by rw [hw1]; simp
       have hxp : Box w1 W0.heap.size 9 #[.string X, .string Y] := by rw [hw1]; exact Box.new _ _ _
       have hxc := hxp.cell
       have H1 := Lib.hid (And.intro hz1 (And.intro (H0.out.2.1.trans (hb1.mono H0.out.2.1.size)) (And.intro (H0.out.2.2.1.next hb1) (And.intro (H0.out.2.2.2.next hb1) hxp))))
       clear hb1 hz1 hxp hw1)
    | (go_at_call 30
       refine (C3.out _).mono ?_
       rintro e w2 ⟨rfl, hw2⟩
       rw [hw2]
       clear hw2)
    | (go_at_call 29
       refine (C4.out _ (EE.out.below H1.out.2.1)).mono ?_
       rintro e w3 ⟨⟨xe, rfl⟩, hb3⟩
       clear hxc
       have hx3 := H1.out.2.2.2.1.next hb3
       have hxc := hx3.cell
       have hxf := hx3.free
       have hxl := hx3.lt
       have H3 := Lib.hid (And.intro (H1.out.2.1.trans (hb3.mono H1.out.2.1.size)) (And.intro (H1.out.2.2.1.next hb3) (And.intro hx3 (H1.out.2.2.2.2.next hb3))))
       clear hb3 hx3)
    | go_in)
  obtain ⟨W4, hW4⟩ : ∃ Wx, w3.setCell ⟨w.heap.size + 1, 1, none⟩ (.int .i64 id1) = Wx := ⟨_, rfl⟩
  have hb4 : Below w.heap.size w W4 := by rw [← hW4]; exact H3.out.1.setCell (by simp) _
  have hx2 : Box W4 w.heap.size 23 #[.int .i64 0, .int .i64 0, .int .i64 0, .bool false] := by rw [← hW4]; exact H3.out.2.1.far (by simp) _
  have hx3 : Box W4 (w.heap.size + 1) 23 #[.int .i64 0, .int .i64 id1, .int .i64 0, .bool t] := by rw [← hW4]; exact H3.out.2.2.1.set_ 1 _
  have hxp : Box W4 W0.heap.size 9 #[.string X, .string Y] := by rw [← hW4]; exact H3.out.2.2.2.far (by have := H0.out.1; simp; omega) _
  rw [hW4]
  clear hxc hxf hxl hW4
  have hxc := hx3.cell
  have hxf := hx3.free
  have hxl := hx3.lt
  have hxq := hxp.cell
  have H4 := Lib.hid (And.intro hb4 (And.intro hx2 (And.intro hx3 hxp)))
  clear hb4 hx2 hx3 hxp
  go_upto_region 17 with fail
  have HE : Hid (∀ W, Below w.heap.size w W → Tab W) := Lib.hid fun W hb => (EE.out.below hb).tab
  by_cases hq : nm = s
  · have k9 : (NM.toList == S.toList) = true := by rw [← HS.out.1, ← HS.out.2]; exact beq_yes hq
    have HQ := Lib.hid hq
    clear hq
    go_wp2_with (first
      | (go_at_call 5
         refine (C6.out _ (HE.out _ H4.out.1)).mono ?_
         rintro e w8 ⟨rfl, hb8⟩
         clear hxc hxf hxl hxq
         have hx2 := H4.out.2.1.next hb8
         have hx3 := H4.out.2.2.1.next hb8
         have hxc := hx3.cell
         have hxc2 := hx2.cell
         have hxf2 := hx2.free
         have hxl2 := hx2.lt
         have H8 := Lib.hid (H4.out.1.trans (hb8.mono H4.out.1.size))
         clear hb8 hx2 hx3))
    refine bodyPost_ret (v := FN.v ⟨0, id1, 0, t⟩) ?_ rfl ?_
    · simp [results, Tryd.results7, go_sem, hxc2, FN.v]
    refine ⟨by unfold pickV; rw [if_pos HQ.out], ?_⟩
    repeat (first | with_reducible exact H8.out | refine Below.setCell ?_ (by simp) _)
  · have k9 : (NM.toList == S.toList) = false := by rw [← HS.out.1, ← HS.out.2]; exact beq_no hq
    have HQ := Lib.hid hq
    clear hq
    go_wp2_with (first
      | (go_at_call 5
         refine (C6.out _ (HE.out _ H4.out.1)).mono ?_
         rintro e w8 ⟨rfl, hb8⟩
         clear hxc hxf hxl hxq
         have hx2 := H4.out.2.1.next hb8
         have hx3 := H4.out.2.2.1.next hb8
         have hxc := hx3.cell
         have hxc2 := hx2.cell
         have hxf2 := hx2.free
         have hxl2 := hx2.lt
         have H8 := Lib.hid (H4.out.1.trans (hb8.mono H4.out.1.size))
         clear hb8 hx2 hx3))
    refine bodyPost_ret (v := FN.v FN.zero) ?_ rfl ?_
    · simp [results, Tryd.results7, go_sem, hxc2, FN.v, FN.zero]
    refine ⟨by unfold pickV; rw [if_neg HQ.out], ?_⟩
    repeat (first | with_reducible exact H8.out | refine Below.setCell ?_ (by simp) _)
end Go.Proofs.YtbmbgkgjlnookaaDoor
