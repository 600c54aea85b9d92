import Derived.Test.YtebeefkibbbkdaaSm7
/- The directory of a disk, by blocks: settle, part. -/
namespace Go.Proofs.Ytebeefkibbbkdaa
open Go.RowKit Go.Maps

theorem map_get {cs : List DC} {i : Nat} (hi : i < cs.length) (h : i < (cs.map dv).length) : (cs.map dv)[i] = dv cs[i] := by simp
theorem take_foldD {l : List KE} {cs : List DC} {i : Nat} (hi : i < cs.length) : (cs.take (i + 1)).foldl ddo l = ddo ((cs.take i).foldl ddo l) cs[i] := by
  rw [List.take_succ_eq_append_getElem hi, List.foldl_append]; rfl

set_option maxRecDepth 100000 in
set_option maxHeartbeats 8000000 in
theorem settleD (d ms mf n : Nat) (vc : Value) (q : DX) (l : List KE) (cs : List DC) (w : World) (hb : Box w d 72 (dxc ms mf vc q)) (hm : MD w mf l) (hr : w.ownsRow 0 148 1 vc n (cs.map dv)) (hn : cs.length = n)
    (hd : d ≠ mf) (hvd : ∀ b, vc.ownBlock = some b → b ≠ d ∧ b ≠ mf) (hok : okD l cs) (hz : ∀ c ∈ cs, dcOk c) (hlen : ∀ i, ((cs.take i).foldl ddo l).length < 1000000000000) (hmx : n ≤ 140737488355328) :
    Calls Try.prog 82 #[.pointer (some ⟨d, 0, none⟩)] w fun e w' => e = .returned (.tuple #[]) ∧ Box w' d 72 (dxc ms mf (.slice none 0 0) q) ∧ MD w' mf (cs.foldl ddo l) ∧ Chg (fun b => b = d ∨ b = mf) w w' := by
  obtain ⟨q1, q2, q3, q4, q5⟩ := q
  obtain ⟨c0, d0, rfl⟩ := row_slice hr
  have hbc := hb.cell 2
  have hbl := hb.lt
  have H := Lib.hid (And.intro hb (And.intro hm (And.intro hr hvd)))
  have HH := Lib.hid (And.intro hok (And.intro hz hlen))
  have HN := Lib.hid (And.intro hn hn)
  have m1 := meth_made
  have m2 := meth_ren
  have m3 := meth_rem
  have m4 := ahead_made
  have m5 := ahead_ren
  have m6 := ahead_rem
  clear hb hm hr hvd hok hz hlen hn
  go_enter Try.func82, Try.ntmps82
  go_wp2
  go_loopw [9] (fun i wr => ∃ j : Nat, j ≤ n ∧ i = .int .i64 j ∧ Box wr d 72 #[.map (some ms), .map (some mf), .slice c0 n d0, .int .i64 q1, .int .i64 q2, .int .i64 q3, .bool q4, .int .i64 q5] ∧ MD wr mf ((cs.take j).foldl ddo l) ∧ Chg (fun b => b = d ∨ b = mf) w wr) (fun i _ => n - (intOf i).toNat)
  case atStart => exact ⟨0, Nat.zero_le _, rfl, H.out.1, H.out.2.1, Chg.refl _ _⟩
  case round =>
    clear hbc
    obtain ⟨j, hj, rfl, hx, hm, hc⟩ := hrel
    have hrow := row_block H.out.2.2.1 (w' := wr) fun b hb => hc.block b (H.out.2.2.1.lt b hb).2 fun hs => by
      have := H.out.2.2.2 b hb
      rcases hs with rfl | rfl
      · exact this.1 rfl
      · exact this.2 rfl
    by_cases hlt : j < n
    · have hju : j < cs.length := by rw [HN.out.1]; exact hlt
      have hjm : j < (cs.map dv).length := by rw [List.length_map]; exact hju
      obtain ⟨ad, rfl, hadl, hac⟩ := (row_rd hrow).one hjm
      rw [map_get hju hjm] at hac
      have HT := Lib.hid (take_foldD (l := l) hju)
      have HOK := Lib.hid (okD_at HH.out.1 hju)
      have HZ := Lib.hid (HH.out.2.1 _ (List.getElem_mem hju))
      have HL := Lib.hid (HH.out.2.2 j)
      have hj0 : (0 : Int) ≤ j := by omega
      have hj1 : (j : Int) < n := by omega
      generalize (cs.take j).foldl ddo l = y at hm HT HOK HL
      generalize cs[j] = c at hac HT HOK HZ
      have hxc := hx.cell 1
      have hxl := hx.lt
      have HM := Lib.hid (And.intro hx (And.intro hm hc))
      clear hx hm hc hrow hju hjm
      match c with
      | .inl (nm, e) =>
          replace hac : wr.cell? (ad.add j) = some (.iface 139 (.agg #[.string nm, .pointer (some ⟨e, 0, none⟩)])) := hac
          go_wp2
          go_region_with (go_at_call 163
                          refine (made_do mf e y nm _ (by exact HM.out.2.1.keep rfl) HZ.out HL.out).mono ?_
                          rintro e w1 ⟨rfl, hm, hc⟩
                          have hx := (show Box wr.drew d 72 _ from HM.out.1).chg hc (fun e => hd e)
                          have hyc := hx.cell 1
                          have hyf := hx.free 1
                          have hyl := hx.lt
                          have H1 := Lib.hid (And.intro hx (And.intro hm hc))
                          clear hm hc hx)
          all_goals
            go_wp2
            go_roundw
            case rel => exact ⟨j + 1, by omega, by go_num, by simpa using H1.out.1.set_ 1 (.map (some mf)), by rw [HT.out]; exact (H1.out.2.1.keep (Below.heap_setCell _ _ _ _ (by show mf ≠ d; exact fun e => hd e.symm))), ((HM.out.2.2.drew.trans (H1.out.2.2.mono fun j _ hj => .inr hj))).setCell (.inl (.inl rfl)) _⟩
            case measure => simp [intOf]; omega
      | .inr (.inl (a, b)) =>
          replace hac : wr.cell? (ad.add j) = some (.iface 145 (.agg #[.string a, .string b])) := hac
          obtain ⟨_, e0, hg⟩ := HOK.out a b rfl
          have HG := Lib.hid hg
          have HDD := Lib.hid (show ddo y (.inr (.inl (a, b))) = delL a (putL b e0 y) by simp [ddo, hg])
          clear hg
          go_wp2
          go_region_with (go_at_call 165
                          refine (renamed_do mf e0 y a b _ (by exact HM.out.2.1.keep rfl) (by have := HZ.out.1; unfold maxLen; omega) HZ.out.2 HG.out HL.out).mono ?_
                          rintro e w1 ⟨rfl, hm, hc⟩
                          have hx := (show Box wr.drew d 72 _ from HM.out.1).chg hc (fun e => hd e)
                          have hyc := hx.cell 1
                          have hyf := hx.free 1
                          have hyl := hx.lt
                          have H1 := Lib.hid (And.intro hx (And.intro hm hc))
                          clear hm hc hx)
          all_goals
            go_wp2
            go_roundw
            case rel => exact ⟨j + 1, by omega, by go_num, by simpa using H1.out.1.set_ 1 (.map (some mf)), by rw [HT.out]; rw [HDD.out]; exact (H1.out.2.1.keep (Below.heap_setCell _ _ _ _ (by show mf ≠ d; exact fun e => hd e.symm))), ((HM.out.2.2.drew.trans (H1.out.2.2.mono fun j _ hj => .inr hj))).setCell (.inl (.inl rfl)) _⟩
            case measure => simp [intOf]; omega
      | .inr (.inr nm) =>
          replace hac : wr.cell? (ad.add j) = some (.iface 137 (.agg #[.string nm])) := hac
          go_wp2
          go_region_with (go_at_call 162
                          refine (removed_do mf y nm _ (by exact HM.out.2.1.keep rfl) (by have h9 : nm.size ≤ 32 := HZ.out; unfold maxLen; omega)).mono ?_
                          rintro e w1 ⟨rfl, hm, hc⟩
                          have hx := (show Box wr.drew d 72 _ from HM.out.1).chg hc (fun e => hd e)
                          have hyc := hx.cell 1
                          have hyf := hx.free 1
                          have hyl := hx.lt
                          have H1 := Lib.hid (And.intro hx (And.intro hm hc))
                          clear hm hc hx)
          all_goals
            go_wp2
            go_roundw
            case rel => exact ⟨j + 1, by omega, by go_num, by simpa using H1.out.1.set_ 1 (.map (some mf)), by rw [HT.out]; exact (H1.out.2.1.keep (Below.heap_setCell _ _ _ _ (by show mf ≠ d; exact fun e => hd e.symm))), ((HM.out.2.2.drew.trans (H1.out.2.2.mono fun j _ hj => .inr hj))).setCell (.inl (.inl rfl)) _⟩
            case measure => simp [intOf]; omega
    · have hjn : j = n := by omega
      subst hjn
      have HE := Lib.hid (show (cs.take j).foldl ddo l = cs.foldl ddo l by rw [← HN.out.1, List.take_length])
      have hyc := hx.cell 2
      have hyf := hx.free 2
      have hyl := hx.lt
      have HM := Lib.hid (And.intro hx (And.intro hm hc))
      clear hx hm hc hrow
      go_wp2
      go_end0
      exact ⟨rfl, by simpa using HM.out.1.set_ 2 (.slice none 0 0), by rw [← HE.out]; exact HM.out.2.1.keep (Below.heap_setCell _ _ _ _ (by show mf ≠ d; exact fun e => hd e.symm)), HM.out.2.2.setCell (.inl (.inl rfl)) _⟩

set_option maxRecDepth 100000 in
set_option maxHeartbeats 8000000 in
theorem partD (d ms mf n m b0 : Nat) (vc : Value) (q : DX) (l : List KE) (cs : List DC) (w : World) (hb : Box w d 72 (dxc ms mf vc q)) (hm : MD w b0 l) (hr : w.ownsRow 0 148 1 vc m (cs.map dv)) (hn : cs.length = m) (hnm : n ≤ m)
    (hvd : ∀ b, vc.ownBlock = some b → b ≠ b0) (hok : okD l cs) (hz : ∀ c ∈ cs, dcOk c) (hlen : ∀ i, ((cs.take i).foldl ddo l).length < 1000000000000) (hmx : m ≤ 140737488355328) :
    Calls Try.prog 38 #[.pointer (some ⟨d, 0, none⟩), .map (some b0), .int .i64 n] w fun e w' => e = .returned (.map (some b0)) ∧ MD w' b0 ((cs.take n).foldl ddo l) ∧ Chg (fun b => b = b0) w w' := by
  obtain ⟨q1, q2, q3, q4, q5⟩ := q
  obtain ⟨c0, d0, rfl⟩ := row_slice hr
  have hcap := row_cap hr
  have hbc := hb.cell 2
  have hbl := hb.lt
  have hn0 : (0 : Int) ≤ n := by omega
  have hn1 : (n : Int) ≤ d0 := by omega
  have H := Lib.hid (And.intro hm (And.intro hr hvd))
  have HH := Lib.hid (And.intro hok (And.intro hz hlen))
  have HN := Lib.hid (And.intro hn hn)
  have m1 := meth_made
  have m2 := meth_ren
  have m3 := meth_rem
  clear hb hm hr hvd hok hz hlen hn hcap
  go_enter Try.func38, Try.ntmps38
  go_wp2
  go_loopw [1, 16] (fun z i wr => ∃ j : Nat, j ≤ n ∧ i = .int .i64 j ∧ z = .map (some b0) ∧ MD wr b0 ((cs.take j).foldl ddo l) ∧ Chg (fun b => b = b0) w wr) (fun _ i _ => n - (intOf i).toNat)
  case atStart => exact ⟨0, Nat.zero_le _, rfl, rfl, H.out.1, Chg.refl _ _⟩
  case round =>
    clear hbc
    obtain ⟨j, hj, rfl, rfl, hm, hc⟩ := hrel
    have hrow := row_block H.out.2.1 (w' := wr) fun b hb => hc.block b (H.out.2.1.lt b hb).2 fun hs => H.out.2.2 b hb hs
    by_cases hlt : j < n
    · have hju : j < cs.length := by rw [HN.out.1]; omega
      have hjm : j < (cs.map dv).length := by rw [List.length_map]; exact hju
      obtain ⟨ad, rfl, hadl, hac⟩ := (row_rd hrow).one hjm
      rw [map_get hju hjm] at hac
      have HT := Lib.hid (take_foldD (l := l) hju)
      have HOK := Lib.hid (okD_at HH.out.1 hju)
      have HZ := Lib.hid (HH.out.2.1 _ (List.getElem_mem hju))
      have HL := Lib.hid (HH.out.2.2 j)
      have hj0 : (0 : Int) ≤ j := by omega
      have hj1 : (j : Int) < n := by omega
      generalize (cs.take j).foldl ddo l = y at hm HT HOK HL
      generalize cs[j] = c at hac HT HOK HZ
      have HM := Lib.hid (And.intro hm (And.intro hm hc))
      clear hm hc hrow hju hjm
      match c with
      | .inl (nm, e) =>
          replace hac : wr.cell? (ad.add j) = some (.iface 139 (.agg #[.string nm, .pointer (some ⟨e, 0, none⟩)])) := hac
          go_wp2_with (go_at_call 163
                       refine (made_do b0 e y nm _ (by exact HM.out.2.1.keep rfl) HZ.out HL.out).mono ?_
                       rintro e w1 ⟨rfl, hm, hc⟩
                       have H1 := Lib.hid (And.intro hm hc)
                       clear hm hc)
          go_roundw
          case rel => exact ⟨j + 1, by omega, by go_num, rfl, by rw [HT.out]; exact H1.out.1, HM.out.2.2.trans H1.out.2⟩
          case measure => simp [intOf]; omega
      | .inr (.inl (a, b)) =>
          replace hac : wr.cell? (ad.add j) = some (.iface 145 (.agg #[.string a, .string b])) := hac
          obtain ⟨_, e0, hg⟩ := HOK.out a b rfl
          have HG := Lib.hid hg
          have HDD := Lib.hid (show ddo y (.inr (.inl (a, b))) = delL a (putL b e0 y) by simp [ddo, hg])
          clear hg
          go_wp2_with (go_at_call 165
                       refine (renamed_do b0 e0 y a b _ (by exact HM.out.2.1.keep rfl) (by have := HZ.out.1; unfold maxLen; omega) HZ.out.2 HG.out HL.out).mono ?_
                       rintro e w1 ⟨rfl, hm, hc⟩
                       have H1 := Lib.hid (And.intro hm hc)
                       clear hm hc)
          go_roundw
          case rel => exact ⟨j + 1, by omega, by go_num, rfl, by rw [HT.out]; rw [HDD.out]; exact H1.out.1, HM.out.2.2.trans H1.out.2⟩
          case measure => simp [intOf]; omega
      | .inr (.inr nm) =>
          replace hac : wr.cell? (ad.add j) = some (.iface 137 (.agg #[.string nm])) := hac
          go_wp2_with (go_at_call 162
                       refine (removed_do b0 y nm _ (by exact HM.out.2.1.keep rfl) (by have h9 : nm.size ≤ 32 := HZ.out; unfold maxLen; omega)).mono ?_
                       rintro e w1 ⟨rfl, hm, hc⟩
                       have H1 := Lib.hid (And.intro hm hc)
                       clear hm hc)
          go_roundw
          case rel => exact ⟨j + 1, by omega, by go_num, rfl, by rw [HT.out]; exact H1.out.1, HM.out.2.2.trans H1.out.2⟩
          case measure => simp [intOf]; omega
    · have hjn : j = n := by omega
      subst hjn
      have HM := Lib.hid (And.intro hm hc)
      clear hm hc hrow
      go_wp2
      go_ret
      exact ⟨rfl, HM.out.1, HM.out.2⟩
end Go.Proofs.Ytebeefkibbbkdaa
