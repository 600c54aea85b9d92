import Derived.Test.YtebeefkibbbkdaaSm6
/- The directory of a disk, by blocks: add, settle, part. -/
namespace Go.Proofs.Ytebeefkibbbkdaa
open Go.RowKit Go.Maps

theorem info_dch : (Try.prog.info? 148).map (fun i => (i.zero, i.size, i.bytes)) = some (some .nilIface, 1, 16) := by kernel_rfl
/-- A change of the directory as it lies in memory (the file by its block). -/
def dv : DC → Value
  | .inl (n, f) => .iface 139 (.agg #[.string n, .pointer (some ⟨f, 0, none⟩)])
  | .inr (.inl (a, b)) => .iface 145 (.agg #[.string a, .string b])
  | .inr (.inr n) => .iface 137 (.agg #[.string n])
/-- The names that a change bears are short. -/
def dcOk : DC → Prop
  | .inl (n, _) => n.size ≤ 32
  | .inr (.inl (a, b)) => a.size ≤ 32 ∧ b.size ≤ 32
  | .inr (.inr n) => n.size ≤ 32
theorem dv_one (l : List DC) : ∀ u ∈ l.map dv, u.oneCell' = true := by
  intro u hu
  obtain ⟨c, _, rfl⟩ := List.mem_map.1 hu
  match c with
  | .inl (n, f) => rfl
  | .inr (.inl (a, b)) => rfl
  | .inr (.inr n) => rfl
/-- A change may be done to l. -/
def canD (l : List KE) (c : DC) : Prop := ∀ a b, c = .inr (.inl (a, b)) → a ≠ b ∧ ∃ f, getL a l = some f
/-- The cells of a disk behind its directory's. -/
abbrev DX := Int × Int × Int × Bool × Int
abbrev dxc (ms mf : Nat) (vc : Value) (q : DX) : Array Value := #[.map (some ms), .map (some mf), vc, .int .i64 q.1, .int .i64 q.2.1, .int .i64 q.2.2.1, .bool q.2.2.2.1, .int .i64 q.2.2.2.2]


set_option maxRecDepth 100000 in
set_option maxHeartbeats 4000000 in
theorem addD_made (d ms mf n : Nat) (vc : Value) (q : DX) (l : List KE) (nm : ByteArray) (f : Nat) (us : List Value) (w : World) (hb : Box w d 72 (dxc ms mf vc q)) (hm : MD w ms l) (hr : w.ownsRow 0 148 1 vc n us)
    (hd : d ≠ ms) (hvd : ∀ b, vc.ownBlock = some b → b ≠ d ∧ b ≠ ms) (hl : l.length < 1000000000000) (hn : (n + 1) * 16 ≤ 140737488355328) (hk : nm.size ≤ 32) :
    Calls Try.prog 78 #[.pointer (some ⟨d, 0, none⟩), .iface 139 (.agg #[.string nm, .pointer (some ⟨f, 0, none⟩)])] w fun e w' => e = .returned (.tuple #[]) ∧ ∃ v2, Box w' d 72 (dxc ms mf v2 q) ∧ MD w' ms (ddo l (.inl (nm, f))) ∧
      w'.ownsRow 0 148 1 v2 (n + 1) (us ++ [.iface 139 (.agg #[.string nm, .pointer (some ⟨f, 0, none⟩)])]) ∧ Chg (fun b => b = d ∨ b = ms ∨ vc.ownBlock = some b) w w' ∧ (v2.ownBlock = vc.ownBlock ∨ ∀ j, v2.ownBlock = some j → w.heap.size ≤ j) := by
  obtain ⟨q1, q2, q3, q4, q5⟩ := q
  obtain ⟨i1, hi1, hz1, hs1, hy1⟩ := info_parts info_dch
  have hbc := hb.cell 0
  have hbl := hb.lt
  have hm1 := meth_made
  have hm2 := ahead_made
  obtain ⟨c0, d0, rfl⟩ := row_slice hr
  have H := Lib.hid (And.intro hb (And.intro hm (And.intro hr hvd)))
  clear hb hr hvd
  go_enter Try.func78, Try.ntmps78
  go_upto_region 0 with fail
  go_cut [] (fun wx => Box wx d 72 #[.map (some ms), .map (some mf), .slice c0 n d0, .int .i64 q1, .int .i64 q2, .int .i64 q3, .bool q4, .int .i64 q5] ∧ MD wx ms (ddo l (.inl (nm, f))) ∧ Chg (fun b => b = d ∨ b = ms) w wx)
  case first =>
    clear hm
    go_region_with (go_at_call 163
                    refine (made_do ms f l nm _ (by exact H.out.2.1.keep rfl) hk hl).mono ?_
                    rintro e w1 ⟨rfl, hm, hc⟩
                    have hx := (show Box w.drew d 72 _ from H.out.1).chg hc (fun e => hd e)
                    have hxc := hx.cell 0
                    have hxf := hx.free 0
                    have hxl := hx.lt
                    have H1 := Lib.hid (And.intro hx (And.intro hm hc))
                    clear hm hc hx)
    all_goals
      go_wp2_with fail
      go_meet
      case rel =>
        refine ⟨by simpa using H1.out.1.set_ 0 (.map (some ms)), H1.out.2.1.keep (Below.heap_setCell _ _ _ _ (by show ms ≠ d; exact fun e => hd e.symm)), ?_⟩
        exact ((Chg.refl _ w).drew.trans (H1.out.2.2.mono fun j _ hj => .inr hj)).setCell (.inl (.inl rfl)) _
  case rest =>
    clear hbc hm
    obtain ⟨hx, hm, hc⟩ := hcut
    have hxc := hx.cell 2
    have hxf := hx.free 2
    have hxl := hx.lt
    have hrow := row_block H.out.2.2.1 (w' := wc) fun b hb => hc.block b (H.out.2.2.1.lt b hb).2 fun hs => by
      have := H.out.2.2.2 b hb
      rcases hs with rfl | rfl
      · exact this.1 rfl
      · exact this.2 rfl
    have hwz := hc.size
    have HM := Lib.hid (And.intro hx (And.intro hm (And.intro hc hrow)))
    clear hx hm hc hrow
    go_wp2_with (at_builtin
                 refine wpList_app _ rfl (.tmp 20) (.tmp 22) _ rfl 0 148 i1 _ 1 16 Try.underlying68 hi1 hz1 hs1 hy1 rfl (by omega) (.slice c0 n d0) n us rfl (HM.out.2.2.2.alloc _) _ _ 1 1 [.iface 139 (.agg #[.string nm, .pointer (some ⟨f, 0, none⟩)])] rfl rfl (rd_new _ _ _) (by simp [Value.oneCell']) (by unfold maxLen; omega) (by omega) (Nat.zero_le _) ?_
                 intro v2 w2 hown2 hg2 hor
                 obtain ⟨b2, c2, rfl⟩ := row_slice hown2
                 have hC : Chg (fun j => (Value.slice c0 n d0).ownBlock = some j) wc w2 := ((Chg.refl _ wc).alloc _).grown hg2 fun j hj => .inl hj
                 have hx2 := HM.out.1.chg hC (fun e => (H.out.2.2.2 _ e).1 rfl)
                 have hyc := hx2.cell 2
                 have hyf := hx2.free 2
                 have hyl := hx2.lt
                 have HO := Lib.hid (And.intro hown2 (And.intro hC (And.intro hor hx2)))
                 clear hown2 hg2 hor hC hx2)
    go_end0
    refine ⟨rfl, .slice b2 (n + 1) c2, by simpa using HO.out.2.2.2.set_ 2 (.slice b2 (n + 1) c2), ?_, ?_, ?_, ?_⟩
    · exact (HM.out.2.1.chg HO.out.2.1 (fun e => (H.out.2.2.2 _ e).2 rfl)).keep (Below.heap_setCell _ _ _ _ (by show ms ≠ d; exact fun e => hd e.symm))
    · refine row_far HO.out.1 (fun b hb => ?_) _
      show b ≠ d
      rcases HO.out.2.2.1 with h1 | h1
      · exact (H.out.2.2.2 b (h1 ▸ hb)).1
      · rw [h1] at hb
        injection hb with hb
        simp at hb
        omega
    · refine Chg.setCell ?_ (.inl (.inl rfl)) _
      exact (HM.out.2.2.1.mono fun j _ hj => by rcases hj with h1 | h1; exact .inl h1; exact .inr (.inl h1)).trans (HO.out.2.1.mono fun j _ hj => .inr (.inr hj))
    · rcases HO.out.2.2.1 with h1 | h1
      · exact .inl h1
      · refine .inr fun j hj => ?_
        rw [h1] at hj
        injection hj with hj
        simp at hj
        omega

set_option maxRecDepth 100000 in
set_option maxHeartbeats 4000000 in
theorem addD_ren (d ms mf n : Nat) (vc : Value) (q : DX) (l : List KE) (a b : ByteArray) (us : List Value) (w : World) (hb : Box w d 72 (dxc ms mf vc q)) (hm : MD w ms l) (hr : w.ownsRow 0 148 1 vc n us)
    (hd : d ≠ ms) (hvd : ∀ b, vc.ownBlock = some b → b ≠ d ∧ b ≠ ms) (hl : l.length < 1000000000000) (hn : (n + 1) * 16 ≤ 140737488355328) (hka : a.size ≤ 32) (hk : b.size ≤ 32) (e0 : Nat) (hg : Hid (getL a l = some e0)) :
    Calls Try.prog 78 #[.pointer (some ⟨d, 0, none⟩), .iface 145 (.agg #[.string a, .string b])] w fun e w' => e = .returned (.tuple #[]) ∧ ∃ v2, Box w' d 72 (dxc ms mf v2 q) ∧ MD w' ms (ddo l (.inr (.inl (a, b)))) ∧
      w'.ownsRow 0 148 1 v2 (n + 1) (us ++ [.iface 145 (.agg #[.string a, .string b])]) ∧ Chg (fun b => b = d ∨ b = ms ∨ vc.ownBlock = some b) w w' ∧ (v2.ownBlock = vc.ownBlock ∨ ∀ j, v2.ownBlock = some j → w.heap.size ≤ j) := by
  obtain ⟨q1, q2, q3, q4, q5⟩ := q
  obtain ⟨i1, hi1, hz1, hs1, hy1⟩ := info_parts info_dch
  have hbc := hb.cell 0
  have hbl := hb.lt
  have hm1 := meth_ren
  have hm2 := ahead_ren
  obtain ⟨c0, d0, rfl⟩ := row_slice hr
  have H := Lib.hid (And.intro hb (And.intro hm (And.intro hr hvd)))
  clear hb hr hvd
  go_enter Try.func78, Try.ntmps78
  go_upto_region 0 with fail
  go_cut [] (fun wx => Box wx d 72 #[.map (some ms), .map (some mf), .slice c0 n d0, .int .i64 q1, .int .i64 q2, .int .i64 q3, .bool q4, .int .i64 q5] ∧ MD wx ms (ddo l (.inr (.inl (a, b)))) ∧ Chg (fun b => b = d ∨ b = ms) w wx)
  case first =>
    clear hm
    go_region_with (go_at_call 165
                    refine (renamed_do ms e0 l a b _ (by exact H.out.2.1.keep rfl) (by unfold maxLen; omega) hk hg.out hl).mono ?_
                    rintro e w1 ⟨rfl, hm, hc⟩
                    have hx := (show Box w.drew d 72 _ from H.out.1).chg hc (fun e => hd e)
                    have hxc := hx.cell 0
                    have hxf := hx.free 0
                    have hxl := hx.lt
                    have H1 := Lib.hid (And.intro hx (And.intro hm hc))
                    clear hm hc hx)
    all_goals
      go_wp2_with fail
      go_meet
      case rel =>
        refine ⟨by simpa using H1.out.1.set_ 0 (.map (some ms)), (by have h9 := H1.out.2.1; rw [show ddo l (.inr (.inl (a, b))) = delL a (putL b e0 l) by simp [ddo, hg.out]]; exact h9.keep (Below.heap_setCell _ _ _ _ (by show ms ≠ d; exact fun e => hd e.symm))), ?_⟩
        exact ((Chg.refl _ w).drew.trans (H1.out.2.2.mono fun j _ hj => .inr hj)).setCell (.inl (.inl rfl)) _
  case rest =>
    clear hbc hm
    obtain ⟨hx, hm, hc⟩ := hcut
    have hxc := hx.cell 2
    have hxf := hx.free 2
    have hxl := hx.lt
    have hrow := row_block H.out.2.2.1 (w' := wc) fun b hb => hc.block b (H.out.2.2.1.lt b hb).2 fun hs => by
      have := H.out.2.2.2 b hb
      rcases hs with rfl | rfl
      · exact this.1 rfl
      · exact this.2 rfl
    have hwz := hc.size
    have HM := Lib.hid (And.intro hx (And.intro hm (And.intro hc hrow)))
    clear hx hm hc hrow
    go_wp2_with (at_builtin
                 refine wpList_app _ rfl (.tmp 20) (.tmp 22) _ rfl 0 148 i1 _ 1 16 Try.underlying68 hi1 hz1 hs1 hy1 rfl (by omega) (.slice c0 n d0) n us rfl (HM.out.2.2.2.alloc _) _ _ 1 1 [.iface 145 (.agg #[.string a, .string b])] rfl rfl (rd_new _ _ _) (by simp [Value.oneCell']) (by unfold maxLen; omega) (by omega) (Nat.zero_le _) ?_
                 intro v2 w2 hown2 hg2 hor
                 obtain ⟨b2, c2, rfl⟩ := row_slice hown2
                 have hC : Chg (fun j => (Value.slice c0 n d0).ownBlock = some j) wc w2 := ((Chg.refl _ wc).alloc _).grown hg2 fun j hj => .inl hj
                 have hx2 := HM.out.1.chg hC (fun e => (H.out.2.2.2 _ e).1 rfl)
                 have hyc := hx2.cell 2
                 have hyf := hx2.free 2
                 have hyl := hx2.lt
                 have HO := Lib.hid (And.intro hown2 (And.intro hC (And.intro hor hx2)))
                 clear hown2 hg2 hor hC hx2)
    go_end0
    refine ⟨rfl, .slice b2 (n + 1) c2, by simpa using HO.out.2.2.2.set_ 2 (.slice b2 (n + 1) c2), ?_, ?_, ?_, ?_⟩
    · exact (HM.out.2.1.chg HO.out.2.1 (fun e => (H.out.2.2.2 _ e).2 rfl)).keep (Below.heap_setCell _ _ _ _ (by show ms ≠ d; exact fun e => hd e.symm))
    · refine row_far HO.out.1 (fun b hb => ?_) _
      show b ≠ d
      rcases HO.out.2.2.1 with h1 | h1
      · exact (H.out.2.2.2 b (h1 ▸ hb)).1
      · rw [h1] at hb
        injection hb with hb
        simp at hb
        omega
    · refine Chg.setCell ?_ (.inl (.inl rfl)) _
      exact (HM.out.2.2.1.mono fun j _ hj => by rcases hj with h1 | h1; exact .inl h1; exact .inr (.inl h1)).trans (HO.out.2.1.mono fun j _ hj => .inr (.inr hj))
    · rcases HO.out.2.2.1 with h1 | h1
      · exact .inl h1
      · refine .inr fun j hj => ?_
        rw [h1] at hj
        injection hj with hj
        simp at hj
        omega

set_option maxRecDepth 100000 in
set_option maxHeartbeats 4000000 in
theorem addD_rem (d ms mf n : Nat) (vc : Value) (q : DX) (l : List KE) (nm : ByteArray) (us : List Value) (w : World) (hb : Box w d 72 (dxc ms mf vc q)) (hm : MD w ms l) (hr : w.ownsRow 0 148 1 vc n us)
    (hd : d ≠ ms) (hvd : ∀ b, vc.ownBlock = some b → b ≠ d ∧ b ≠ ms) (hn : (n + 1) * 16 ≤ 140737488355328) (hk : nm.size ≤ 32) :
    Calls Try.prog 78 #[.pointer (some ⟨d, 0, none⟩), .iface 137 (.agg #[.string nm])] w fun e w' => e = .returned (.tuple #[]) ∧ ∃ v2, Box w' d 72 (dxc ms mf v2 q) ∧ MD w' ms (ddo l (.inr (.inr nm))) ∧
      w'.ownsRow 0 148 1 v2 (n + 1) (us ++ [.iface 137 (.agg #[.string nm])]) ∧ Chg (fun b => b = d ∨ b = ms ∨ vc.ownBlock = some b) w w' ∧ (v2.ownBlock = vc.ownBlock ∨ ∀ j, v2.ownBlock = some j → w.heap.size ≤ j) := by
  obtain ⟨q1, q2, q3, q4, q5⟩ := q
  obtain ⟨i1, hi1, hz1, hs1, hy1⟩ := info_parts info_dch
  have hbc := hb.cell 0
  have hbl := hb.lt
  have hm1 := meth_rem
  have hm2 := ahead_rem
  obtain ⟨c0, d0, rfl⟩ := row_slice hr
  have H := Lib.hid (And.intro hb (And.intro hm (And.intro hr hvd)))
  clear hb hr hvd
  go_enter Try.func78, Try.ntmps78
  go_upto_region 0 with fail
  go_cut [] (fun wx => Box wx d 72 #[.map (some ms), .map (some mf), .slice c0 n d0, .int .i64 q1, .int .i64 q2, .int .i64 q3, .bool q4, .int .i64 q5] ∧ MD wx ms (ddo l (.inr (.inr nm))) ∧ Chg (fun b => b = d ∨ b = ms) w wx)
  case first =>
    clear hm
    go_region_with (go_at_call 162
                    refine (removed_do ms l nm _ (by exact H.out.2.1.keep rfl) (by unfold maxLen; omega)).mono ?_
                    rintro e w1 ⟨rfl, hm, hc⟩
                    have hx := (show Box w.drew d 72 _ from H.out.1).chg hc (fun e => hd e)
                    have hxc := hx.cell 0
                    have hxf := hx.free 0
                    have hxl := hx.lt
                    have H1 := Lib.hid (And.intro hx (And.intro hm hc))
                    clear hm hc hx)
    all_goals
      go_wp2_with fail
      go_meet
      case rel =>
        refine ⟨by simpa using H1.out.1.set_ 0 (.map (some ms)), H1.out.2.1.keep (Below.heap_setCell _ _ _ _ (by show ms ≠ d; exact fun e => hd e.symm)), ?_⟩
        exact ((Chg.refl _ w).drew.trans (H1.out.2.2.mono fun j _ hj => .inr hj)).setCell (.inl (.inl rfl)) _
  case rest =>
    clear hbc hm
    obtain ⟨hx, hm, hc⟩ := hcut
    have hxc := hx.cell 2
    have hxf := hx.free 2
    have hxl := hx.lt
    have hrow := row_block H.out.2.2.1 (w' := wc) fun b hb => hc.block b (H.out.2.2.1.lt b hb).2 fun hs => by
      have := H.out.2.2.2 b hb
      rcases hs with rfl | rfl
      · exact this.1 rfl
      · exact this.2 rfl
    have hwz := hc.size
    have HM := Lib.hid (And.intro hx (And.intro hm (And.intro hc hrow)))
    clear hx hm hc hrow
    go_wp2_with (at_builtin
                 refine wpList_app _ rfl (.tmp 20) (.tmp 22) _ rfl 0 148 i1 _ 1 16 Try.underlying68 hi1 hz1 hs1 hy1 rfl (by omega) (.slice c0 n d0) n us rfl (HM.out.2.2.2.alloc _) _ _ 1 1 [.iface 137 (.agg #[.string nm])] rfl rfl (rd_new _ _ _) (by simp [Value.oneCell']) (by unfold maxLen; omega) (by omega) (Nat.zero_le _) ?_
                 intro v2 w2 hown2 hg2 hor
                 obtain ⟨b2, c2, rfl⟩ := row_slice hown2
                 have hC : Chg (fun j => (Value.slice c0 n d0).ownBlock = some j) wc w2 := ((Chg.refl _ wc).alloc _).grown hg2 fun j hj => .inl hj
                 have hx2 := HM.out.1.chg hC (fun e => (H.out.2.2.2 _ e).1 rfl)
                 have hyc := hx2.cell 2
                 have hyf := hx2.free 2
                 have hyl := hx2.lt
                 have HO := Lib.hid (And.intro hown2 (And.intro hC (And.intro hor hx2)))
                 clear hown2 hg2 hor hC hx2)
    go_end0
    refine ⟨rfl, .slice b2 (n + 1) c2, by simpa using HO.out.2.2.2.set_ 2 (.slice b2 (n + 1) c2), ?_, ?_, ?_, ?_⟩
    · exact (HM.out.2.1.chg HO.out.2.1 (fun e => (H.out.2.2.2 _ e).2 rfl)).keep (Below.heap_setCell _ _ _ _ (by show ms ≠ d; exact fun e => hd e.symm))
    · refine row_far HO.out.1 (fun b hb => ?_) _
      show b ≠ d
      rcases HO.out.2.2.1 with h1 | h1
      · exact (H.out.2.2.2 b (h1 ▸ hb)).1
      · rw [h1] at hb
        injection hb with hb
        simp at hb
        omega
    · refine Chg.setCell ?_ (.inl (.inl rfl)) _
      exact (HM.out.2.2.1.mono fun j _ hj => by rcases hj with h1 | h1; exact .inl h1; exact .inr (.inl h1)).trans (HO.out.2.1.mono fun j _ hj => .inr (.inr hj))
    · rcases HO.out.2.2.1 with h1 | h1
      · exact .inl h1
      · refine .inr fun j hj => ?_
        rw [h1] at hj
        injection hj with hj
        simp at hj
        omega
end Go.Proofs.Ytebeefkibbbkdaa
