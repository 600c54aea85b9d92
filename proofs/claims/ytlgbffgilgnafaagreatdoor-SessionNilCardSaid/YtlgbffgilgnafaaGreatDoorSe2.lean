import Derived.Test.YtlgbffgilgnafaaGreatDoorSe1
/- The law SessionNil walked. -/
namespace Go.Proofs.YtlgbffgilgnafaaGreatDoor
open Go.RowKit Go.Maps

set_option maxRecDepth 100000 in
set_option maxHeartbeats 8000000 in
theorem sessionNil_any (kd tp nn id of : Int) (A : Option Addr) (n c : Nat) (i op cd off num : Int) (mo : Bool) (recs names : Option Addr) (n1 c1 n2 c2 : Nat) (tx : ByteArray) (w : World) :
    Calls Tryz.prog 4 #[.agg #[.int .i64 kd, .int .i64 tp, .int .i64 nn, .int .u32 id, .int .i64 of, .slice A n c, .int .u32 i, .int .i64 op, .int .i64 cd, .int .i64 off, .int .i64 num, .bool mo, .slice recs n1 c1, .slice names n2 c2, .string tx]] w fun e w' => e = .returned (.bool true) ∧ Below w.heap.size w w' := by
  have H0 := Lib.hid (And.intro (Below.al w (.cells #[.int .i64 kd, .int .i64 tp, .int .i64 nn, .int .u32 id, .int .i64 of, .slice A n c, .int .u32 i, .int .i64 op, .int .i64 cd, .int .i64 off, .int .i64 num, .bool mo, .slice recs n1 c1, .slice names n2 c2, .string tx] 51)) (Box.new w 51 #[.int .i64 kd, .int .i64 tp, .int .i64 nn, .int .u32 id, .int .i64 of, .slice A n c, .int .u32 i, .int .i64 op, .int .i64 cd, .int .i64 off, .int .i64 num, .bool mo, .slice recs n1 c1, .slice names n2 c2, .string tx]))
  go_enter Tryz.func4, Tryz.ntmps4
  go_wp2_with (first
    | (go_at_call 14
       refine (next_nil _).mono ?_
       rintro e w1 ⟨rfl, hb⟩
       have k1 := bel_next H0.out.1 hb
       have k2 := H0.out.2.next hb
       have k3 := Box.new w1 54 #[.int .u32 0, .int .i64 0, .string ⟨#[]⟩, .string ⟨#[]⟩, .string ⟨#[]⟩, .int .i64 0, .int .i64 0, .int .i64 0, .int .i64 0]
       have hsc := (k2.alloc (.cells #[.int .u32 0, .int .i64 0, .string ⟨#[]⟩, .string ⟨#[]⟩, .string ⟨#[]⟩, .int .i64 0, .int .i64 0, .int .i64 0, .int .i64 0] 54)).cell
       have hqc := k3.cell
       have hqf := k3.free
       have H1 := Lib.hid (And.intro (k1.alloc k1.size (.cells #[.int .u32 0, .int .i64 0, .string ⟨#[]⟩, .string ⟨#[]⟩, .string ⟨#[]⟩, .int .i64 0, .int .i64 0, .int .i64 0, .int .i64 0] 54)) (And.intro (k2.alloc (.cells #[.int .u32 0, .int .i64 0, .string ⟨#[]⟩, .string ⟨#[]⟩, .string ⟨#[]⟩, .int .i64 0, .int .i64 0, .int .i64 0, .int .i64 0] 54)) k3))
       clear hb k1 k2 k3 H0)
    | (go_at_call 15
       refine (send_nil i op cd off num mo recs names n1 c1 n2 c2 _).mono ?_
       rintro e w2 ⟨rfl, hb⟩
       have k1 := bel_next H1.out.1 hb
       have k2 := H1.out.2.1.next hb
       have k3 := H1.out.2.2.next hb
       have hsc := k2.cell
       have hqc := k3.cell
       have H2 := Lib.hid (And.intro k1 (And.intro k2 k3))
       clear hb k1 k2 k3 )
    | (go_at_call 16
       refine (owe_nil tp of i op cd off num mo recs names n1 c1 n2 c2 _).mono ?_
       rintro e w3 ⟨rfl, hb⟩
       have k1 := bel_next H2.out.1 hb
       have k2 := H2.out.2.1.next hb
       have k3 := H2.out.2.2.next hb
       have hsc := k2.cell
       have hqc := k3.cell
       have H3 := Lib.hid (And.intro k1 (And.intro k2 k3))
       clear hb k1 k2 k3 )
    | (go_at_call 17; have t7 := H7; clear t7; refine (msubs _ _ _ _).mono ?_; rintro e w9 ⟨rfl, rfl⟩)
    | (go_at_call 18; have t7 := H7; clear t7; refine (mhold _ _ _ _).mono ?_; rintro e w9 ⟨rfl, rfl⟩)
    | (go_at_call 17; refine (subs_nil _ _ _).mono ?_; rintro e w9 ⟨rfl, rfl⟩)
    | (go_at_call 18; refine (hold_nil _ _ _).mono ?_; rintro e w9 ⟨rfl, rfl⟩)
    | (go_at_call 19; refine (unsub_nil _ _).mono ?_; rintro e w9 ⟨rfl, rfl⟩)
    | (go_at_call 20; refine (close_nil _).mono ?_; rintro e w9 ⟨rfl, rfl⟩)
    | (go_at_call 21; refine (id_nil _).mono ?_; rintro e w9 ⟨rfl, rfl⟩)
    | (go_at_call 22; refine (feed_nil _ _ _ _).mono ?_; rintro e w9 ⟨rfl, rfl⟩)
    | (go_at_call 23
       refine (settle_nil _ _ _).mono ?_
       rintro e w4 ⟨rfl, hb⟩
       have k1 := bel_next H3.out.1 hb
       have k2 := H3.out.2.1.next hb
       have k3 := H3.out.2.2.next hb
       have hsc := k2.cell
       have hqc := k3.cell
       have H4 := Lib.hid (And.intro k1 (And.intro k2 k3))
       clear hb k1 k2 k3 )
    | (go_at_call 24
       refine (refuse_nil _ _ _).mono ?_
       rintro e w5 ⟨rfl, hb⟩
       have k1 := bel_next H4.out.1 hb
       have k2 := H4.out.2.1.next hb
       have k3 := H4.out.2.2.next hb
       have hsc := k2.cell
       have hqc := k3.cell
       have H5 := Lib.hid (And.intro k1 (And.intro k2 k3))
       clear hb k1 k2 k3 )
    | (go_at_call 25; refine (deliver_nil _).mono ?_; rintro e w9 ⟨rfl, rfl⟩)
    | (go_at_call 26; refine (gone_nil _ _).mono ?_; rintro e w9 ⟨rfl, rfl⟩)
    | (go_at_call 27; refine (ready_nil _).mono ?_; rintro e w9 ⟨rfl, rfl⟩)
    | (go_at_call 28; refine (out_nil _ _).mono ?_; rintro e w9 ⟨rfl, rfl⟩)
    | (go_at_call 30
       refine (new_any _ _).mono ?_
       rintro e w7 ⟨m, r, rfl, hm, hbm, hb⟩
       have k1 := bel_next H6.out.1 hb
       have k2 := H6.out.2.1.next hb
       have hsc := k2.cell
       have H7 := Lib.hid (And.intro k1 (And.intro k2 hbm))
       clear hb k1 k2 hbm H6)
    | (go_at_call 29
       refine (mstate m r nn _ H7.out.2.2).mono ?_
       rintro e w8 ⟨rfl, hb⟩
       have H8 := Lib.hid (bel_next H7.out.1 hb)
       clear hb)
    | (go_at_call 29
       refine (state_nil _).mono ?_
       rintro e w6 ⟨rfl, hb⟩
       have k1 := bel_next H5.out.1 hb
       have k2 := H5.out.2.1.next hb
       have k3 := H5.out.2.2.next hb
       have hsc := k2.cell
       have hqc := k3.cell
       have H6 := Lib.hid (And.intro k1 (And.intro k2 k3))
       clear hb k1 k2 k3 ))
  go_ret
  exact ⟨rfl, H8.out⟩
end Go.Proofs.YtlgbffgilgnafaaGreatDoor
