import Derived.Test.YtomkieennkobcabSn1
/- The law SimfsNil walked. -/
namespace Go.Proofs.Ytomkieennkobcab
open Go.RowKit Go.Maps

set_option maxRecDepth 100000 in
set_option maxHeartbeats 8000000 in
theorem simfsNil_any (k x y : Int) (nm to : ByteArray) (A A2 : Option Addr) (n c n2 c2 : Nat) (bs : List UInt8) (w : World) (hA : Rd w w.heap.size A (bv bs)) (hn : bs.length = n) (hmx : n ≤ 140737488351232) :
    Calls Try.prog 3 #[.agg #[.int .i64 k, .string nm, .string to, .int .i64 x, .int .i64 y, .slice A n c, .slice A2 n2 c2]] w fun e w' => e = .returned (.bool true) ∧ Below w.heap.size w w' := by
  have HA := Lib.hid (And.intro hA hn)
  have HB := Lib.hid (And.intro (Below.al w (.cells #[.int .i64 k, .string nm, .string to, .int .i64 x, .int .i64 y, .slice A n c, .slice A2 n2 c2] 25)) (Box.new w 25 #[.int .i64 k, .string nm, .string to, .int .i64 x, .int .i64 y, .slice A n c, .slice A2 n2 c2]))
  clear hA hn
  go_enter Try.func3, Try.ntmps3
  go_wp2
  go_loopw [4] (fun i wr => ∃ (j : Nat) (kd : Int), j ≤ 7 ∧ i = .int .i64 (j + 1) ∧ Below w.heap.size w wr ∧ Box wr w.heap.size 25 #[.int .i64 kd, .string nm, .string to, .int .i64 x, .int .i64 y, .slice A n c, .slice A2 n2 c2]) (fun i _ => 9 - (intOf i).toNat)
  case atStart => exact ⟨0, k, Nat.zero_le _, rfl, HB.out.1, HB.out.2⟩
  case round =>
    clear HB
    obtain ⟨j, kd, hj, rfl, hb, hX⟩ := hrel
    have hxc := hX.cell
    have hxf := hX.free
    have hxl := hX.lt
    have hj0 : (0 : Int) ≤ j := by omega
    by_cases hlt : j < 7
    · have hj1 : (j : Int) < 7 := by omega
      have HX := Lib.hid (And.intro (hb.setCell (p := ⟨w.heap.size, 0, none⟩) (by simp) (.int .i64 ((j : Int) + 1))) (hX.set_ 0 (.int .i64 ((j : Int) + 1))))
      clear hb hX
      go_wp2_with (go_at_call 6
                   refine (change_nil ((j : Int) + 1) x y nm to A A2 n c n2 c2 bs _ (by omega) ((HA.out.1.below HX.out.1).mono HX.out.1.size) HA.out.2 hmx).mono ?_
                   rintro e w1 ⟨rfl, hb1⟩
                   have H1 := Lib.hid (And.intro (bel_next HX.out.1 hb1) (HX.out.2.next hb1))
                   clear hb1)
      go_roundw
      case rel => exact ⟨j + 1, (j : Int) + 1, by omega, by go_num, H1.out.1, by simpa using H1.out.2⟩
      case measure => simp [intOf]; omega
    · have hj1 : ¬ (j : Int) < 7 := by omega
      have HB := Lib.hid hb
      clear hb hX
      go_wp2_with (first
      | (go_at_call 7; refine (read_nil _ _ _ _).mono ?_; rintro e w1 ⟨rfl, rfl⟩)
      | (go_at_call 8; refine (size_nil _ _).mono ?_; rintro e w1 ⟨rfl, rfl⟩)
      | (go_at_call 9; refine (list_nil _).mono ?_; rintro e w1 ⟨rfl, rfl⟩)
      | (go_at_call 10; refine (fuse_nil _ _).mono ?_; rintro e w1 ⟨rfl, rfl⟩)
      | (go_at_call 11; refine (quota_nil _ _).mono ?_; rintro e w1 ⟨rfl, rfl⟩)
      | (go_at_call 12; refine (used_nil _).mono ?_; rintro e w1 ⟨rfl, rfl⟩)
      | (go_at_call 13; refine (quot_nil _).mono ?_; rintro e w1 ⟨rfl, rfl⟩)
      | (go_at_call 14; refine (ops_nil _).mono ?_; rintro e w1 ⟨rfl, rfl⟩)
      | (go_at_call 15; refine (dead_nil _).mono ?_; rintro e w1 ⟨rfl, rfl⟩)
      | (go_at_call 16; refine (image_nil _).mono ?_; rintro e w1 ⟨rfl, rfl⟩)
      | (go_at_call 17
         refine (crash_nil A2 n2 c2 _).mono ?_
         rintro e w1 ⟨rfl, hb1⟩
         have H1 := Lib.hid (bel_next HB.out hb1)
         clear hb1))
      go_ret
      exact ⟨rfl, H1.out⟩
end Go.Proofs.Ytomkieennkobcab
