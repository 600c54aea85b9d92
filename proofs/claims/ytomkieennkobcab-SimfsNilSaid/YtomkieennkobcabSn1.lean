import Derived.Test.YtomkieennkobcabSmb
import Derived.Outline
/- A nil disk: every call; the law SimfsNil walked. -/
namespace Go.Proofs.Ytomkieennkobcab
open Go.RowKit Go.Maps

set_option maxRecDepth 100000 in
set_option maxHeartbeats 4000000 in
/-- What was handed in stands, and the marks behind it. -/
theorem kept_any (g n c' : Nat) (A : Option Addr) (c B : Nat) (bs : List UInt8) (w : World) (hO : Own w B g 5 (bv (bs ++ mk8 8))) (hA : Rd w w.heap.size A (bv bs)) (hn : bs.length = n) (hc : n + 8 ≤ c') (hcm : n ≤ 140737488351232) :
    Calls Try.prog 29 #[.slice (some ⟨g, 0, none⟩) n c', .slice A n c] w fun e w' => e = .returned (.bool true) ∧ ∃ k, w' = w.drewN k := by
  have hq0 : (0 : Int) ≤ (n : Int) + 8 := by omega
  have hq1 : (n : Int) + 8 ≤ (c' : Int) := by omega
  have HO := Lib.hid (And.intro hO (And.intro hA hn))
  have HC : Hid (∀ i, i < 8 → w.cell? ⟨g, n + i, none⟩ = some (.int .u8 (UInt8.ofNat (200 + i)).toNat)) := by
    intro i hi
    refine hO.get ?_
    rw [bv_app, List.getElem?_append_right (by rw [bv_len]; omega), bv_len, hn, Nat.add_sub_cancel_left]
    exact mk8_get hi
  clear hO hA hn
  go_enter Try.func29, Try.ntmps29
  go_wp2
  go_loop [6] (fun i => ∃ k : Nat, k ≤ 8 ∧ i = .int .i64 k) (fun i => 8 - (intOf i).toNat)
  case atStart => exact ⟨0, Nat.zero_le _, rfl⟩
  case round =>
    obtain ⟨k, hk, rfl⟩ := hrel
    by_cases hlt : k < 8
    · have hce := HC.out k hlt
      have hv : ((UInt8.ofNat (200 + k)).toNat : Int) = 200 + (k : Int) := by simp; omega
      rw [hv] at hce
      clear hv
      have hk0 : (0 : Int) ≤ (n : Int) + k := by omega
      have hk1 : (n : Int) + k < (n : Int) + 8 := by omega
      go_wp2
      go_round
      case rel => exact ⟨k + 1, by omega, by go_num⟩
      case measure => simp [intOf]; omega
    · go_wp2_with (go_at_call 48
                   refine (sameBytes_any _ _ n c' n c bs bs _ HO.out.2.2 HO.out.2.2 (by have := HO.out.1; rw [bv_app] at this; exact this.rd_pre) HO.out.2.1 hcm hcm).mono ?_
                   rintro e w1 ⟨rfl, nk, rfl⟩)
      go_ret
      exact ⟨rfl, nk, rfl⟩

set_option maxRecDepth 100000 in
theorem ready_nil (w : World) : Calls Try.prog 37 #[.pointer none] w fun e w' => e = .returned (.int .i64 1) ∧ w' = w := by
  go_enter Try.func37, Try.ntmps37
  go_wp2
  go_ret
  exact ⟨rfl, rfl⟩
set_option maxRecDepth 100000 in
theorem at_nil (n : ByteArray) (w : World) : Calls Try.prog 35 #[.pointer none, .string n] w fun e w' => e = .returned (.tuple #[.pointer none, .int .i64 1]) ∧ w' = w := by
  go_enter Try.func35, Try.ntmps35
  go_wp2_with (go_at_call 37; refine (ready_nil _).mono ?_; rintro e w1 ⟨rfl, rfl⟩)
  go_ret2
  exact ⟨rfl, rfl⟩

set_option maxRecDepth 100000 in
theorem create_nil (n : ByteArray) (w : World) : Calls Try.prog 26 #[.pointer none, .string n] w fun e w' => e = .returned (.int .i64 1) ∧ w' = w := by
  go_enter Try.func26, Try.ntmps26
  go_wp2_with (go_at_call 35; refine (at_nil _ _).mono ?_; rintro e w1 ⟨rfl, rfl⟩)
  go_ret
  exact ⟨rfl, rfl⟩

set_option maxRecDepth 100000 in
theorem append_nil (n : ByteArray) (v : Value) (w : World) : Calls Try.prog 28 #[.pointer none, .string n, v] w fun e w' => e = .returned (.int .i64 1) ∧ w' = w := by
  go_enter Try.func28, Try.ntmps28
  go_wp2_with (go_at_call 35; refine (at_nil _ _).mono ?_; rintro e w1 ⟨rfl, rfl⟩)
  go_ret
  exact ⟨rfl, rfl⟩

set_option maxRecDepth 100000 in
theorem trunc_nil (n : ByteArray) (x : Int) (w : World) : Calls Try.prog 30 #[.pointer none, .string n, .int .i64 x] w fun e w' => e = .returned (.int .i64 1) ∧ w' = w := by
  go_enter Try.func30, Try.ntmps30
  go_wp2_with (go_at_call 35; refine (at_nil _ _).mono ?_; rintro e w1 ⟨rfl, rfl⟩)
  go_ret
  exact ⟨rfl, rfl⟩

set_option maxRecDepth 100000 in
theorem sync_nil (n : ByteArray) (w : World) : Calls Try.prog 31 #[.pointer none, .string n] w fun e w' => e = .returned (.int .i64 1) ∧ w' = w := by
  go_enter Try.func31, Try.ntmps31
  go_wp2_with (go_at_call 35; refine (at_nil _ _).mono ?_; rintro e w1 ⟨rfl, rfl⟩)
  go_ret
  exact ⟨rfl, rfl⟩

set_option maxRecDepth 100000 in
theorem syncDir_nil (w : World) : Calls Try.prog 32 #[.pointer none] w fun e w' => e = .returned (.int .i64 1) ∧ w' = w := by
  go_enter Try.func32, Try.ntmps32
  go_wp2_with (go_at_call 37; refine (ready_nil _).mono ?_; rintro e w1 ⟨rfl, rfl⟩)
  go_ret
  exact ⟨rfl, rfl⟩

set_option maxRecDepth 100000 in
theorem rename_nil (n m : ByteArray) (w : World) : Calls Try.prog 33 #[.pointer none, .string n, .string m] w fun e w' => e = .returned (.int .i64 1) ∧ w' = w := by
  go_enter Try.func33, Try.ntmps33
  go_wp2_with (go_at_call 37; refine (ready_nil _).mono ?_; rintro e w1 ⟨rfl, rfl⟩)
  go_ret
  exact ⟨rfl, rfl⟩

set_option maxRecDepth 100000 in
theorem remove_nil (n : ByteArray) (w : World) : Calls Try.prog 34 #[.pointer none, .string n] w fun e w' => e = .returned (.int .i64 1) ∧ w' = w := by
  go_enter Try.func34, Try.ntmps34
  go_wp2_with (go_at_call 35; refine (at_nil _ _).mono ?_; rintro e w1 ⟨rfl, rfl⟩)
  go_ret
  exact ⟨rfl, rfl⟩

set_option maxRecDepth 100000 in
theorem read_nil (n : ByteArray) (x y : Int) (w : World) : Calls Try.prog 7 #[.pointer none, .string n, .int .i64 x, .int .i64 y] w fun e w' => e = .returned (.tuple #[.slice none 0 0, .int .i64 1]) ∧ w' = w := by
  go_enter Try.func7, Try.ntmps7
  go_wp2_with (go_at_call 35; refine (at_nil _ _).mono ?_; rintro e w1 ⟨rfl, rfl⟩)
  go_ret2
  exact ⟨rfl, rfl⟩

set_option maxRecDepth 100000 in
theorem size_nil (n : ByteArray) (w : World) : Calls Try.prog 8 #[.pointer none, .string n] w fun e w' => e = .returned (.tuple #[.int .i64 0, .int .i64 1]) ∧ w' = w := by
  go_enter Try.func8, Try.ntmps8
  go_wp2_with (go_at_call 35; refine (at_nil _ _).mono ?_; rintro e w1 ⟨rfl, rfl⟩)
  go_ret2
  exact ⟨rfl, rfl⟩

set_option maxRecDepth 100000 in
theorem list_nil (w : World) : Calls Try.prog 9 #[.pointer none] w fun e w' => e = .returned (.tuple #[.slice none 0 0, .int .i64 1]) ∧ w' = w := by
  go_enter Try.func9, Try.ntmps9
  go_wp2_with (go_at_call 37; refine (ready_nil _).mono ?_; rintro e w1 ⟨rfl, rfl⟩)
  go_ret2
  exact ⟨rfl, rfl⟩

set_option maxRecDepth 100000 in
theorem quota_nil (x : Int) (w : World) : Calls Try.prog 11 #[.pointer none, .int .i64 x] w fun e w' => e = .returned (.int .i64 1) ∧ w' = w := by
  go_enter Try.func11, Try.ntmps11
  go_wp2
  go_ret
  exact ⟨rfl, rfl⟩

set_option maxRecDepth 100000 in
theorem used_nil (w : World) : Calls Try.prog 12 #[.pointer none] w fun e w' => e = .returned (.int .i64 0) ∧ w' = w := by
  go_enter Try.func12, Try.ntmps12
  go_wp2
  go_ret
  exact ⟨rfl, rfl⟩

set_option maxRecDepth 100000 in
theorem quot_nil (w : World) : Calls Try.prog 13 #[.pointer none] w fun e w' => e = .returned (.int .i64 0) ∧ w' = w := by
  go_enter Try.func13, Try.ntmps13
  go_wp2
  go_ret
  exact ⟨rfl, rfl⟩

set_option maxRecDepth 100000 in
theorem ops_nil (w : World) : Calls Try.prog 14 #[.pointer none] w fun e w' => e = .returned (.int .i64 0) ∧ w' = w := by
  go_enter Try.func14, Try.ntmps14
  go_wp2
  go_ret
  exact ⟨rfl, rfl⟩

set_option maxRecDepth 100000 in
theorem image_nil (w : World) : Calls Try.prog 16 #[.pointer none] w fun e w' => e = .returned (.slice none 0 0) ∧ w' = w := by
  go_enter Try.func16, Try.ntmps16
  go_wp2
  go_ret
  exact ⟨rfl, rfl⟩

set_option maxRecDepth 100000 in
theorem fuse_nil (x : Int) (w : World) : Calls Try.prog 10 #[.pointer none, .int .i64 x] w fun e w' => e = .returned (.tuple #[]) ∧ w' = w := by
  go_enter Try.func10, Try.ntmps10
  go_wp2
  go_end0
  exact ⟨rfl, rfl⟩

set_option maxRecDepth 100000 in
theorem dead_nil (w : World) : Calls Try.prog 15 #[.pointer none] w fun e w' => e = .returned (.bool false) ∧ w' = w := by
  go_enter Try.func15, Try.ntmps15
  go_wp2
  go_ret
  exact ⟨rfl, rfl⟩

set_option maxRecDepth 100000 in
theorem crash_nil (A : Option Addr) (n c : Nat) (w : World) : Calls Try.prog 17 #[.pointer none, .slice A n c] w fun e w' => e = .returned (.slice none 0 0) ∧ Below w.heap.size w w' := by
  go_enter Try.func17, Try.ntmps17
  go_wp2
  go_ret
  exact ⟨rfl, Below.al _ _⟩

set_option maxRecDepth 100000 in
set_option maxHeartbeats 8000000 in
theorem change_nil (k x y : Int) (nm to : ByteArray) (A A2 : Option Addr) (n c n2 c2 : Nat) (bs : List UInt8) (w : World) (hk : 1 ≤ k ∧ k ≤ 7) (hA : Rd w w.heap.size A (bv bs)) (hn : bs.length = n) (hmx : n ≤ 140737488351232) :
    Calls Try.prog 6 #[.pointer none, .agg #[.int .i64 k, .string nm, .string to, .int .i64 x, .int .i64 y, .slice A n c, .slice A2 n2 c2]] w fun e w' => e = .returned (.tuple #[.int .i64 1, .bool true]) ∧ Below w.heap.size w w' := by
  have HA := Lib.hid (And.intro hA hn)
  have HB := Lib.hid (Below.al w (.cells #[.int .i64 k, .string nm, .string to, .int .i64 x, .int .i64 y, .slice A n c, .slice A2 n2 c2] 25))
  clear hA hn
  by_cases h2 : k = 2
  · subst h2
    clear hk
    have HX := Lib.hid (Box.new w 25 #[.int .i64 2, .string nm, .string to, .int .i64 x, .int .i64 y, .slice A n c, .slice A2 n2 c2])
    go_enter Try.func6, Try.ntmps6
    go_wp2_with (first
      | (go_at_call 27
         refine (roomy_any A n c bs _ (HA.out.1.next (Below.al _ _)) HA.out.2 hmx).mono ?_
         rintro e w1 ⟨g, c', rfl, hc1, hc2, hO, hb⟩
         have hX := HX.out.next hb
         have hxc := hX.cell
         have HR := Lib.hid (HA.out.1.next (bel_next (Below.al _ _) hb))
         have HO := Lib.hid (And.intro hO hb)
         have HC2 := Lib.hid hc2
         clear hO hb hX hc2)
      | (go_at_call 28
         refine (append_nil _ _ _).mono ?_; rintro e w2 ⟨rfl, rfl⟩)
      | (go_at_call 29
         refine (kept_any g n c' A c _ bs _ HO.out.1 HR.out HA.out.2 hc1 hmx).mono ?_
         rintro e w3 ⟨rfl, nk, rfl⟩))
    go_loopw [9] (fun i wr => ∃ (j : Nat) (ls : List UInt8), j ≤ n ∧ i = .int .i64 j ∧ ls.length = n + 8 ∧ Own wr (w.heap.size + 1) g 5 (bv ls) ∧ Below w.heap.size w wr) (fun i _ => n - (intOf i).toNat)
    case atStart => exact ⟨0, bs ++ mk8 8, Nat.zero_le _, rfl, by rw [List.length_append, HA.out.2, mk8_len], by have := HO.out.1.drewN nk; simpa using this, below_drewN (bel_next (Below.al _ _) HO.out.2) _⟩
    case round =>
      obtain ⟨j, ls, hj, rfl, hl, hO, hb⟩ := hrel
      by_cases hlt : j < n
      · have hj0 : (0 : Int) ≤ j := by omega
        have hj1 : (j : Int) < n := by omega
        obtain ⟨u, hcel⟩ : ∃ u, wr.cell? ⟨g, j, none⟩ = some u := ⟨_, hO.cell (i := j) (by rw [bv_len]; omega)⟩
        have hfre := hO.free j
        have hgl := hO.lt
        have hg0 := hO.1
        have hset := hO.set_ (i := j) (by rw [bv_len]; omega) (.int .u8 77)
        have HS := Lib.hid (And.intro hset hb)
        have HLL := Lib.hid hl
        clear hset hb hO hl
        go_wp2
        go_roundw
        case rel =>
          refine ⟨j + 1, ls.set j 77, by omega, by go_num, by rw [List.length_set]; exact HLL.out, ?_, HS.out.2.setCell (by show w.heap.size ≤ g; omega) _⟩
          have e : bv (ls.set j 77) = (bv ls).set j (.int .u8 77) := by simp [bv, List.map_set]
          rw [e]; exact HS.out.1
        case measure => simp [intOf]; omega
      · have HB2 := Lib.hid hb
        clear hb hO
        go_wp2
        go_ret2
        exact ⟨rfl, HB2.out⟩
  · have h2' : (k == 2) = false := by simpa using h2
    rcases (show k = 1 ∨ k = 3 ∨ k = 4 ∨ k = 5 ∨ k = 6 ∨ k = 7 by omega) with rfl | rfl | rfl | rfl | rfl | rfl
    all_goals
      clear h2 h2' hk
      go_enter Try.func6, Try.ntmps6
      go_wp2_with (first | (go_at_call 26; refine (create_nil _ _).mono ?_; rintro e w1 ⟨rfl, rfl⟩) | (go_at_call 30; refine (trunc_nil _ _ _).mono ?_; rintro e w1 ⟨rfl, rfl⟩) | (go_at_call 31; refine (sync_nil _ _).mono ?_; rintro e w1 ⟨rfl, rfl⟩) | (go_at_call 32; refine (syncDir_nil _).mono ?_; rintro e w1 ⟨rfl, rfl⟩) | (go_at_call 33; refine (rename_nil _ _ _).mono ?_; rintro e w1 ⟨rfl, rfl⟩) | (go_at_call 34; refine (remove_nil _ _).mono ?_; rintro e w1 ⟨rfl, rfl⟩))
      go_ret2
      exact ⟨rfl, HB.out⟩
end Go.Proofs.Ytomkieennkobcab
