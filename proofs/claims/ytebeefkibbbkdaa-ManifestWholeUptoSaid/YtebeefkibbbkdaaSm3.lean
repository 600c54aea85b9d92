import Derived.Test.YtebeefkibbbkdaaSm2
import Derived.Test.YtebeefkibbbkdaaSmg
/- The changes of bytes: what a call of one does; rows whose owner is known by a label. -/
namespace Go.Proofs.Ytebeefkibbbkdaa
open Go.RowKit Go.Maps

/-- Of the old blocks the row v alone may have turned; what it is now is the same block or a new one. -/
def RS (w w' : World) (v v' : Value) : Prop := Chg (fun k => v.ownBlock = some k) w w' ∧ (v'.ownBlock = v.ownBlock ∨ ∀ k, v'.ownBlock = some k → w.heap.size ≤ k)
/-- How a change of bytes lies in memory: an appended's bytes are in a row that reads as they, in blocks of S. -/
def FV (w : World) (S : Nat → Prop) (c : FC) (u : Value) : Prop :=
  match c with
  | .inl b => ∃ (A : Option Addr) (cap : Nat), u = .iface 142 (.agg #[.slice A b.length cap]) ∧ Rd w w.heap.size A (bv b) ∧ (∀ ad, A = some ad → b ≠ [] → S ad.block) ∧ b.length ≤ cap
  | .inr n => u = .iface 193 (.agg #[.int .i64 n])

set_option maxRecDepth 100000 in
set_option maxHeartbeats 2000000 in
theorem app_do (B : Nat) (A : Option Addr) (n c m : Nat) (v : Value) (bs xs : List UInt8) (w : World) (hA : Rd w w.heap.size A (bv bs)) (hn : bs.length = n) (hv : w.ownsRow B 5 1 v m (bv xs)) (hB : B ≤ w.heap.size) (hmx : m + n ≤ 140737488355328) :
    Calls Try.prog 164 #[.agg #[.slice A n c], v] w fun e w' => ∃ v', e = .returned v' ∧ w'.ownsRow B 5 1 v' (m + n) (bv (xs ++ bs)) ∧ RS w w' v v' := by
  obtain ⟨i1, hi1, hz1, hs1, hy1⟩ := info_parts info_u8
  have HA := Lib.hid (And.intro (hA.next (Below.al w (.cells #[.slice A n c] 142))) (And.intro hn (hv.alloc (.cells #[.slice A n c] 142))))
  have HB := Lib.hid hB
  have hlt := hv.lt
  have HL := Lib.hid hlt
  clear hA hn hv hB hlt
  obtain ⟨b0, c0, rfl⟩ := row_slice HA.out.2.2
  go_enter Try.func164, Try.ntmps164
  go_wp2_with (at_builtin
               refine wpList_app _ rfl (.tmp 5) (.tmp 7) _ rfl B 5 i1 _ 1 1 Try.underlying22 hi1 hz1 hs1 hy1 rfl (by omega) (.slice b0 m c0) m _ rfl HA.out.2.2 _ A n c (bv bs) rfl (by rw [bv_len, HA.out.2.1, Nat.mul_one]) HA.out.1 (one_bv _) (by unfold maxLen; omega) (by omega) (by have := HB.out; simp; omega) ?_
               intro v1 w1 hown1 hg1 hor
               have H1 := Lib.hid (And.intro hown1 (And.intro hg1 hor))
               clear hown1 hg1 hor)
  go_ret
  refine ⟨v1, rfl, by rw [bv_app]; exact H1.out.1, ((Chg.refl _ w).alloc _).grown H1.out.2.1 (fun k hk => .inl hk), ?_⟩
  rcases H1.out.2.2 with h | h
  · exact .inl h
  · refine .inr fun k hk => ?_
    rw [h] at hk
    injection hk with hk
    simp at hk
    omega

theorem row_cut {w : World} {B m c : Nat} {e : TypeId} {b : Option Addr} {xs : List Value} (h : w.ownsRow B e 1 (.slice b m c) m xs) {k : Nat} (hk : k ≤ m) : w.ownsRow B e 1 (.slice b k c) k (xs.take k) := by
  obtain ⟨h1, h2⟩ := h
  have hl : (xs.take k).length = k * 1 := by rw [List.length_take]; omega
  refine ⟨hl, ?_⟩
  rcases h2 with ⟨hv, h0⟩ | ⟨g, c', cur, hv, h3, h4, h5, h6, h7, h8⟩
  · injection hv with e1 _ e2
    subst e1 e2
    exact .inl ⟨by rw [show k = 0 by omega], by omega⟩
  · injection hv with e1 _ e2
    subst e1 e2
    refine .inr ⟨g, c, cur, rfl, h3, h4, by omega, h6, h7, ?_⟩
    rw [← h8, List.take_take, Nat.min_eq_left (by omega), Nat.mul_one]

set_option maxRecDepth 100000 in
set_option maxHeartbeats 2000000 in
theorem cut_do (B k m : Nat) (v : Value) (xs : List UInt8) (w : World) (hv : w.ownsRow B 5 1 v m (bv xs)) (hk : k ≤ m) :
    Calls Try.prog 166 #[.agg #[.int .i64 k], v] w fun e w' => ∃ v', e = .returned v' ∧ w'.ownsRow B 5 1 v' k (bv (xs.take k)) ∧ RS w w' v v' := by
  obtain ⟨b0, c0, rfl⟩ := row_slice hv
  have hcap := row_cap hv
  have H := Lib.hid ((row_cut hv hk).alloc (.cells #[.int .i64 k] 193))
  have hk0 : (0 : Int) ≤ k := by omega
  have hk1 : (k : Int) ≤ c0 := by omega
  clear hv hcap
  go_enter Try.func166, Try.ntmps166
  go_wp2
  go_ret
  refine ⟨.slice b0 k c0, by simp, by rw [bv_take]; exact H.out, (Chg.refl _ w).alloc _, .inl ?_⟩
  cases b0 <;> rfl

theorem meth_app (f : Nat) (A : Option Addr) (n c : Nat) (w : World) : (method (f + 1) 142 (.agg #[.slice A n c]) "chronicle/simfs.do").run Try.prog w = .ok (164, .agg #[.slice A n c]) w := by kernel_rfl
theorem meth_cut (f : Nat) (k : Int) (w : World) : (method (f + 1) 193 (.agg #[.int .i64 k]) "chronicle/simfs.do").run Try.prog w = .ok (166, .agg #[.int .i64 k]) w := by kernel_rfl
theorem ahead_app (f : Nat) (A : Option Addr) (n c : Nat) (w : World) : (nilAhead (f + 1) 142 (.agg #[.slice A n c]) "chronicle/simfs.do").run Try.prog w = .ok (some false) w := by kernel_rfl
theorem ahead_cut (f : Nat) (k : Int) (w : World) : (nilAhead (f + 1) 193 (.agg #[.int .i64 k]) "chronicle/simfs.do").run Try.prog w = .ok (some false) w := by kernel_rfl
end Go.Proofs.Ytebeefkibbbkdaa
