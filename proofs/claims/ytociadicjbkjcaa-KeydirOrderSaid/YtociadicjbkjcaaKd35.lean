import Derived.Test.YtociadicjbkjcaaKd33
import Derived.Test.YtociadicjbkjcaaKd34
import Derived.Test.YtociadicjbkjcaaKd20
/- The law's helper below: is a text below another, byte by byte; Nth of a place below 0. -/
namespace Go.Proofs.Ytociadicjbkjcaa
open Go.RowKit Go.Maps

set_option maxRecDepth 100000 in
set_option maxHeartbeats 1000000 in
theorem below_any (s t : ByteArray) (w : World) (hs : s.size ≤ maxLen) (b : Bool) (hb : decide (kc s t = -1) = b) :
    Calls Try.prog 24 #[.string s, .string t] w fun e w' => e = .returned (.bool b) ∧ ∃ n, w' = w.drewN n := by
  unfold maxLen at hs
  have HB := Lib.hid hb
  clear hb
  go_enter Try.func24, Try.ntmps24
  go_wp2
  go_loopw [5] (fun i wr => ∃ (k n : Nat), k ≤ s.size ∧ k ≤ t.size ∧ i = .int .i64 k ∧ wr = w.drewN n ∧ cmpB s.data.toList t.data.toList = cmpB (s.data.toList.drop k) (t.data.toList.drop k)) (fun i _ => s.size - (intOf i).toNat)
  case atStart => exact ⟨0, 0, Nat.zero_le _, Nat.zero_le _, rfl, rfl, rfl⟩
  case round =>
    obtain ⟨k, n, hks, hkt, rfl, rfl, hc⟩ := hrel
    have hc2 : kc s t = cmpB (s.data.toList.drop k) (t.data.toList.drop k) := hc
    have Hc := Lib.hid hc
    have Hc2 := Lib.hid hc2
    clear hc hc2
    by_cases hlt : k < s.size
    · by_cases hlt' : k < t.size
      · have H1 := Lib.hid (cmpB_lt (a := s.data.toList) (b := t.data.toList) (k := k) (by simpa using hlt) (by simpa using hlt'))
        have H2 := Lib.hid (cmpB_gt (a := s.data.toList) (b := t.data.toList) (k := k) (by simpa using hlt) (by simpa using hlt'))
        have H3 := Lib.hid (cmpB_next (a := s.data.toList) (b := t.data.toList) (k := k) (by simpa using hlt) (by simpa using hlt'))
        have hk0 : (0 : Int) ≤ k := by omega
        have hk1 : (k : Int) < s.size := by omega
        have hk2 : (k : Int) < t.size := by omega
        by_cases ha : s[k].toNat < t[k].toNat
        · have ha' : decide ((s[k].toNat : Int) < (t[k].toNat : Int)) = true := decide_eq_true (by omega)
          have hne : ¬ (s[k].toNat : Int) = (t[k].toNat : Int) := by omega
          have hne' : ¬ s[k].toNat = t[k].toNat := by omega
          go_wp2
          go_quiet (fail)
          go_wp2
          go_quiet (fail)
          go_wp2
          go_ret
          exact ⟨by rw [← HB.out, Hc2.out, H1.out ha]; simp, _, by simp only [World.drewN_drewN]; rfl⟩
        · by_cases hb : t[k].toNat < s[k].toNat
          · have ha' : decide ((s[k].toNat : Int) < (t[k].toNat : Int)) = false := decide_eq_false (by omega)
            have hne : ¬ (s[k].toNat : Int) = (t[k].toNat : Int) := by omega
            have hne' : ¬ s[k].toNat = t[k].toNat := by omega
            go_wp2
            go_quiet (fail)
            go_wp2
            go_quiet (fail)
            go_wp2
            go_ret
            exact ⟨by rw [← HB.out, Hc2.out, H2.out hb]; simp, _, by simp only [World.drewN_drewN]; rfl⟩
          · have heq : (s[k].toNat : Int) = (t[k].toNat : Int) := by omega
            have heq' : s[k].toNat = t[k].toNat := by omega
            go_wp2
            go_quiet (fail)
            go_wp2
            go_roundw
            case rel => exact ⟨k + 1, _, by omega, by omega, by go_num, rfl, by rw [Hc.out, H3.out (show s[k].toNat = t[k].toNat by omega)]⟩
            case measure => simp [intOf]; omega
      · have He := Lib.hid (cmpB_end (a := s.data.toList) (b := t.data.toList) (k := k) (by simp; omega) (by simp; omega))
        go_wp2
        go_ret
        exact ⟨by rw [← HB.out, Hc2.out, He.out]; simp; omega, _, rfl⟩
    · have He := Lib.hid (cmpB_end (a := s.data.toList) (b := t.data.toList) (k := k) (by simp; omega) (by simp; omega))
      go_wp2
      go_ret
      exact ⟨by rw [← HB.out, Hc2.out, He.out]; simp; omega, _, rfl⟩

set_option maxRecDepth 100000 in
set_option maxHeartbeats 4000000 in
theorem nth_neg (d : Nat) (xs : List KE) (w : World) (h : DR w d xs) :
    Calls Try.prog 25 #[.pointer (some ⟨d, 0, none⟩), .int .i64 (-1)] w fun e w' => e = .returned (.tuple #[.agg #[.string ⟨#[]⟩, .int .i64 0, .int .i64 0, .int .i64 0, .int .i64 0, .int .i64 0, .bool false], .bool false]) ∧ Below w.heap.size w w' := by
  obtain ⟨t, p, h1, h2, rfl, h4, h5⟩ := h
  have hb0 := bal w (.cells #[.string ⟨#[]⟩, .int .i64 0, .int .i64 0, .int .i64 0, .int .i64 0, .int .i64 0, .bool false] 28)
  have hX0 := Box.new w 28 #[.string ⟨#[]⟩, .int .i64 0, .int .i64 0, .int .i64 0, .int .i64 0, .int .i64 0, .bool false]
  have hxc := hX0.cell
  have hxf := hX0.free
  have H := Lib.hid (And.intro (h1.below hb0 h1.lt) hb0)
  clear h1 h2 h4 h5 hb0 hX0
  go_enter Try.func25, Try.ntmps25
  go_wp2_with (first
    | (go_at_call 38; refine (top_any d p _ H.out.1).mono ?_; rintro e w' ⟨rfl, hw'⟩; subst hw'))
  refine bodyPost_ret (v := .tuple #[.agg #[.string ⟨#[]⟩, .int .i64 0, .int .i64 0, .int .i64 0, .int .i64 0, .int .i64 0, .bool false], .bool false]) ?_ rfl ?_
  · simp [results, Try.results25, go_sem, hxc]
  refine ⟨rfl, ?_⟩
  repeat (first | with_reducible exact H.out.2 | refine Below.setCell ?_ (by simp) _)
end Go.Proofs.Ytociadicjbkjcaa
