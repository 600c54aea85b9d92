import Derived.Test.YtifimeohdgnehaaOct5
namespace Go.Proofs.Ytifimeohdgnehaa
open Go.RowKit Go.Maps

/-- The table of four steps, its first i rows. -/
def tabA (i : Nat) : Array Value := ((List.range 16).map fun j => if j < i then Value.int .u32 (crcN 4 j : Nat) else Value.int .u32 0).toArray
theorem tabA_get (i j : Nat) (hj : j < 16) : (tabA i)[j]? = some (if j < i then Value.int .u32 (crcN 4 j : Nat) else Value.int .u32 0) := by
  simp [tabA, hj]
theorem tabA_set (i : Nat) : (tabA i).setIfInBounds i (.int .u32 (crcN 4 i : Nat)) = tabA (i + 1) := by
  apply Array.ext_getElem?
  intro j
  rcases Nat.lt_or_ge j 16 with hj | hj
  · rw [tabA_get (i + 1) j hj, Array.getElem?_setIfInBounds]
    by_cases hij : i = j
    · subst hij
      have : i < (tabA i).size := by simp [tabA]; omega
      simp [this]
    · rw [if_neg hij, tabA_get i j hj]
      by_cases h : j < i
      · rw [if_pos h, if_pos (by omega)]
      · rw [if_neg h, if_neg (by omega)]
  · rw [Array.getElem?_eq_none (by simp [tabA]; omega), Array.getElem?_eq_none (by simp [tabA]; omega)]
theorem tabA_full : tabA 16 = #[.int .u32 0, .int .u32 274646895, .int .u32 549293790, .int .u32 820201905, .int .u32 1098587580, .int .u32 1361435347, .int .u32 1640403810, .int .u32 1905808397, .int .u32 2197175160, .int .u32 2460548119, .int .u32 2722870694, .int .u32 2987750089, .int .u32 3280807620, .int .u32 3553878443, .int .u32 3811616794, .int .u32 4084100981] := rfl
theorem tabA_zero : tabA 0 = #[.int .u32 0, .int .u32 0, .int .u32 0, .int .u32 0, .int .u32 0, .int .u32 0, .int .u32 0, .int .u32 0, .int .u32 0, .int .u32 0, .int .u32 0, .int .u32 0, .int .u32 0, .int .u32 0, .int .u32 0, .int .u32 0] := rfl

set_option maxRecDepth 100000 in
set_option maxHeartbeats 1000000 in
theorem octSums (w : World) : Calls Try.prog 49 #[] w fun e w' => e = .returned (.agg #[.int .u32 0, .int .u32 274646895, .int .u32 549293790, .int .u32 820201905, .int .u32 1098587580, .int .u32 1361435347, .int .u32 1640403810, .int .u32 1905808397, .int .u32 2197175160, .int .u32 2460548119, .int .u32 2722870694, .int .u32 2987750089, .int .u32 3280807620, .int .u32 3553878443, .int .u32 3811616794, .int .u32 4084100981]) ∧ Below w.heap.size w w' := by
  go_enter Try.func49, Try.ntmps49
  go_wp2
  go_loopw [4] (fun i wr => ∃ k : Nat, k ≤ 16 ∧ i = .int .i64 k ∧ Below w.heap.size w wr ∧ Box wr w.heap.size 77 (tabA 0) ∧ Box wr (w.heap.size + 1) 77 (tabA k)) (fun i _ => 16 - (intOf i).toNat)
  case atStart =>
    refine ⟨0, by omega, rfl, ((Below.refl _ _).alloc (Nat.le_refl _) _).alloc (by simp) _, (Box.new w _ _).alloc _, ?_⟩
    rw [tabA_zero]
    simpa using Box.new (w.alloc (.cells #[.int .u32 0, .int .u32 0, .int .u32 0, .int .u32 0, .int .u32 0, .int .u32 0, .int .u32 0, .int .u32 0, .int .u32 0, .int .u32 0, .int .u32 0, .int .u32 0, .int .u32 0, .int .u32 0, .int .u32 0, .int .u32 0] 77)) 77 _
  case round =>
    obtain ⟨k, hk, rfl, hb, hX, hY⟩ := hrel
    by_cases hlt : k < 16
    · have HX := Lib.hid hX
      have HY := Lib.hid hY
      have Hb := Lib.hid hb
      have hck := hY.cell k
      rw [tabA_get k k hlt, if_neg (by omega)] at hck
      have hfk := hY.free k
      have hdk : decide ((k : Int) < 16) = true := decide_eq_true (by omega)
      clear hX hY hb
      go_wp2
      go_loop [3, 9] (fun v j => ∃ m : Nat, m ≤ 4 ∧ j = .int .i64 m ∧ v = .int .u32 (crcN m k)) (fun _ j => 4 - (intOf j).toNat)
      case atStart => exact ⟨0, by omega, rfl, by simp [crcN]⟩
      case round =>
        obtain ⟨m, hm, rfl, rfl⟩ := hrel
        have hq := crcN_lt m (show k < 4294967296 by omega)
        have Hs := Lib.hid (crcN_snoc m k)
        by_cases hm4 : m < 4
        · go_wp2_with (go_at_call 68; refine (octStep (crcN m k) hq _).mono ?_; rintro e w' ⟨rfl, rfl⟩)
          go_round
          case rel => exact ⟨m + 1, by omega, by go_num, by rw [Hs.out]⟩
          case measure => simp [intOf]; omega
        · have hm44 : Hid (m = 4) := by show m = 4; omega
          go_wp2
          go_roundw
          case rel =>
            rw [hm44.out]
            refine ⟨k + 1, by omega, by go_num, Hb.out.setCell (by simp) _, HX.out.far (by simp) _, ?_⟩
            rw [← tabA_set k]
            exact HY.out.set_ k _
          case measure => simp [intOf]; omega
    · have hkk : k = 16 := by omega
      rw [hkk, tabA_full] at hY
      have hcy := hY.cell
      have hcx := hX.cell
      have hfx := hX.free
      have Hb := Lib.hid hb
      clear hX hY hb hkk
      rw [tabA_zero] at hcx
      go_wp2
      refine bodyPost_ret (v := .agg #[.int .u32 0, .int .u32 274646895, .int .u32 549293790, .int .u32 820201905, .int .u32 1098587580, .int .u32 1361435347, .int .u32 1640403810, .int .u32 1905808397, .int .u32 2197175160, .int .u32 2460548119, .int .u32 2722870694, .int .u32 2987750089, .int .u32 3280807620, .int .u32 3553878443, .int .u32 3811616794, .int .u32 4084100981]) ?_ rfl ?_
      · simp [results, Try.results49, go_sem, hcx]
      refine ⟨rfl, ?_⟩
      repeat (first | with_reducible exact Hb.out | refine Below.setCell ?_ (by simp) _)
end Go.Proofs.Ytifimeohdgnehaa
