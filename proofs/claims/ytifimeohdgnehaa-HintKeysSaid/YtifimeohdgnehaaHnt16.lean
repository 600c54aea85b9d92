import Derived.Test.YtifimeohdgnehaaHnt15
namespace Go.Proofs.Ytifimeohdgnehaa
open Go.RowKit Go.Maps

theorem one_six' (e : HE) : ∀ u ∈ six e, u.oneCell' = true := by
  intro u hu
  simp [six] at hu
  rcases hu with rfl | rfl | rfl | rfl | rfl | rfl <;> rfl

set_option maxRecDepth 100000 in
set_option maxHeartbeats 4000000 in
theorem spoil_any (seg size : Int) (lo hi n cap : Nat) (b : Option Addr) (es : List HE) (w : World) (hE : ER lo hi w b n cap es) (hn : n ≤ 2000000000000) (hlo : lo ≤ w.heap.size) :
    Calls Try.prog 15 #[hV seg size (.slice b n cap)] w fun e w' => e = .returned (.int .i64 (n + 64)) ∧ Chg (fun k => lo ≤ k ∧ k < hi ∧ k < w.heap.size) w w' := by
  unfold hV
  obtain ⟨i1, hi1, hz1, hs1, hy1⟩ := info_parts info_he
  have hE0 := hE.next (Below.al w (.cells #[.int .i64 seg, .int .i64 size, .slice b n cap] 24))
  have HE0 := Lib.hid hE0
  have HX0 := Lib.hid (Box.new w 24 #[.int .i64 seg, .int .i64 size, .slice b n cap])
  have Hown := Lib.hid (fun k hk => (hE.own.lt k hk).2)
  clear hE hE0
  go_enter Try.func15, Try.ntmps15
  go_wp2
  go_loopw [3] (fun i wr => ∃ (k : Nat) (es' : List HE), k ≤ n ∧ i = .int .i64 k ∧ ER lo hi wr b n cap es' ∧ Box wr w.heap.size 24 #[.int .i64 seg, .int .i64 size, .slice b n cap] ∧ Chg (fun k => lo ≤ k ∧ k < hi ∧ k < w.heap.size) w wr)
    (fun i _ => n - (intOf i).toNat)
  case atStart => exact ⟨0, es, Nat.zero_le _, rfl, HE0.out, HX0.out, (Chg.refl _ _).alloc _⟩
  case round =>
    obtain ⟨k, es', hk, rfl, hE, hX, hC⟩ := hrel
    have hcx := hX.cell
    have hlx := hX.lt
    by_cases hlt : k < n
    · obtain ⟨g, rfl, hnc, hcm, hO, hg1, hg2⟩ := own_of_er hE (by omega)
      have hgw := Hown.out g rfl
      have hgl := hO.lt
      have hkl : k < es'.length := by rw [hE.len]; exact hlt
      have hfk := hO.free
      obtain ⟨u0, q0⟩ := hO.six_at hkl 0 (by omega)
      obtain ⟨u1, q1⟩ := hO.six_at hkl 1 (by omega)
      obtain ⟨u2, q2⟩ := hO.six_at hkl 2 (by omega)
      obtain ⟨u3, q3⟩ := hO.six_at hkl 3 (by omega)
      obtain ⟨u4, q4⟩ := hO.six_at hkl 4 (by omega)
      obtain ⟨u5, q5⟩ := hO.six_at hkl 5 (by omega)
      rw [Nat.add_zero] at q0
      have hk0 : (0 : Int) ≤ k := by omega
      have hk1 : (k : Int) < n := by omega
      have HH := Lib.hid (And.intro hE (And.intro hX hC))
      have Hg := Lib.hid hg2
      clear hE hX hC hO
      go_wp2
      go_roundw
      case rel =>
        refine ⟨k + 1, es'.set k ⟨{ data := #[103, 111, 110, 101] }, -9, 0, false, 0, 0⟩, by omega, by go_num, HH.out.1.six_set hlt ⟨{ data := #[103, 111, 110, 101] }, -9, 0, false, 0, 0⟩, ?_, ?_⟩
        · repeat (with_reducible refine Box.far ?_ (by simp <;> omega) _)
          exact HH.out.2.1
        · exact (((((HH.out.2.2.set1 ⟨hg1, Hg.out, hgw⟩ _ _).set1 ⟨hg1, Hg.out, hgw⟩ _ _).set1 ⟨hg1, Hg.out, hgw⟩ _ _).set1 ⟨hg1, Hg.out, hgw⟩ _ _).set1 ⟨hg1, Hg.out, hgw⟩ _ _).set1 ⟨hg1, Hg.out, hgw⟩ _ _
      case measure => simp [intOf]; omega
    · have HH := Lib.hid (And.intro hE hC)
      clear hE hC
      go_wp2
      go_loopw [4, 5] (fun gr i wr => ∃ (k : Nat) (bg : Option Addr) (cg : Nat) (es' : List HE), k ≤ 64 ∧ i = .int .i64 k ∧ gr = .slice bg (n + k) cg ∧ wr.ownsRow lo 33 6 (.slice bg (n + k) cg) (n + k) (es'.flatMap six) ∧
          (∀ j, (Value.slice bg (n + k) cg).ownBlock = some j → (j < hi ∧ j < w.heap.size) ∨ w.heap.size < j) ∧ Chg (fun k => lo ≤ k ∧ k < hi ∧ k < w.heap.size) w wr ∧ w.heap.size < wr.heap.size)
        (fun _ i _ => 64 - (intOf i).toNat)
      case atStart => exact ⟨0, b, cap, es', by omega, rfl, rfl, HH.out.1.own, fun j hj => .inl ⟨HH.out.1.top j hj, Hown.out j hj⟩, HH.out.2, hlx⟩
      case round =>
        clear HH
        obtain ⟨k, bg, cg, es', hk, rfl, rfl, hO, hj, hC, hsz⟩ := hrel
        have HH := Lib.hid (And.intro hO (And.intro hj hC))
        clear hO hj hC
        by_cases hlt : k < 64
        · go_wp2_with (at_builtin
                       refine wpList_app _ rfl (.tmp 24) (.tmp 26) _ rfl lo 33 i1 _ 6 56 Try.underlying22 hi1 hz1 hs1 hy1 rfl (by omega) (.slice bg (n + k) cg) (n + k) _ rfl (HH.out.1.alloc _) _ _ 1 1 (six ⟨{ data := #[109, 111, 114, 101] }, 0, 0, false, 0, 0⟩) rfl rfl (rd_new _ _ _) (one_six' _) (by unfold maxLen; omega) (by omega) (by simp <;> omega) ?_
                       intro v' w' hown hg hor
                       obtain ⟨bg', cg', rfl⟩ := ownsRow_slice hown
                       have HG := Lib.hid (And.intro hown (And.intro hg hor))
                       clear hown hg hor)
          go_roundw
          case rel =>
            refine ⟨k + 1, bg', cg', es' ++ [⟨{ data := #[109, 111, 114, 101] }, 0, 0, false, 0, 0⟩], by omega, by go_num, rfl, ?_, ?_, ?_, ?_⟩
            · have h := HG.out.1
              rw [List.flatMap_append, List.flatMap_singleton]
              exact h
            · intro j hj
              rcases HG.out.2.2 with h | h
              · exact HH.out.2.1 j (h.symm.trans hj)
              · have h2 : (Value.slice bg' (n + (k + 1)) cg').ownBlock = some (wr.alloc (.cells (six ⟨{ data := #[109, 111, 114, 101] }, 0, 0, false, 0, 0⟩).toArray 33)).heap.size := h
                rw [hj] at h2
                simp at h2
                right; omega
            · refine (HH.out.2.2.alloc _).weak (Chg.of_grown HG.out.2.1) ?_
              intro i hi hs
              have h1 := (HH.out.1.lt i hs.symm).1
              rcases HH.out.2.1 i hs.symm with h2 | h2
              · exact ⟨h1, h2⟩
              · omega
            · have := HG.out.2.1.size; simp at this; omega
          case measure => simp [intOf]; omega
        · have hke : k = 64 := by omega
          subst hke
          go_wp2
          go_ret
          exact ⟨ret_int (by omega), HH.out.2.2⟩
end Go.Proofs.Ytifimeohdgnehaa
