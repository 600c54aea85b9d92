import Derived.Test.YtomkieennkobcaaSm35
import Derived.Test.YtomkieennkobcaaSa2
/- twin: an image of its own memory. -/
namespace Go.Proofs.Ytomkieennkobcaa
open Go.RowKit Go.Maps

set_option maxRecDepth 100000 in
set_option maxHeartbeats 16000000 in
theorem twin_any (A : Option Addr) (n c : Nat) (fs : List FE) (w : World) (hI : IM w w.heap.size A fs) (hn : fs.length = n) (hmx : n ≤ 999999999999) (hb : ∀ p ∈ fs, p.2.length ≤ 140737488351232) :
    Calls Try.prog 33 #[.slice A n c] w fun e w' => ∃ us b cap, e = .returned (.slice b n cap) ∧ (FLs w' w.heap.size fs us (.slice b n cap) ∧ Apart us) ∧ Below w.heap.size w w' := by
  obtain ⟨i1, hi1, hz1, hs1, hy1⟩ := info_parts info_u8
  obtain ⟨i2, hi2, hz2, hs2, hy2⟩ := info_parts info_file
  have H := Lib.hid (And.intro hI (And.intro hn hb))
  clear hI hn hb
  go_enter Try.func33, Try.ntmps33
  go_wp2
  go_loopw [3, 4] (fun v3 i wr => ∃ (j : Nat) (us : List Value), j ≤ n ∧ i = .int .i64 j ∧ FLs wr w.heap.size (fs.take j) us v3 ∧ Apart us ∧ Below w.heap.size w wr) (fun _ i _ => n - (intOf i).toNat)
  case atStart => exact ⟨0, [], Nat.zero_le _, rfl, FLs.nil _ _, Apart.nil, Below.refl _ _⟩
  case round =>
    obtain ⟨j, us, hj, rfl, hF, hA, hB⟩ := hrel
    obtain ⟨fb10, fc10, rfl⟩ := row_slice hF.2.1
    have hlj : (fs.take j).length = j := by rw [List.length_take, H.out.2.1]; omega
    rw [hlj] at hF ⊢
    by_cases hlt : j < n
    · have hj0 : (0 : Int) ≤ j := by omega
      have hj1 : (j : Int) < n := by omega
      obtain ⟨p, hp⟩ : ∃ p, fs[j]? = some p := ⟨_, List.getElem?_eq_getElem (by rw [H.out.2.1]; exact hlt)⟩
      obtain ⟨ad, x, cx, rfl, had, c0, c1, hrx⟩ := (H.out.1.below hB) j p hp
      have hbp := H.out.2.2 p (List.mem_of_getElem? hp)
      have hst : fs.take (j + 1) = fs.take j ++ [p] := by
        obtain ⟨hl, e⟩ := List.getElem?_eq_some_iff.1 hp
        rw [← e]
        exact List.take_succ_eq_append_getElem hl
      obtain ⟨nm, bs⟩ := p
      obtain ⟨m, hm⟩ : ∃ m, bs.length = m := ⟨_, rfl⟩
      simp only at c0 c1 hrx hbp
      rw [hm] at c1 hbp
      have hadw : (ad.add (j * 2)).block < wr.heap.size := by rw [add_block]; exact Nat.lt_of_lt_of_le had hB.size
      have HC := Lib.hid (And.intro c0 c1)
      have HL := Lib.hid (And.intro (show (bv bs).length = m * 1 by rw [bv_len, hm, Nat.mul_one]) (And.intro (show Rd (wr.drew.alloc (.cells #[] 5)) wr.heap.size x (bv bs) from (hrx.mono hB.size).below ((below_drew (Below.refl _ _)).alloc (Nat.le_refl _) _)) hadw))
      have HL2 := Lib.hid (show (ad.add (j * 2)).block < w.heap.size by rw [add_block]; exact had)
      have HC2 := Lib.hid (show w.cell? (ad.add (j * 2)) = some (.string nm) ∧ w.cell? ⟨(ad.add (j * 2)).block, (ad.add (j * 2)).off + 1, none⟩ = some (.slice x m cx) from ⟨(hB.cell HL2.out).symm.trans c0, (hB.cell (p := ⟨(ad.add (j * 2)).block, (ad.add (j * 2)).off + 1, none⟩) HL2.out).symm.trans c1⟩)
      have HO := Lib.hid (own_empty wr.drew wr.heap.size 5 1 (Nat.le_refl _))
      have HF := Lib.hid (And.intro hF (And.intro hA hB))
      have HT := Lib.hid (And.intro hlj (And.intro hm hst))
      have hS0 : wr.drew.cell? (ad.add (j * 2)) = some (.string nm) ∧ wr.drew.cell? ⟨(ad.add (j * 2)).block, (ad.add (j * 2)).off + 1, none⟩ = some (.slice x m cx) := ⟨c0, c1⟩
      have hS1 : (wr.drew.alloc (.cells #[] 5)).cell? (ad.add (j * 2)) = some (.string nm) ∧ (wr.drew.alloc (.cells #[] 5)).cell? ⟨(ad.add (j * 2)).block, (ad.add (j * 2)).off + 1, none⟩ = some (.slice x m cx) := ⟨((Below.al wr.drew (.cells #[] 5)).cell hadw).trans c0, ((Below.al wr.drew (.cells #[] 5)).cell (p := ⟨(ad.add (j * 2)).block, (ad.add (j * 2)).off + 1, none⟩) hadw).trans c1⟩
      clear hF hA hB hp hst hlj hrx c0 c1 had hm hadw
      go_upto_region 5 with fail
      refine wp_region_held_drew (S := fun w' => w'.cell? (ad.add (j * 2)) = some (.string nm) ∧ w'.cell? ⟨(ad.add (j * 2)).block, (ad.add (j * 2)).off + 1, none⟩ = some (.slice x m cx)) (by kernel_rfl) hS0 fun _ => ?_
      refine hold_take 0 (v := ?_) rfl (by kernel_rfl) (by kernel_rfl) (by kernel_rfl) (fun _ _ _ h => h) (Or.inl ⟨by rfl, ?hy⟩) hS0 ?_
      case hy => first | (intro w hSw; go_simp; done) | (intro w hSw; go_simp; with_reducible rfl)
      simp only [Act.put, List.setIfInBounds_toArray, List.set_cons_zero, List.set_cons_succ]
      refine hold_take 1 (v := ?_) rfl (by kernel_rfl) (by kernel_rfl) (by kernel_rfl) (fun _ _ _ h => h) (Or.inl ⟨by rfl, ?hy⟩) hS0 ?_
      case hy => first | (intro w hSw; go_simp; done) | (intro w hSw; go_simp; with_reducible rfl)
      simp only [Act.put, List.setIfInBounds_toArray, List.set_cons_zero, List.set_cons_succ]
      refine hold_take 2 (v := ?_) rfl (by kernel_rfl) (by kernel_rfl) (by kernel_rfl) (fun _ _ _ h => h) (Or.inl ⟨by rfl, ?hy⟩) hS0 ?_
      case hy => first | (intro w hSw; go_simp; done) | (intro w hSw; go_simp; with_reducible rfl)
      simp only [Act.put, List.setIfInBounds_toArray, List.set_cons_zero, List.set_cons_succ]
      refine hold_take 3 (v := ?_) rfl (by kernel_rfl) (by kernel_rfl) (by kernel_rfl) (fun _ _ _ h => h) (Or.inl ⟨by rfl, ?hy⟩) hS0 ?_
      case hy => first | (intro w hSw; go_simp; done) | (intro w hSw; go_simp; with_reducible rfl)
      simp only [Act.put, List.setIfInBounds_toArray, List.set_cons_zero, List.set_cons_succ]
      refine hold_take 4 (v := ?_) rfl (by kernel_rfl) (by kernel_rfl) (by kernel_rfl) (fun _ _ _ h => h) (Or.inl ⟨by rfl, ?hy⟩) hS0 ?_
      case hy => first | (intro w hSw; go_simp; done) | (intro w hSw; go_simp; with_reducible rfl)
      simp only [Act.put, List.setIfInBounds_toArray, List.set_cons_zero, List.set_cons_succ]
      refine hold_take 5 (v := ?_) rfl (by kernel_rfl) (by kernel_rfl) (by kernel_rfl) (fun _ _ _ h => h) (Or.inl ⟨by rfl, ?hy⟩) hS0 ?_
      case hy => first | (intro w hSw; go_simp; done) | (intro w hSw; go_simp; with_reducible rfl)
      simp only [Act.put, List.setIfInBounds_toArray, List.set_cons_zero, List.set_cons_succ]
      refine hold_take 7 (v := ?_) rfl (by kernel_rfl) (by kernel_rfl) (by kernel_rfl) (fun _ _ _ h => h) (Or.inl ⟨by rfl, ?hy⟩) hS0 ?_
      case hy => first | (intro w hSw; go_simp; done) | (intro w hSw; go_simp; with_reducible rfl)
      simp only [Act.put, List.setIfInBounds_toArray, List.set_cons_zero, List.set_cons_succ]
      refine hold_take 8 (v := ?_) rfl (by kernel_rfl) (by kernel_rfl) (by kernel_rfl) (fun _ _ _ h => h) (Or.inl ⟨by rfl, ?hy⟩) hS0 ?_
      case hy => first | (intro w hSw; go_simp; done) | (intro w hSw; go_simp; with_reducible rfl)
      simp only [Act.put, List.setIfInBounds_toArray, List.set_cons_zero, List.set_cons_succ]
      refine hold_take 9 (v := ?_) rfl (by kernel_rfl) (by kernel_rfl) (by kernel_rfl) (fun _ _ _ h => h) (Or.inl ⟨by rfl, ?hy⟩) hS0 ?_
      case hy => first | (intro w hSw; go_simp; done) | (intro w hSw; go_simp; with_reducible rfl)
      simp only [Act.put, List.setIfInBounds_toArray, List.set_cons_zero, List.set_cons_succ]
      refine hold_take 10 (v := ?_) rfl (by kernel_rfl) (by kernel_rfl) (by kernel_rfl) (fun _ _ _ h => h) (Or.inl ⟨by rfl, ?hy⟩) hS0 ?_
      case hy => first | (intro w hSw; go_simp; done) | (intro w hSw; go_simp; with_reducible rfl)
      simp only [Act.put, List.setIfInBounds_toArray, List.set_cons_zero, List.set_cons_succ]
      refine hold_take 11 (v := ?_) rfl (by kernel_rfl) (by kernel_rfl) (by kernel_rfl) (fun _ _ _ h => h) (Or.inl ⟨by rfl, ?hy⟩) hS0 ?_
      case hy => first | (intro w hSw; go_simp; done) | (intro w hSw; go_simp; with_reducible rfl)
      simp only [Act.put, List.setIfInBounds_toArray, List.set_cons_zero, List.set_cons_succ]
      refine hold_step 6 rfl (by kernel_rfl) fun K hK => ?_
      go_simp
      refine hK.out _ _ hS1 ?_
      clear hK K
      try simp only [Act.put, List.setIfInBounds_toArray, List.set_cons_zero, List.set_cons_succ]
      refine hold_step 12 rfl (by kernel_rfl) fun K hK => ?_
      refine step_app _ (by rfl) (.tmp 17) (.tmp 22) 22 (by rfl) wr.heap.size 5 i1 _ 1 1 Try.underlying22 hi1 hz1 hs1 hy1 rfl (by omega) (.slice (some ⟨wr.heap.size, 0, none⟩) 0 0) 0 [] (by rfl) HO.out wr.heap.size x m cx (bv bs) (by rfl) HL.out.1 HL.out.2.1 (one_bv _) (by unfold maxLen; omega) (by omega) (by simp) ?_
      intro v' w6 hown hg hor
      rw [Nat.zero_add, List.nil_append] at hown
      obtain ⟨b6, c6, rfl⟩ := row_slice hown
      have hb6 : Below wr.heap.size wr w6 := ((below_drew (Below.refl _ _)).alloc (Nat.le_refl _) _).grown hg (by simp) (by simp [Value.ownBlock])
      have hA6 := image_add (n := nm) HF.out.1 HF.out.2.2.size hb6 hown
      have hP6 := HF.out.2.1.add HF.out.1 hown
      have hS2 : w6.cell? (ad.add (j * 2)) = some (.string nm) ∧ w6.cell? ⟨(ad.add (j * 2)).block, (ad.add (j * 2)).off + 1, none⟩ = some (.slice x m cx) := ⟨(hb6.cell HL.out.2.2).trans HC.out.1, (hb6.cell (p := ⟨(ad.add (j * 2)).block, (ad.add (j * 2)).off + 1, none⟩) HL.out.2.2).trans HC.out.2⟩
      have hS3 : (w6.alloc (.cells #[.string nm, .slice b6 m c6] 35)).cell? (ad.add (j * 2)) = some (.string nm) ∧ (w6.alloc (.cells #[.string nm, .slice b6 m c6] 35)).cell? ⟨(ad.add (j * 2)).block, (ad.add (j * 2)).off + 1, none⟩ = some (.slice x m cx) := ⟨(hA6.2.2.1.cell HL.out.2.2).trans HC.out.1, (hA6.2.2.1.cell (p := ⟨(ad.add (j * 2)).block, (ad.add (j * 2)).off + 1, none⟩) HL.out.2.2).trans HC.out.2⟩
      have H6 := Lib.hid (And.intro hA6 hP6)
      clear hown hg hor hb6 hA6 hP6 hS1
      try simp only [Act.put, List.setIfInBounds_toArray, List.set_cons_zero, List.set_cons_succ]
      refine hK.out _ _ hS2 ?_
      clear hK K
      refine hold_take 13 (v := ?_) rfl (by kernel_rfl) (by kernel_rfl) (by kernel_rfl) (fun _ _ _ h => h) (Or.inl ⟨by rfl, ?hy⟩) hS2 ?_
      case hy => first | (intro w hSw; go_simp; done) | (intro w hSw; go_simp; with_reducible rfl)
      simp only [Act.put, List.setIfInBounds_toArray, List.set_cons_zero, List.set_cons_succ]
      refine hold_step 14 rfl (by kernel_rfl) fun K hK => ?_
      go_simp
      refine hK.out _ _ hS3 ?_
      clear hK K
      try simp only [Act.put, List.setIfInBounds_toArray, List.set_cons_zero, List.set_cons_succ]
      refine hold_step 15 rfl (by kernel_rfl) fun K hK => ?_
      refine step_app _ (by rfl) (.tmp 11) (.tmp 25) 32 (by rfl) w.heap.size 35 i2 _ 2 40 Try.underlying32 hi2 hz2 hs2 hy2 rfl (by omega) (.slice fb10 j fc10) j _ (by rfl) (by have := H6.out.1.1.2.1; rw [HT.out.1] at this; exact this) _ _ 1 1 [.string nm, .slice b6 m c6] (by rfl) rfl (rd_new _ _ _) (by simp [Value.oneCell']) (by unfold maxLen; omega) (by omega) (by have := H6.out.1.2.2.2; simp; omega) ?_
      intro v' w8 hown hg8 hor
      have hst := image_step (pp := fs.take j) (bs := bs) HF.out.2.2 HT.out.2.1 H6.out.1.1 H6.out.1.2.1 H6.out.1.2.2.1 (by rw [HT.out.1]; exact hown) hg8
      have hS4 : w8.cell? (ad.add (j * 2)) = some (.string nm) ∧ w8.cell? ⟨(ad.add (j * 2)).block, (ad.add (j * 2)).off + 1, none⟩ = some (.slice x m cx) := ⟨(hst.2.cell HL2.out).trans HC2.out.1, (hst.2.cell (p := ⟨(ad.add (j * 2)).block, (ad.add (j * 2)).off + 1, none⟩) HL2.out).trans HC2.out.2⟩
      have H8 := Lib.hid hst
      clear hown hg8 hor hst hS3
      try simp only [Act.put, List.setIfInBounds_toArray, List.set_cons_zero, List.set_cons_succ]
      refine hK.out _ _ hS4 ?_
      clear hK K
      refine hold_take 16 (v := ?_) rfl (by kernel_rfl) (by kernel_rfl) (by kernel_rfl) (fun _ _ _ h => h) (Or.inl ⟨by rfl, ?hy⟩) hS4 ?_
      case hy => first | (intro w hSw; go_simp; done) | (intro w hSw; go_simp; with_reducible rfl)
      simp only [Act.put, List.setIfInBounds_toArray, List.set_cons_zero, List.set_cons_succ]
      refine wpAnyH_done (by kernel_rfl) ?_ _
      go_wp2
      go_roundw
      case rel => exact ⟨j + 1, us ++ [.slice b6 m c6], by omega, by go_num, by rw [HT.out.2.2]; exact H8.out.1, H6.out.2, H8.out.2⟩
      case measure => simp [intOf]; omega
    · have hin : n = j := by omega
      subst hin
      have hlk : fs.take n = fs := by rw [← H.out.2.1]; exact List.take_length
      rw [hlk] at hF
      have HE := Lib.hid (And.intro hF (And.intro hA hB))
      clear hF hA hB hlk hlj
      go_wp2
      go_ret
      exact ⟨us, _, _, rfl, ⟨HE.out.1, HE.out.2.1⟩, HE.out.2.2⟩
end Go.Proofs.Ytomkieennkobcaa
