import Derived.Test.YtebeefkibbbkdaaSm26
/- Image. -/
namespace Go.Proofs.Ytebeefkibbbkdaa
open Go.RowKit Go.Maps

def imageL (s : Dk) : List (ByteArray × List UInt8) := s.seen.map fun p => (p.1, (s.fl p.2).seen)
/-- What stands ahead of the append of a file told. -/
theorem image_add {wr w6 : World} {base : Nat} {fs : List (ByteArray × List UInt8)} {us : List Value} {v : Value} {n : ByteArray} {b6 : Option Addr} {c6 tl : Nat} {bs : List UInt8} (h : FLs wr base fs us v) (hz : base ≤ wr.heap.size) (hb : Below wr.heap.size wr w6) (hr : w6.ownsRow wr.heap.size 5 1 (.slice b6 tl c6) tl (bv bs)) :
    FLs (w6.alloc (.cells #[.string n, .slice b6 tl c6] 37)) base fs us v ∧ (w6.alloc (.cells #[.string n, .slice b6 tl c6] 37)).ownsRow base 5 1 (.slice b6 tl c6) tl (bv bs) ∧ Below wr.heap.size wr (w6.alloc (.cells #[.string n, .slice b6 tl c6] 37)) ∧ base ≤ w6.heap.size := by
  have hc2 := hb.trans ((Below.al w6 (.cells #[.string n, .slice b6 tl c6] 37)).mono hb.size)
  exact ⟨h.keep fun b _ h2 => hc2.block b h2, (row_up hr hz).alloc _, hc2, Nat.le_trans hz hb.size⟩
theorem image_step {w5 wr w6 w8 : World} {tl c6 : Nat} {pp : List (ByteArray × List UInt8)} {us : List Value} {v v' : Value} {n : ByteArray} {b6 : Option Addr} {bs : List UInt8} (hc : Below w5.heap.size w5 wr) (htl : bs.length = tl)
    (h1 : FLs (w6.alloc (.cells #[.string n, .slice b6 tl c6] 37)) w5.heap.size pp us v) (h2 : (w6.alloc (.cells #[.string n, .slice b6 tl c6] 37)).ownsRow w5.heap.size 5 1 (.slice b6 tl c6) tl (bv bs)) (h3 : Below wr.heap.size wr (w6.alloc (.cells #[.string n, .slice b6 tl c6] 37)))
    (hown : w8.ownsRow w5.heap.size 37 2 v' (pp.length + 1) ((pp.zip us).flatMap fcell ++ [.string n, .slice b6 tl c6])) (hg : (w6.alloc (.cells #[.string n, .slice b6 tl c6] 37)).grownBy w8 v.ownBlock) :
    FLs w8 w5.heap.size (pp ++ [(n, bs)]) (us ++ [.slice b6 tl c6]) v' ∧ Below w5.heap.size w5 w8 := by
  subst htl
  have hold : ∀ k, v.ownBlock = some k → w5.heap.size ≤ k := fun k hk => (h1.2.1.lt k hk).1
  have hc8 : Chg (fun k => v.ownBlock = some k) (w6.alloc (.cells #[.string n, .slice b6 bs.length c6] 37)) w8 := (Chg.refl _ _).grown hg fun k hk => .inl hk
  have hb7 := hc.trans (h3.mono hc.size)
  exact ⟨h1.add ⟨b6, c6, rfl⟩ h2 hg hown, hb7.trans (hc8.below hb7.size hold)⟩
set_option maxRecDepth 100000 in
set_option maxHeartbeats 8000000 in
theorem image_any (S : Nat → Prop) (d N : Nat) (s : Dk) (w : World) (h : Disk w S d s) (hok : s.Ok) (hsz : s.Sz N 140737488355328) (hN : N ≤ 999999999999) : Calls Try.prog 57 #[.pointer (some ⟨d, 0, none⟩)] w fun e w' => ∃ us b cap, e = .returned (.slice b (imageL s).length cap) ∧ FLs w' w.heap.size (imageL s) us (.slice b (imageL s).length cap) ∧ Below w.heap.size w w' := by
  obtain ⟨i1, hi1, hz1, hs1, hy1⟩ := info_parts info_file
  obtain ⟨L, fb, ms, mf, vc, hD, hS⟩ := id h
  have hxc := hD.box.cell 0
  obtain ⟨k, hk⟩ : ∃ k, s.seen.length = k := ⟨_, rfl⟩
  have hkl : k ≤ 999999999999 := by have h1 := fold_len s.dchs s.safe; have h2 := hsz.d; unfold Dk.seen at hk; omega
  have H := Lib.hid (And.intro hD (And.intro hok (And.intro hsz hk)))
  clear h hD hS hok hsz hk
  go_enter Try.func57, Try.ntmps57
  go_wp2_with (first
    | (go_at_call 40
       refine (rising_any ms (s.seen.map (bk fb)) _ H.out.1.seen (by rw [List.length_map, H.out.2.2.2]; exact hkl)).mono ?_
       rintro e w5 ⟨bb, bc, rfl, hr5, hb5⟩
       rw [List.length_map, H.out.2.2.2] at hr5 ⊢
       have H5 := Lib.hid (And.intro hr5 hb5)
       clear hr5 hb5))
  go_loopw [3, 15] (fun v3 v15 wx => ∃ (j : Nat) (us : List Value), j ≤ k ∧ v15 = .int .i64 j ∧ FLs wx w5.heap.size ((imageL s).take j) us v3 ∧ Below w5.heap.size w5 wx) (fun _ i _ => k - (intOf i).toNat)
  case atStart => exact ⟨0, [], Nat.zero_le _, rfl, FLs.nil _ _, Below.refl _ _⟩
  case round =>
    obtain ⟨j, us, hj, rfl, hF, hC⟩ := hrel
    obtain ⟨fb10, fc10, rfl⟩ := row_slice hF.2.1
    have h5z := H5.out.2.size
    have hCz := hC.size
    by_cases hlt : j < k
    · have hjq : j < s.seen.length := by rw [H.out.2.2.2]; exact hlt
      obtain ⟨q, hq⟩ : ∃ q, s.seen[j] = q := ⟨_, rfl⟩
      have hqm : q ∈ s.seen := hq ▸ List.getElem_mem hjq
      have hrn := row_block H5.out.1 (w' := wr) fun b hb => hC.block b (H5.out.1.lt b hb).2
      obtain ⟨ad, rfl, hadl, hac⟩ := (row_rd hrn).one (i := j) (by simpa using hjq)
      have hac' : wr.cell? (ad.add j) = some (.string q.1) := by rw [hac]; simp [← hq, bk]
      have hbw : Below w.heap.size w wr := H5.out.2.trans (hC.mono h5z)
      have hD6 := H.out.1.keep hbw.size fun b hb => hbw.block b (H.out.1.lab b hb)
      have hlook := look_at hD6.seen hqm
      have hx6 := hD6.box.cell 0
      have hkf := H.out.1.seen_ids H.out.2.1 q hqm
      obtain ⟨vs, vf, vcc, us6, hFM⟩ := fl_fm hD6 hkf
      obtain ⟨fk, hfk⟩ : ∃ fk, fb.getD q.2 0 = fk := ⟨_, rfl⟩
      rw [hfk] at hlook hFM
      obtain ⟨sb, sc, rfl⟩ := row_slice hFM.rs
      have hfx := hFM.box.cell 0
      have hfm := fl_mem hkf
      obtain ⟨tl, htl⟩ : ∃ tl, (s.fl q.2).seen.length = tl := ⟨_, rfl⟩
      have htl9 : tl ≤ 140737488355328 := by have := H.out.2.2.1.m _ hfm (s.fl q.2).chs.length; rw [List.take_length] at this; rw [← htl]; exact this
      have hsr := row_rd hFM.rs
      rw [htl] at hfx
      have hj0 : (0 : Int) ≤ j := by omega
      have hj1 : (j : Int) < k := by omega
      obtain ⟨pp, hpp⟩ : ∃ pp, (imageL s).take j = pp := ⟨_, rfl⟩
      have hsn : (imageL s).take (j + 1) = pp ++ [(q.1, (s.fl q.2).seen)] := by
        rw [← hpp, List.take_succ_eq_append_getElem (by simp [imageL]; exact hjq)]
        simp [imageL, hq]
      rw [hpp] at hF ⊢
      obtain ⟨gl, hgl⟩ : ∃ gl, pp.length = gl := ⟨_, rfl⟩
      have hglj : gl = j := by rw [← hgl, ← hpp, List.length_take]; simp [imageL]; omega
      have HQ := Lib.hid (And.intro htl hsr)
      have HF2 := Lib.hid (And.intro hF (And.intro hC (And.intro h5z (And.intro hCz hsn))))
      have HGL := Lib.hid (And.intro hgl hglj)
      have hgl9 : gl ≤ 999999999998 := by omega
      rw [hgl]
      clear hF hC hq hqm hrn hac hD6 hFM htl hsr hkf hfm hbw hfk hjq h5z hCz hgl hglj hsn hpp
      go_wp2_with (first
        | (go_at_call 45
           refine (clone_any sb tl sc (s.fl q.2).seen _ (by exact HQ.out.2) HQ.out.1 htl9).mono ?_
           rintro e w6 ⟨b6, c6, rfl, hr6, hb6⟩
           have hA := image_add (n := q.1) HF2.out.1 HF2.out.2.1.size hb6 hr6
           have H6 := Lib.hid hA
           clear hr6 hb6 hA)
        | (at_builtin
           refine wpList_app _ rfl (.tmp 19) (.tmp 34) _ rfl w5.heap.size 37 i1 _ 2 40 Try.underlying31 hi1 hz1 hs1 hy1 rfl (by omega) (.slice fb10 gl fc10) gl _ rfl (by have := H6.out.1.2.1; rw [HGL.out.1] at this; exact this) _ _ 1 1 [.string q.1, .slice b6 tl c6] rfl rfl (rd_new _ _ _) (by simp [Value.oneCell']) (by unfold maxLen; omega) (by omega) (by have := H6.out.2.2.2; simp; omega) ?_
           intro v' w8 hown hg8 hor
           have HG := Lib.hid (And.intro hown hg8)
           clear hown hg8 hor))
      go_roundw
      case rel =>
        have hst := image_step (pp := pp) (bs := (s.fl q.2).seen) HF2.out.2.1 HQ.out.1 H6.out.1 H6.out.2.1 H6.out.2.2.1 (by have := HG.out.1; rw [← HGL.out.1] at this; exact this) (by have := HG.out.2; rw [← HGL.out.1] at this; exact this)
        exact ⟨j + 1, us ++ [.slice b6 tl c6], by omega, by go_num, by rw [HF2.out.2.2.2.2]; exact hst⟩
      case measure => simp [intOf]; omega
    · obtain rfl : j = k := by omega
      have hlk : (imageL s).take j = imageL s := by rw [← H.out.2.2.2]; exact List.take_of_length_le (by simp [imageL])
      rw [hlk] at hF ⊢
      have HE := Lib.hid (And.intro hF (H5.out.2.trans (hC.mono h5z)))
      obtain ⟨gl, hgl⟩ : ∃ gl, (imageL s).length = gl := ⟨_, rfl⟩
      rw [hgl]
      have HGL := Lib.hid hgl
      clear hF hC hlk hgl
      go_wp2
      go_ret
      rw [HGL.out]
      have hF := HE.out.1
      rw [HGL.out] at hF
      exact ⟨us, _, _, rfl, hF.mono (by omega), HE.out.2⟩
end Go.Proofs.Ytebeefkibbbkdaa
