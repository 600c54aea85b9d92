import Derived.Test.YtebeefkibbbkdaaUb
/- ManifestWhole: the law. -/
namespace Go.Proofs.Ytebeefkibbbkdaa
open Go.RowKit Go.Maps

theorem nm_tmp {nm : ByteArray} : ¬ (nm ++ (⟨#[46, 116, 109, 112]⟩ : ByteArray)) = nm := fun e => by
  have := congrArg ByteArray.size e
  rw [ByteArray.size_append] at this
  have h : (⟨#[46, 116, 109, 112]⟩ : ByteArray).size = 4 := rfl
  omega
theorem rd_up2 {w w' : World} {A : Option Addr} {us : List Value} (h : Rd w w.heap.size A us) (hb : Below w.heap.size w w') : Rd w' w'.heap.size A us := rd_up h hb
set_option maxRecDepth 100000 in
set_option maxHeartbeats 32000000 in
theorem whole_none (nm : ByteArray) (A0 : Option Addr) (n0 c0 : Nat) (old : List UInt8) (A1 : Option Addr) (n1 c1 : Nat) (next : List UInt8) (f : Int) (Ap : Option Addr) (np cp : Nat) (ps : List Int) (W : World) (h0 : Rd W W.heap.size A0 (bv old)) (hn0 : old.length = n0) (hm0 : n0 ≤ 1048576) (h1 : Rd W W.heap.size A1 (bv next)) (hn1 : next.length = n1) (hm1 : n1 ≤ 1048576) (hz : nm.size ≤ 1048576) (hf : f ≤ 9223372036854775807)
    (hP : Rd W W.heap.size Ap (ps.map (Value.int .i64))) (hnp : ps.length = np) (hcp : np ≤ cp) (hwf : ∀ x ∈ ps, (Lit.int .i64 x).wf = true) (hpl : np ≤ 1048576) :
    Calls Try.prog 3 #[.string nm, .slice A0 n0 c0, .slice A1 n1 c1, .bool false, .int .i64 f, .slice Ap np cp] W fun e w' => e = .returned (.bool true) ∧ Below W.heap.size W w' := by
  have HA := Lib.hid (And.intro h0 (And.intro hn0 (And.intro h1 (And.intro hn1 hz))))
  have HP := Lib.hid (And.intro hP (And.intro hnp (And.intro hcp (And.intro hwf hpl))))
  have htz : (nm ++ (⟨#[46, 116, 109, 112]⟩ : ByteArray)).size ≤ maxLen := by rw [ByteArray.size_append]; show nm.size + 4 ≤ _; unfold maxLen; omega
  have HF := Lib.hid hf
  have HAS : Hid (Asc []) := Lib.hid (List.Pairwise.nil)
  have HIM : Hid (imgW nm old false = []) := Lib.hid rfl
  clear h0 hn0 h1 hn1 hz hf hP hnp hcp hwf hpl
  go_enter Try.func3, Try.ntmps3
  go_upto_region 6 with (first
    | (go_at_call 6
       refine (laid_none nm A0 n0 c0 W).mono ?_
       rintro e w0 ⟨d, S0, rfl, g0⟩
       have H0 := Lib.hid g0
       clear g0)
    | (go_at_call 8
       refine (lv_fuse7 f H0.out HF.out).mono ?_
       rintro e w1 ⟨rfl, h1⟩
       obtain ⟨S1, g1, _, _⟩ := h1
       have H1 := Lib.hid g1
       clear g1)
    | (go_at_call 9
       refine (replace_any W w1 S1 d _ 2 nm A1 n1 c1 next H1.out (by decide) (by have := HA.out.2.2.2.2; omega) (H1.out.out HA.out.2.2.1) HA.out.2.2.2.1 (by omega)).mono ?_
       rintro e w2 ⟨rfl, h2⟩
       obtain ⟨S2, g2, _, _⟩ := h2
       have H2 := Lib.hid g2
       clear g2))
  obtain ⟨tm, htm⟩ : ∃ tm, (nm ++ (⟨#[46, 116, 109, 112]⟩ : ByteArray)) = tm := ⟨_, rfl⟩
  have HLW := Lib.hid (whole_left (nm := nm) (tm := tm) (old := old) (b := next) (there := false) (f := f) (fun e => by cases e) (by rw [HA.out.2.1]; exact hm0) (by rw [HA.out.2.2.2.1]; exact hm1) (by rw [← htm]; exact fun e => nm_tmp e.symm) rfl (by rw [HIM.out]; exact H1.out.2.2.2) (by rw [HIM.out, ← htm]; exact H2.out.2.2.2) ps)
  have HFU := Lib.hid (fun e => whole_fuse (nm := nm) (tm := tm) (b := next) (f := f) (q := 1073741824) HAS.out e)
  rw [HIM.out] at HLW
  rw [htm] at H2 ⊢
  have HTM := Lib.hid htm
  obtain ⟨ev, s2, hr⟩ : ∃ ev s2, replT nm tm next (fuseS f (ldS 1073741824 [])) = (ev, s2) := ⟨_, _, rfl⟩
  rw [hr] at HLW HFU H2 ⊢
  dsimp only at HLW HFU H2 ⊢
  obtain ⟨left, hleft⟩ : ∃ left, crashL s2 ps = left := ⟨_, rfl⟩
  obtain ⟨il, hil⟩ : ∃ il, left.length = il := ⟨_, rfl⟩
  rw [hleft] at HLW
  have HCR := Lib.hid (And.intro hleft hil)
  have hil2 : il ≤ 2 := by rw [← hil]; exact HLW.out.few
  clear hr hleft hil htm
  have hcs := whole_cases HLW.out
  rcases hcs with ⟨_, he, hfi⟩ | ⟨_, he, hfi⟩ | ⟨h, _⟩
  · have HZ := Lib.hid hfi
    clear hfi
    rcases he with rfl | rfl
    · clear HFU
      go_wp2_with (first
          | (go_at_call 11
             refine (file_any ib il ic nm left w3 HCR.out.2 H3.out.1 (by omega)).mono ?_
             rintro e w4 ⟨hfr, hw4⟩
             rw [HZ.out] at hfr
             have hfr2 : e = .returned (.tuple #[.slice none 0 0, .bool false]) := hfr
             subst hfr2
             have hw5 := hw4.symm
             subst hw5
             have H6 := Lib.hid H3.out.2
             have H7 := Lib.hid (Below.refl w3.heap.size w3)
             clear hfr hw4)
          | (go_at_call 10
             refine (lv_crash ps Ap np cp H2.out (by omega) (rd_up HP.out.1 H2.out.2.2.1) HP.out.2.1 HP.out.2.2.1 HP.out.2.2.2.1 (by have := HP.out.2.2.2.2; omega)).mono ?_
             rintro e w3 ⟨us, ib, ic, rfl, hfl, hb3⟩
             rw [HCR.out.1, HCR.out.2] at hfl
             rw [HCR.out.1, HCR.out.2]
             have H3 := Lib.hid (And.intro hfl.im (H2.out.2.2.1.trans (hb3.mono H2.out.2.2.1.size)))
             clear hfl hb3))
      go_loopw [21] (fun v21 wx => ∃ (k : Nat), k ≤ il ∧ v21 = .int .i64 k ∧ wx = w3) (fun v21 _ => il - (intOf v21).toNat)
      case atStart => exact ⟨0, Nat.zero_le _, rfl, rfl⟩
      case round =>
        obtain ⟨k, hk, rfl, hwx⟩ := hrel
        have HWX := Lib.hid hwx
        subst hwx
        by_cases hkl : k < il
        · have hk0 : (0 : Int) ≤ k := by omega
          have hk1 : (k : Int) < il := by omega
          obtain ⟨p, hp⟩ : ∃ p, left[k]? = some p := ⟨_, List.getElem?_eq_getElem (by rw [HCR.out.2]; exact hkl)⟩
          have hpt := HLW.out.two p (List.mem_of_getElem? hp)
          obtain ⟨ad, x, cx, rfl, had, c0, _, _⟩ := (H3.out.1.below H7.out) k p hp
          obtain ⟨pn, pb⟩ := p
          simp only at hpt c0
          by_cases hpn : pn = nm
          · subst hpn
            clear hp hpt had
            go_wp2
            go_roundw
            case rel => exact ⟨k + 1, by omega, by go_num, trivial⟩
            case measure => simp [intOf]; omega
          · have hpm : pn = tm := by rcases hpt with e | e; exact absurd e hpn; exact e
            have hkn := key_ne hpn
            subst hpm
            have htm := HTM.out
            have hnz := HA.out.2.2.2.2
            clear hp hpt had
            go_wp2
            go_roundw
            case rel => exact ⟨k + 1, by omega, by go_num, trivial⟩
            case measure => simp [intOf]; omega
        · go_wp2
          go_ret
          exact ⟨rfl, H6.out⟩
    · clear HFU
      go_wp2_with (first
          | (go_at_call 11
             refine (file_any ib il ic nm left w3 HCR.out.2 H3.out.1 (by omega)).mono ?_
             rintro e w4 ⟨hfr, hw4⟩
             rw [HZ.out] at hfr
             have hfr2 : e = .returned (.tuple #[.slice none 0 0, .bool false]) := hfr
             subst hfr2
             have hw5 := hw4.symm
             subst hw5
             have H6 := Lib.hid H3.out.2
             have H7 := Lib.hid (Below.refl w3.heap.size w3)
             clear hfr hw4)
          | (go_at_call 10
             refine (lv_crash ps Ap np cp H2.out (by omega) (rd_up HP.out.1 H2.out.2.2.1) HP.out.2.1 HP.out.2.2.1 HP.out.2.2.2.1 (by have := HP.out.2.2.2.2; omega)).mono ?_
             rintro e w3 ⟨us, ib, ic, rfl, hfl, hb3⟩
             rw [HCR.out.1, HCR.out.2] at hfl
             rw [HCR.out.1, HCR.out.2]
             have H3 := Lib.hid (And.intro hfl.im (H2.out.2.2.1.trans (hb3.mono H2.out.2.2.1.size)))
             clear hfl hb3))
      go_loopw [21] (fun v21 wx => ∃ (k : Nat), k ≤ il ∧ v21 = .int .i64 k ∧ wx = w3) (fun v21 _ => il - (intOf v21).toNat)
      case atStart => exact ⟨0, Nat.zero_le _, rfl, rfl⟩
      case round =>
        obtain ⟨k, hk, rfl, hwx⟩ := hrel
        have HWX := Lib.hid hwx
        subst hwx
        by_cases hkl : k < il
        · have hk0 : (0 : Int) ≤ k := by omega
          have hk1 : (k : Int) < il := by omega
          obtain ⟨p, hp⟩ : ∃ p, left[k]? = some p := ⟨_, List.getElem?_eq_getElem (by rw [HCR.out.2]; exact hkl)⟩
          have hpt := HLW.out.two p (List.mem_of_getElem? hp)
          obtain ⟨ad, x, cx, rfl, had, c0, _, _⟩ := (H3.out.1.below H7.out) k p hp
          obtain ⟨pn, pb⟩ := p
          simp only at hpt c0
          by_cases hpn : pn = nm
          · subst hpn
            clear hp hpt had
            go_wp2
            go_roundw
            case rel => exact ⟨k + 1, by omega, by go_num, trivial⟩
            case measure => simp [intOf]; omega
          · have hpm : pn = tm := by rcases hpt with e | e; exact absurd e hpn; exact e
            have hkn := key_ne hpn
            subst hpm
            have htm := HTM.out
            have hnz := HA.out.2.2.2.2
            clear hp hpt had
            go_wp2
            go_roundw
            case rel => exact ⟨k + 1, by omega, by go_num, trivial⟩
            case measure => simp [intOf]; omega
        · go_wp2
          go_ret
          exact ⟨rfl, H6.out⟩
  · obtain ⟨z, hz⟩ : ∃ z, z = next := ⟨_, rfl⟩
    obtain ⟨zl, hzl⟩ : ∃ zl, z.length = zl := ⟨_, rfl⟩
    have hzm : zl ≤ 1048576 := by rw [← hzl, hz, HA.out.2.2.2.1]; exact hm1
    have HN := Lib.hid (show decide (z = next) = true from decide_eq_true hz)
    have HZ := Lib.hid (And.intro hzl (And.intro (show fileI nm left = some z by rw [hz]; exact hfi) hz))
    clear hfi hz hzl
    rcases he with rfl | rfl
    · rcases HFU.out rfl with hfc | hfc
      · clear HFU
        have hfz : f < 0 := hfc
        go_wp2_with (first
            | (go_at_call 12
               refine (same7_any zx A1 zl zc n1 c1 z next _ HZ.out.1 HA.out.2.2.2.1 H4.out (rd_up HA.out.2.2.1 H3.out.2) (by omega) (by omega)).mono ?_
               rintro e w6 ⟨rfl, k6, hw6⟩
               rw [show decide (z = next) = true from HN.out]
               have H6 := Lib.hid (show Below W.heap.size W w6 from hw6 ▸ below_drewN H3.out.2 k6)
               have H7 := Lib.hid (show Below w3.heap.size w3 w6 from hw6 ▸ below_drewN (Below.refl _ _) k6)
               clear hw6)
            | (go_at_call 11
               refine (file_any ib il ic nm left w3 HCR.out.2 H3.out.1 (by omega)).mono ?_
               rintro e w4 ⟨hfr, hw4⟩
               rw [HZ.out.2.1] at hfr
               obtain ⟨zx, zc, rfl, hzr⟩ := hfr
               have hw5 := hw4.symm
               subst hw5
               rw [HZ.out.1]
               have H4 := Lib.hid hzr
               clear hzr hw4)
            | (go_at_call 10
               refine (lv_crash ps Ap np cp H2.out (by omega) (rd_up HP.out.1 H2.out.2.2.1) HP.out.2.1 HP.out.2.2.1 HP.out.2.2.2.1 (by have := HP.out.2.2.2.2; omega)).mono ?_
               rintro e w3 ⟨us, ib, ic, rfl, hfl, hb3⟩
               rw [HCR.out.1, HCR.out.2] at hfl
               rw [HCR.out.1, HCR.out.2]
               have H3 := Lib.hid (And.intro hfl.im (H2.out.2.2.1.trans (hb3.mono H2.out.2.2.1.size)))
               clear hfl hb3))
        go_loopw [21] (fun v21 wx => ∃ (k : Nat), k ≤ il ∧ v21 = .int .i64 k ∧ wx = w6) (fun v21 _ => il - (intOf v21).toNat)
        case atStart => exact ⟨0, Nat.zero_le _, rfl, rfl⟩
        case round =>
          obtain ⟨k, hk, rfl, hwx⟩ := hrel
          have HWX := Lib.hid hwx
          subst hwx
          by_cases hkl : k < il
          · have hk0 : (0 : Int) ≤ k := by omega
            have hk1 : (k : Int) < il := by omega
            obtain ⟨p, hp⟩ : ∃ p, left[k]? = some p := ⟨_, List.getElem?_eq_getElem (by rw [HCR.out.2]; exact hkl)⟩
            have hpt := HLW.out.two p (List.mem_of_getElem? hp)
            obtain ⟨ad, x, cx, rfl, had, c0, _, _⟩ := (H3.out.1.below H7.out) k p hp
            obtain ⟨pn, pb⟩ := p
            simp only at hpt c0
            by_cases hpn : pn = nm
            · subst hpn
              clear hp hpt had
              go_wp2
              go_roundw
              case rel => exact ⟨k + 1, by omega, by go_num, trivial⟩
              case measure => simp [intOf]; omega
            · have hpm : pn = tm := by rcases hpt with e | e; exact absurd e hpn; exact e
              have hkn := key_ne hpn
              subst hpm
              have htm := HTM.out
              have hnz := HA.out.2.2.2.2
              clear hp hpt had
              go_wp2
              go_roundw
              case rel => exact ⟨k + 1, by omega, by go_num, trivial⟩
              case measure => simp [intOf]; omega
          · go_wp2
            go_ret
            exact ⟨rfl, H6.out⟩
      · clear HFU
        have hfn : ¬ f < 0 := by omega
        have hfz : 5 ≤ f := hfc
        go_wp2_with (first
            | (go_at_call 12
               refine (same7_any zx A1 zl zc n1 c1 z next _ HZ.out.1 HA.out.2.2.2.1 H4.out (rd_up HA.out.2.2.1 H3.out.2) (by omega) (by omega)).mono ?_
               rintro e w6 ⟨rfl, k6, hw6⟩
               rw [show decide (z = next) = true from HN.out]
               have H6 := Lib.hid (show Below W.heap.size W w6 from hw6 ▸ below_drewN H3.out.2 k6)
               have H7 := Lib.hid (show Below w3.heap.size w3 w6 from hw6 ▸ below_drewN (Below.refl _ _) k6)
               clear hw6)
            | (go_at_call 11
               refine (file_any ib il ic nm left w3 HCR.out.2 H3.out.1 (by omega)).mono ?_
               rintro e w4 ⟨hfr, hw4⟩
               rw [HZ.out.2.1] at hfr
               obtain ⟨zx, zc, rfl, hzr⟩ := hfr
               have hw5 := hw4.symm
               subst hw5
               rw [HZ.out.1]
               have H4 := Lib.hid hzr
               clear hzr hw4)
            | (go_at_call 10
               refine (lv_crash ps Ap np cp H2.out (by omega) (rd_up HP.out.1 H2.out.2.2.1) HP.out.2.1 HP.out.2.2.1 HP.out.2.2.2.1 (by have := HP.out.2.2.2.2; omega)).mono ?_
               rintro e w3 ⟨us, ib, ic, rfl, hfl, hb3⟩
               rw [HCR.out.1, HCR.out.2] at hfl
               rw [HCR.out.1, HCR.out.2]
               have H3 := Lib.hid (And.intro hfl.im (H2.out.2.2.1.trans (hb3.mono H2.out.2.2.1.size)))
               clear hfl hb3))
        go_loopw [21] (fun v21 wx => ∃ (k : Nat), k ≤ il ∧ v21 = .int .i64 k ∧ wx = w6) (fun v21 _ => il - (intOf v21).toNat)
        case atStart => exact ⟨0, Nat.zero_le _, rfl, rfl⟩
        case round =>
          obtain ⟨k, hk, rfl, hwx⟩ := hrel
          have HWX := Lib.hid hwx
          subst hwx
          by_cases hkl : k < il
          · have hk0 : (0 : Int) ≤ k := by omega
            have hk1 : (k : Int) < il := by omega
            obtain ⟨p, hp⟩ : ∃ p, left[k]? = some p := ⟨_, List.getElem?_eq_getElem (by rw [HCR.out.2]; exact hkl)⟩
            have hpt := HLW.out.two p (List.mem_of_getElem? hp)
            obtain ⟨ad, x, cx, rfl, had, c0, _, _⟩ := (H3.out.1.below H7.out) k p hp
            obtain ⟨pn, pb⟩ := p
            simp only at hpt c0
            by_cases hpn : pn = nm
            · subst hpn
              clear hp hpt had
              go_wp2
              go_roundw
              case rel => exact ⟨k + 1, by omega, by go_num, trivial⟩
              case measure => simp [intOf]; omega
            · have hpm : pn = tm := by rcases hpt with e | e; exact absurd e hpn; exact e
              have hkn := key_ne hpn
              subst hpm
              have htm := HTM.out
              have hnz := HA.out.2.2.2.2
              clear hp hpt had
              go_wp2
              go_roundw
              case rel => exact ⟨k + 1, by omega, by go_num, trivial⟩
              case measure => simp [intOf]; omega
          · go_wp2
            go_ret
            exact ⟨rfl, H6.out⟩
    · clear HFU
      go_wp2_with (first
          | (go_at_call 12
             refine (same7_any zx A1 zl zc n1 c1 z next _ HZ.out.1 HA.out.2.2.2.1 H4.out (rd_up HA.out.2.2.1 H3.out.2) (by omega) (by omega)).mono ?_
             rintro e w6 ⟨rfl, k6, hw6⟩
             rw [show decide (z = next) = true from HN.out]
             have H6 := Lib.hid (show Below W.heap.size W w6 from hw6 ▸ below_drewN H3.out.2 k6)
             have H7 := Lib.hid (show Below w3.heap.size w3 w6 from hw6 ▸ below_drewN (Below.refl _ _) k6)
             clear hw6)
          | (go_at_call 11
             refine (file_any ib il ic nm left w3 HCR.out.2 H3.out.1 (by omega)).mono ?_
             rintro e w4 ⟨hfr, hw4⟩
             rw [HZ.out.2.1] at hfr
             obtain ⟨zx, zc, rfl, hzr⟩ := hfr
             have hw5 := hw4.symm
             subst hw5
             rw [HZ.out.1]
             have H4 := Lib.hid hzr
             clear hzr hw4)
          | (go_at_call 10
             refine (lv_crash ps Ap np cp H2.out (by omega) (rd_up HP.out.1 H2.out.2.2.1) HP.out.2.1 HP.out.2.2.1 HP.out.2.2.2.1 (by have := HP.out.2.2.2.2; omega)).mono ?_
             rintro e w3 ⟨us, ib, ic, rfl, hfl, hb3⟩
             rw [HCR.out.1, HCR.out.2] at hfl
             rw [HCR.out.1, HCR.out.2]
             have H3 := Lib.hid (And.intro hfl.im (H2.out.2.2.1.trans (hb3.mono H2.out.2.2.1.size)))
             clear hfl hb3))
      go_loopw [21] (fun v21 wx => ∃ (k : Nat), k ≤ il ∧ v21 = .int .i64 k ∧ wx = w6) (fun v21 _ => il - (intOf v21).toNat)
      case atStart => exact ⟨0, Nat.zero_le _, rfl, rfl⟩
      case round =>
        obtain ⟨k, hk, rfl, hwx⟩ := hrel
        have HWX := Lib.hid hwx
        subst hwx
        by_cases hkl : k < il
        · have hk0 : (0 : Int) ≤ k := by omega
          have hk1 : (k : Int) < il := by omega
          obtain ⟨p, hp⟩ : ∃ p, left[k]? = some p := ⟨_, List.getElem?_eq_getElem (by rw [HCR.out.2]; exact hkl)⟩
          have hpt := HLW.out.two p (List.mem_of_getElem? hp)
          obtain ⟨ad, x, cx, rfl, had, c0, _, _⟩ := (H3.out.1.below H7.out) k p hp
          obtain ⟨pn, pb⟩ := p
          simp only at hpt c0
          by_cases hpn : pn = nm
          · subst hpn
            clear hp hpt had
            go_wp2
            go_roundw
            case rel => exact ⟨k + 1, by omega, by go_num, trivial⟩
            case measure => simp [intOf]; omega
          · have hpm : pn = tm := by rcases hpt with e | e; exact absurd e hpn; exact e
            have hkn := key_ne hpn
            subst hpm
            have htm := HTM.out
            have hnz := HA.out.2.2.2.2
            clear hp hpt had
            go_wp2
            go_roundw
            case rel => exact ⟨k + 1, by omega, by go_num, trivial⟩
            case measure => simp [intOf]; omega
        · go_wp2
          go_ret
          exact ⟨rfl, H6.out⟩
  · cases h
set_option maxRecDepth 100000 in
set_option maxHeartbeats 32000000 in
theorem whole_one (nm : ByteArray) (A0 : Option Addr) (n0 c0 : Nat) (old : List UInt8) (A1 : Option Addr) (n1 c1 : Nat) (next : List UInt8) (f : Int) (Ap : Option Addr) (np cp : Nat) (ps : List Int) (W : World) (h0 : Rd W W.heap.size A0 (bv old)) (hn0 : old.length = n0) (hm0 : n0 ≤ 1048576) (h1 : Rd W W.heap.size A1 (bv next)) (hn1 : next.length = n1) (hm1 : n1 ≤ 1048576) (hz : nm.size ≤ 1048576) (hf : f ≤ 9223372036854775807)
    (hP : Rd W W.heap.size Ap (ps.map (Value.int .i64))) (hnp : ps.length = np) (hcp : np ≤ cp) (hwf : ∀ x ∈ ps, (Lit.int .i64 x).wf = true) (hpl : np ≤ 1048576) (hg : goodN nm = true) :
    Calls Try.prog 3 #[.string nm, .slice A0 n0 c0, .slice A1 n1 c1, .bool true, .int .i64 f, .slice Ap np cp] W fun e w' => e = .returned (.bool true) ∧ Below W.heap.size W w' := by
  have HA := Lib.hid (And.intro h0 (And.intro hn0 (And.intro h1 (And.intro hn1 hz))))
  have HP := Lib.hid (And.intro hP (And.intro hnp (And.intro hcp (And.intro hwf hpl))))
  have htz : (nm ++ (⟨#[46, 116, 109, 112]⟩ : ByteArray)).size ≤ maxLen := by rw [ByteArray.size_append]; show nm.size + 4 ≤ _; unfold maxLen; omega
  have HF := Lib.hid hf
  have HG := Lib.hid hg
  have HAS : Hid (Asc [(nm, old)]) := Lib.hid (List.pairwise_singleton _ _)
  have HIM : Hid (imgW nm old true = [(nm, old)]) := Lib.hid rfl
  clear h0 hn0 h1 hn1 hz hf hP hnp hcp hwf hpl hg
  go_enter Try.func3, Try.ntmps3
  go_upto_region 6 with (first
    | (go_at_call 6
       refine (laid_one nm A0 n0 c0 old W HA.out.1 HA.out.2.1 hm0 HG.out).mono ?_
       rintro e w0 ⟨d, S0, rfl, g0⟩
       have H0 := Lib.hid g0
       clear g0)
    | (go_at_call 8
       refine (lv_fuse7 f H0.out HF.out).mono ?_
       rintro e w1 ⟨rfl, h1⟩
       obtain ⟨S1, g1, _, _⟩ := h1
       have H1 := Lib.hid g1
       clear g1)
    | (go_at_call 9
       refine (replace_any W w1 S1 d _ 2 nm A1 n1 c1 next H1.out (by decide) (by have := HA.out.2.2.2.2; omega) (H1.out.out HA.out.2.2.1) HA.out.2.2.2.1 (by omega)).mono ?_
       rintro e w2 ⟨rfl, h2⟩
       obtain ⟨S2, g2, _, _⟩ := h2
       have H2 := Lib.hid g2
       clear g2))
  obtain ⟨tm, htm⟩ : ∃ tm, (nm ++ (⟨#[46, 116, 109, 112]⟩ : ByteArray)) = tm := ⟨_, rfl⟩
  have HLW := Lib.hid (whole_left (nm := nm) (tm := tm) (old := old) (b := next) (there := true) (f := f) (fun _ => HG.out) (by rw [HA.out.2.1]; exact hm0) (by rw [HA.out.2.2.2.1]; exact hm1) (by rw [← htm]; exact fun e => nm_tmp e.symm) rfl (by rw [HIM.out]; exact H1.out.2.2.2) (by rw [HIM.out, ← htm]; exact H2.out.2.2.2) ps)
  have HFU := Lib.hid (fun e => whole_fuse (nm := nm) (tm := tm) (b := next) (f := f) (q := 1073741824) HAS.out e)
  rw [HIM.out] at HLW
  rw [htm] at H2 ⊢
  have HTM := Lib.hid htm
  obtain ⟨ev, s2, hr⟩ : ∃ ev s2, replT nm tm next (fuseS f (ldS 1073741824 [(nm, old)])) = (ev, s2) := ⟨_, _, rfl⟩
  rw [hr] at HLW HFU H2 ⊢
  dsimp only at HLW HFU H2 ⊢
  obtain ⟨left, hleft⟩ : ∃ left, crashL s2 ps = left := ⟨_, rfl⟩
  obtain ⟨il, hil⟩ : ∃ il, left.length = il := ⟨_, rfl⟩
  rw [hleft] at HLW
  have HCR := Lib.hid (And.intro hleft hil)
  have hil2 : il ≤ 2 := by rw [← hil]; exact HLW.out.few
  clear hr hleft hil htm
  have hcs := whole_cases HLW.out
  rcases hcs with ⟨h, _⟩ | ⟨h, _⟩ | ⟨_, z, hfi, he⟩
  · cases h
  · cases h
  · obtain ⟨zl, hzl⟩ : ∃ zl, z.length = zl := ⟨_, rfl⟩
    have hzm : zl ≤ 1048576 := by rw [← hzl]; exact HLW.out.sm _ (fileI_mem hfi)
    have HZ := Lib.hid (And.intro hzl (And.intro hfi trivial))
    have T0 := Lib.hid True.intro
    clear hfi hzl
    obtain ⟨zo, hzo⟩ : ∃ zo, decide (z = old) = zo := ⟨_, rfl⟩
    obtain ⟨zn, hzn⟩ : ∃ zn, decide (z = next) = zn := ⟨_, rfl⟩
    have HO := Lib.hid hzo
    have HN := Lib.hid hzn
    have he2 : (ev = 0 ∧ zn = true) ∨ (ev = 30 ∧ zo = true) ∨ (ev = 34 ∧ (zo = true ∨ zn = true)) := by
      rw [← hzo, ← hzn]
      simpa using he
    clear he hzo hzn
    rcases he2 with ⟨rfl, rfl⟩ | ⟨rfl, rfl⟩ | ⟨rfl, he2⟩
    · rcases HFU.out rfl with hfc | hfc
      · clear HFU
        cases zo
        · have hfz : f < 0 := hfc
          go_wp2_with (first
              | (go_at_call 12
                 have z0 := T1
                 clear z0
                 refine (same7_any zx A1 zl zc n1 c1 z next _ HZ.out.1 HA.out.2.2.2.1 (rd_up2 H4.out H5.out.1) (rd_up HA.out.2.2.1 H5.out.2) (by omega) (by omega)).mono ?_
                 rintro e w6 ⟨rfl, k6, hw6⟩
                 rw [show decide (z = next) = true from HN.out]
                 have H6 := Lib.hid (show Below W.heap.size W w6 from hw6 ▸ below_drewN H5.out.2 k6)
                 have H7 := Lib.hid (show Below w3.heap.size w3 w6 from hw6 ▸ below_drewN H5.out.1 k6)
                 clear hw6 T1)
              | (go_at_call 12
                 have z0 := T0
                 clear z0
                 refine (same7_any zx A0 zl zc n0 c0 z old _ HZ.out.1 HA.out.2.1 H4.out (rd_up HA.out.1 H3.out.2) (by omega) (by omega)).mono ?_
                 rintro e w5 ⟨rfl, k5, hw5⟩
                 rw [show decide (z = old) = false from HO.out]
                 have H5 := Lib.hid (And.intro (show Below w3.heap.size w3 w5 from hw5 ▸ below_drewN (Below.refl _ _) k5) (show Below W.heap.size W w5 from hw5 ▸ below_drewN H3.out.2 k5))
                 have T1 := Lib.hid True.intro
                 clear hw5 T0)
              | (go_at_call 11
                 refine (file_any ib il ic nm left w3 HCR.out.2 H3.out.1 (by omega)).mono ?_
                 rintro e w4 ⟨hfr, hw4⟩
                 rw [HZ.out.2.1] at hfr
                 obtain ⟨zx, zc, rfl, hzr⟩ := hfr
                 have hw5 := hw4.symm
                 subst hw5
                 rw [HZ.out.1]
                 have H4 := Lib.hid hzr
                 clear hzr hw4)
              | (go_at_call 10
                 refine (lv_crash ps Ap np cp H2.out (by omega) (rd_up HP.out.1 H2.out.2.2.1) HP.out.2.1 HP.out.2.2.1 HP.out.2.2.2.1 (by have := HP.out.2.2.2.2; omega)).mono ?_
                 rintro e w3 ⟨us, ib, ic, rfl, hfl, hb3⟩
                 rw [HCR.out.1, HCR.out.2] at hfl
                 rw [HCR.out.1, HCR.out.2]
                 have H3 := Lib.hid (And.intro hfl.im (H2.out.2.2.1.trans (hb3.mono H2.out.2.2.1.size)))
                 clear hfl hb3))
          go_loopw [21] (fun v21 wx => ∃ (k : Nat), k ≤ il ∧ v21 = .int .i64 k ∧ wx = w6) (fun v21 _ => il - (intOf v21).toNat)
          case atStart => exact ⟨0, Nat.zero_le _, rfl, rfl⟩
          case round =>
            obtain ⟨k, hk, rfl, hwx⟩ := hrel
            have HWX := Lib.hid hwx
            subst hwx
            by_cases hkl : k < il
            · have hk0 : (0 : Int) ≤ k := by omega
              have hk1 : (k : Int) < il := by omega
              obtain ⟨p, hp⟩ : ∃ p, left[k]? = some p := ⟨_, List.getElem?_eq_getElem (by rw [HCR.out.2]; exact hkl)⟩
              have hpt := HLW.out.two p (List.mem_of_getElem? hp)
              obtain ⟨ad, x, cx, rfl, had, c0, _, _⟩ := (H3.out.1.below H7.out) k p hp
              obtain ⟨pn, pb⟩ := p
              simp only at hpt c0
              by_cases hpn : pn = nm
              · subst hpn
                clear hp hpt had
                go_wp2
                go_roundw
                case rel => exact ⟨k + 1, by omega, by go_num, trivial⟩
                case measure => simp [intOf]; omega
              · have hpm : pn = tm := by rcases hpt with e | e; exact absurd e hpn; exact e
                have hkn := key_ne hpn
                subst hpm
                have htm := HTM.out
                have hnz := HA.out.2.2.2.2
                clear hp hpt had
                go_wp2
                go_roundw
                case rel => exact ⟨k + 1, by omega, by go_num, trivial⟩
                case measure => simp [intOf]; omega
            · go_wp2
              go_ret
              exact ⟨rfl, H6.out⟩
        · have hfz : f < 0 := hfc
          go_wp2_with (first
              | (go_at_call 12
                 have z0 := T1
                 clear z0
                 refine (same7_any zx A1 zl zc n1 c1 z next _ HZ.out.1 HA.out.2.2.2.1 (rd_up2 H4.out H5.out.1) (rd_up HA.out.2.2.1 H5.out.2) (by omega) (by omega)).mono ?_
                 rintro e w6 ⟨rfl, k6, hw6⟩
                 rw [show decide (z = next) = true from HN.out]
                 have H6 := Lib.hid (show Below W.heap.size W w6 from hw6 ▸ below_drewN H5.out.2 k6)
                 have H7 := Lib.hid (show Below w3.heap.size w3 w6 from hw6 ▸ below_drewN H5.out.1 k6)
                 clear hw6 T1)
              | (go_at_call 12
                 have z0 := T0
                 clear z0
                 refine (same7_any zx A0 zl zc n0 c0 z old _ HZ.out.1 HA.out.2.1 H4.out (rd_up HA.out.1 H3.out.2) (by omega) (by omega)).mono ?_
                 rintro e w5 ⟨rfl, k5, hw5⟩
                 rw [show decide (z = old) = true from HO.out]
                 have H5 := Lib.hid (And.intro (show Below w3.heap.size w3 w5 from hw5 ▸ below_drewN (Below.refl _ _) k5) (show Below W.heap.size W w5 from hw5 ▸ below_drewN H3.out.2 k5))
                 have T1 := Lib.hid True.intro
                 clear hw5 T0)
              | (go_at_call 11
                 refine (file_any ib il ic nm left w3 HCR.out.2 H3.out.1 (by omega)).mono ?_
                 rintro e w4 ⟨hfr, hw4⟩
                 rw [HZ.out.2.1] at hfr
                 obtain ⟨zx, zc, rfl, hzr⟩ := hfr
                 have hw5 := hw4.symm
                 subst hw5
                 rw [HZ.out.1]
                 have H4 := Lib.hid hzr
                 clear hzr hw4)
              | (go_at_call 10
                 refine (lv_crash ps Ap np cp H2.out (by omega) (rd_up HP.out.1 H2.out.2.2.1) HP.out.2.1 HP.out.2.2.1 HP.out.2.2.2.1 (by have := HP.out.2.2.2.2; omega)).mono ?_
                 rintro e w3 ⟨us, ib, ic, rfl, hfl, hb3⟩
                 rw [HCR.out.1, HCR.out.2] at hfl
                 rw [HCR.out.1, HCR.out.2]
                 have H3 := Lib.hid (And.intro hfl.im (H2.out.2.2.1.trans (hb3.mono H2.out.2.2.1.size)))
                 clear hfl hb3))
          go_loopw [21] (fun v21 wx => ∃ (k : Nat), k ≤ il ∧ v21 = .int .i64 k ∧ wx = w6) (fun v21 _ => il - (intOf v21).toNat)
          case atStart => exact ⟨0, Nat.zero_le _, rfl, rfl⟩
          case round =>
            obtain ⟨k, hk, rfl, hwx⟩ := hrel
            have HWX := Lib.hid hwx
            subst hwx
            by_cases hkl : k < il
            · have hk0 : (0 : Int) ≤ k := by omega
              have hk1 : (k : Int) < il := by omega
              obtain ⟨p, hp⟩ : ∃ p, left[k]? = some p := ⟨_, List.getElem?_eq_getElem (by rw [HCR.out.2]; exact hkl)⟩
              have hpt := HLW.out.two p (List.mem_of_getElem? hp)
              obtain ⟨ad, x, cx, rfl, had, c0, _, _⟩ := (H3.out.1.below H7.out) k p hp
              obtain ⟨pn, pb⟩ := p
              simp only at hpt c0
              by_cases hpn : pn = nm
              · subst hpn
                clear hp hpt had
                go_wp2
                go_roundw
                case rel => exact ⟨k + 1, by omega, by go_num, trivial⟩
                case measure => simp [intOf]; omega
              · have hpm : pn = tm := by rcases hpt with e | e; exact absurd e hpn; exact e
                have hkn := key_ne hpn
                subst hpm
                have htm := HTM.out
                have hnz := HA.out.2.2.2.2
                clear hp hpt had
                go_wp2
                go_roundw
                case rel => exact ⟨k + 1, by omega, by go_num, trivial⟩
                case measure => simp [intOf]; omega
            · go_wp2
              go_ret
              exact ⟨rfl, H6.out⟩
      · clear HFU
        have hfn : ¬ f < 0 := by omega
        cases zo
        · have hfz : 5 ≤ f := hfc
          go_wp2_with (first
              | (go_at_call 12
                 have z0 := T1
                 clear z0
                 refine (same7_any zx A1 zl zc n1 c1 z next _ HZ.out.1 HA.out.2.2.2.1 (rd_up2 H4.out H5.out.1) (rd_up HA.out.2.2.1 H5.out.2) (by omega) (by omega)).mono ?_
                 rintro e w6 ⟨rfl, k6, hw6⟩
                 rw [show decide (z = next) = true from HN.out]
                 have H6 := Lib.hid (show Below W.heap.size W w6 from hw6 ▸ below_drewN H5.out.2 k6)
                 have H7 := Lib.hid (show Below w3.heap.size w3 w6 from hw6 ▸ below_drewN H5.out.1 k6)
                 clear hw6 T1)
              | (go_at_call 12
                 have z0 := T0
                 clear z0
                 refine (same7_any zx A0 zl zc n0 c0 z old _ HZ.out.1 HA.out.2.1 H4.out (rd_up HA.out.1 H3.out.2) (by omega) (by omega)).mono ?_
                 rintro e w5 ⟨rfl, k5, hw5⟩
                 rw [show decide (z = old) = false from HO.out]
                 have H5 := Lib.hid (And.intro (show Below w3.heap.size w3 w5 from hw5 ▸ below_drewN (Below.refl _ _) k5) (show Below W.heap.size W w5 from hw5 ▸ below_drewN H3.out.2 k5))
                 have T1 := Lib.hid True.intro
                 clear hw5 T0)
              | (go_at_call 11
                 refine (file_any ib il ic nm left w3 HCR.out.2 H3.out.1 (by omega)).mono ?_
                 rintro e w4 ⟨hfr, hw4⟩
                 rw [HZ.out.2.1] at hfr
                 obtain ⟨zx, zc, rfl, hzr⟩ := hfr
                 have hw5 := hw4.symm
                 subst hw5
                 rw [HZ.out.1]
                 have H4 := Lib.hid hzr
                 clear hzr hw4)
              | (go_at_call 10
                 refine (lv_crash ps Ap np cp H2.out (by omega) (rd_up HP.out.1 H2.out.2.2.1) HP.out.2.1 HP.out.2.2.1 HP.out.2.2.2.1 (by have := HP.out.2.2.2.2; omega)).mono ?_
                 rintro e w3 ⟨us, ib, ic, rfl, hfl, hb3⟩
                 rw [HCR.out.1, HCR.out.2] at hfl
                 rw [HCR.out.1, HCR.out.2]
                 have H3 := Lib.hid (And.intro hfl.im (H2.out.2.2.1.trans (hb3.mono H2.out.2.2.1.size)))
                 clear hfl hb3))
          go_loopw [21] (fun v21 wx => ∃ (k : Nat), k ≤ il ∧ v21 = .int .i64 k ∧ wx = w6) (fun v21 _ => il - (intOf v21).toNat)
          case atStart => exact ⟨0, Nat.zero_le _, rfl, rfl⟩
          case round =>
            obtain ⟨k, hk, rfl, hwx⟩ := hrel
            have HWX := Lib.hid hwx
            subst hwx
            by_cases hkl : k < il
            · have hk0 : (0 : Int) ≤ k := by omega
              have hk1 : (k : Int) < il := by omega
              obtain ⟨p, hp⟩ : ∃ p, left[k]? = some p := ⟨_, List.getElem?_eq_getElem (by rw [HCR.out.2]; exact hkl)⟩
              have hpt := HLW.out.two p (List.mem_of_getElem? hp)
              obtain ⟨ad, x, cx, rfl, had, c0, _, _⟩ := (H3.out.1.below H7.out) k p hp
              obtain ⟨pn, pb⟩ := p
              simp only at hpt c0
              by_cases hpn : pn = nm
              · subst hpn
                clear hp hpt had
                go_wp2
                go_roundw
                case rel => exact ⟨k + 1, by omega, by go_num, trivial⟩
                case measure => simp [intOf]; omega
              · have hpm : pn = tm := by rcases hpt with e | e; exact absurd e hpn; exact e
                have hkn := key_ne hpn
                subst hpm
                have htm := HTM.out
                have hnz := HA.out.2.2.2.2
                clear hp hpt had
                go_wp2
                go_roundw
                case rel => exact ⟨k + 1, by omega, by go_num, trivial⟩
                case measure => simp [intOf]; omega
            · go_wp2
              go_ret
              exact ⟨rfl, H6.out⟩
        · have hfz : 5 ≤ f := hfc
          go_wp2_with (first
              | (go_at_call 12
                 have z0 := T1
                 clear z0
                 refine (same7_any zx A1 zl zc n1 c1 z next _ HZ.out.1 HA.out.2.2.2.1 (rd_up2 H4.out H5.out.1) (rd_up HA.out.2.2.1 H5.out.2) (by omega) (by omega)).mono ?_
                 rintro e w6 ⟨rfl, k6, hw6⟩
                 rw [show decide (z = next) = true from HN.out]
                 have H6 := Lib.hid (show Below W.heap.size W w6 from hw6 ▸ below_drewN H5.out.2 k6)
                 have H7 := Lib.hid (show Below w3.heap.size w3 w6 from hw6 ▸ below_drewN H5.out.1 k6)
                 clear hw6 T1)
              | (go_at_call 12
                 have z0 := T0
                 clear z0
                 refine (same7_any zx A0 zl zc n0 c0 z old _ HZ.out.1 HA.out.2.1 H4.out (rd_up HA.out.1 H3.out.2) (by omega) (by omega)).mono ?_
                 rintro e w5 ⟨rfl, k5, hw5⟩
                 rw [show decide (z = old) = true from HO.out]
                 have H5 := Lib.hid (And.intro (show Below w3.heap.size w3 w5 from hw5 ▸ below_drewN (Below.refl _ _) k5) (show Below W.heap.size W w5 from hw5 ▸ below_drewN H3.out.2 k5))
                 have T1 := Lib.hid True.intro
                 clear hw5 T0)
              | (go_at_call 11
                 refine (file_any ib il ic nm left w3 HCR.out.2 H3.out.1 (by omega)).mono ?_
                 rintro e w4 ⟨hfr, hw4⟩
                 rw [HZ.out.2.1] at hfr
                 obtain ⟨zx, zc, rfl, hzr⟩ := hfr
                 have hw5 := hw4.symm
                 subst hw5
                 rw [HZ.out.1]
                 have H4 := Lib.hid hzr
                 clear hzr hw4)
              | (go_at_call 10
                 refine (lv_crash ps Ap np cp H2.out (by omega) (rd_up HP.out.1 H2.out.2.2.1) HP.out.2.1 HP.out.2.2.1 HP.out.2.2.2.1 (by have := HP.out.2.2.2.2; omega)).mono ?_
                 rintro e w3 ⟨us, ib, ic, rfl, hfl, hb3⟩
                 rw [HCR.out.1, HCR.out.2] at hfl
                 rw [HCR.out.1, HCR.out.2]
                 have H3 := Lib.hid (And.intro hfl.im (H2.out.2.2.1.trans (hb3.mono H2.out.2.2.1.size)))
                 clear hfl hb3))
          go_loopw [21] (fun v21 wx => ∃ (k : Nat), k ≤ il ∧ v21 = .int .i64 k ∧ wx = w6) (fun v21 _ => il - (intOf v21).toNat)
          case atStart => exact ⟨0, Nat.zero_le _, rfl, rfl⟩
          case round =>
            obtain ⟨k, hk, rfl, hwx⟩ := hrel
            have HWX := Lib.hid hwx
            subst hwx
            by_cases hkl : k < il
            · have hk0 : (0 : Int) ≤ k := by omega
              have hk1 : (k : Int) < il := by omega
              obtain ⟨p, hp⟩ : ∃ p, left[k]? = some p := ⟨_, List.getElem?_eq_getElem (by rw [HCR.out.2]; exact hkl)⟩
              have hpt := HLW.out.two p (List.mem_of_getElem? hp)
              obtain ⟨ad, x, cx, rfl, had, c0, _, _⟩ := (H3.out.1.below H7.out) k p hp
              obtain ⟨pn, pb⟩ := p
              simp only at hpt c0
              by_cases hpn : pn = nm
              · subst hpn
                clear hp hpt had
                go_wp2
                go_roundw
                case rel => exact ⟨k + 1, by omega, by go_num, trivial⟩
                case measure => simp [intOf]; omega
              · have hpm : pn = tm := by rcases hpt with e | e; exact absurd e hpn; exact e
                have hkn := key_ne hpn
                subst hpm
                have htm := HTM.out
                have hnz := HA.out.2.2.2.2
                clear hp hpt had
                go_wp2
                go_roundw
                case rel => exact ⟨k + 1, by omega, by go_num, trivial⟩
                case measure => simp [intOf]; omega
            · go_wp2
              go_ret
              exact ⟨rfl, H6.out⟩
    · clear HFU
      cases zn
      · go_wp2_with (first
            | (go_at_call 12
               have z0 := T1
               clear z0
               refine (same7_any zx A1 zl zc n1 c1 z next _ HZ.out.1 HA.out.2.2.2.1 (rd_up2 H4.out H5.out.1) (rd_up HA.out.2.2.1 H5.out.2) (by omega) (by omega)).mono ?_
               rintro e w6 ⟨rfl, k6, hw6⟩
               rw [show decide (z = next) = false from HN.out]
               have H6 := Lib.hid (show Below W.heap.size W w6 from hw6 ▸ below_drewN H5.out.2 k6)
               have H7 := Lib.hid (show Below w3.heap.size w3 w6 from hw6 ▸ below_drewN H5.out.1 k6)
               clear hw6 T1)
            | (go_at_call 12
               have z0 := T0
               clear z0
               refine (same7_any zx A0 zl zc n0 c0 z old _ HZ.out.1 HA.out.2.1 H4.out (rd_up HA.out.1 H3.out.2) (by omega) (by omega)).mono ?_
               rintro e w5 ⟨rfl, k5, hw5⟩
               rw [show decide (z = old) = true from HO.out]
               have H5 := Lib.hid (And.intro (show Below w3.heap.size w3 w5 from hw5 ▸ below_drewN (Below.refl _ _) k5) (show Below W.heap.size W w5 from hw5 ▸ below_drewN H3.out.2 k5))
               have T1 := Lib.hid True.intro
               clear hw5 T0)
            | (go_at_call 11
               refine (file_any ib il ic nm left w3 HCR.out.2 H3.out.1 (by omega)).mono ?_
               rintro e w4 ⟨hfr, hw4⟩
               rw [HZ.out.2.1] at hfr
               obtain ⟨zx, zc, rfl, hzr⟩ := hfr
               have hw5 := hw4.symm
               subst hw5
               rw [HZ.out.1]
               have H4 := Lib.hid hzr
               clear hzr hw4)
            | (go_at_call 10
               refine (lv_crash ps Ap np cp H2.out (by omega) (rd_up HP.out.1 H2.out.2.2.1) HP.out.2.1 HP.out.2.2.1 HP.out.2.2.2.1 (by have := HP.out.2.2.2.2; omega)).mono ?_
               rintro e w3 ⟨us, ib, ic, rfl, hfl, hb3⟩
               rw [HCR.out.1, HCR.out.2] at hfl
               rw [HCR.out.1, HCR.out.2]
               have H3 := Lib.hid (And.intro hfl.im (H2.out.2.2.1.trans (hb3.mono H2.out.2.2.1.size)))
               clear hfl hb3))
        go_loopw [21] (fun v21 wx => ∃ (k : Nat), k ≤ il ∧ v21 = .int .i64 k ∧ wx = w6) (fun v21 _ => il - (intOf v21).toNat)
        case atStart => exact ⟨0, Nat.zero_le _, rfl, rfl⟩
        case round =>
          obtain ⟨k, hk, rfl, hwx⟩ := hrel
          have HWX := Lib.hid hwx
          subst hwx
          by_cases hkl : k < il
          · have hk0 : (0 : Int) ≤ k := by omega
            have hk1 : (k : Int) < il := by omega
            obtain ⟨p, hp⟩ : ∃ p, left[k]? = some p := ⟨_, List.getElem?_eq_getElem (by rw [HCR.out.2]; exact hkl)⟩
            have hpt := HLW.out.two p (List.mem_of_getElem? hp)
            obtain ⟨ad, x, cx, rfl, had, c0, _, _⟩ := (H3.out.1.below H7.out) k p hp
            obtain ⟨pn, pb⟩ := p
            simp only at hpt c0
            by_cases hpn : pn = nm
            · subst hpn
              clear hp hpt had
              go_wp2
              go_roundw
              case rel => exact ⟨k + 1, by omega, by go_num, trivial⟩
              case measure => simp [intOf]; omega
            · have hpm : pn = tm := by rcases hpt with e | e; exact absurd e hpn; exact e
              have hkn := key_ne hpn
              subst hpm
              have htm := HTM.out
              have hnz := HA.out.2.2.2.2
              clear hp hpt had
              go_wp2
              go_roundw
              case rel => exact ⟨k + 1, by omega, by go_num, trivial⟩
              case measure => simp [intOf]; omega
          · go_wp2
            go_ret
            exact ⟨rfl, H6.out⟩
      · go_wp2_with (first
            | (go_at_call 12
               have z0 := T1
               clear z0
               refine (same7_any zx A1 zl zc n1 c1 z next _ HZ.out.1 HA.out.2.2.2.1 (rd_up2 H4.out H5.out.1) (rd_up HA.out.2.2.1 H5.out.2) (by omega) (by omega)).mono ?_
               rintro e w6 ⟨rfl, k6, hw6⟩
               rw [show decide (z = next) = true from HN.out]
               have H6 := Lib.hid (show Below W.heap.size W w6 from hw6 ▸ below_drewN H5.out.2 k6)
               have H7 := Lib.hid (show Below w3.heap.size w3 w6 from hw6 ▸ below_drewN H5.out.1 k6)
               clear hw6 T1)
            | (go_at_call 12
               have z0 := T0
               clear z0
               refine (same7_any zx A0 zl zc n0 c0 z old _ HZ.out.1 HA.out.2.1 H4.out (rd_up HA.out.1 H3.out.2) (by omega) (by omega)).mono ?_
               rintro e w5 ⟨rfl, k5, hw5⟩
               rw [show decide (z = old) = true from HO.out]
               have H5 := Lib.hid (And.intro (show Below w3.heap.size w3 w5 from hw5 ▸ below_drewN (Below.refl _ _) k5) (show Below W.heap.size W w5 from hw5 ▸ below_drewN H3.out.2 k5))
               have T1 := Lib.hid True.intro
               clear hw5 T0)
            | (go_at_call 11
               refine (file_any ib il ic nm left w3 HCR.out.2 H3.out.1 (by omega)).mono ?_
               rintro e w4 ⟨hfr, hw4⟩
               rw [HZ.out.2.1] at hfr
               obtain ⟨zx, zc, rfl, hzr⟩ := hfr
               have hw5 := hw4.symm
               subst hw5
               rw [HZ.out.1]
               have H4 := Lib.hid hzr
               clear hzr hw4)
            | (go_at_call 10
               refine (lv_crash ps Ap np cp H2.out (by omega) (rd_up HP.out.1 H2.out.2.2.1) HP.out.2.1 HP.out.2.2.1 HP.out.2.2.2.1 (by have := HP.out.2.2.2.2; omega)).mono ?_
               rintro e w3 ⟨us, ib, ic, rfl, hfl, hb3⟩
               rw [HCR.out.1, HCR.out.2] at hfl
               rw [HCR.out.1, HCR.out.2]
               have H3 := Lib.hid (And.intro hfl.im (H2.out.2.2.1.trans (hb3.mono H2.out.2.2.1.size)))
               clear hfl hb3))
        go_loopw [21] (fun v21 wx => ∃ (k : Nat), k ≤ il ∧ v21 = .int .i64 k ∧ wx = w6) (fun v21 _ => il - (intOf v21).toNat)
        case atStart => exact ⟨0, Nat.zero_le _, rfl, rfl⟩
        case round =>
          obtain ⟨k, hk, rfl, hwx⟩ := hrel
          have HWX := Lib.hid hwx
          subst hwx
          by_cases hkl : k < il
          · have hk0 : (0 : Int) ≤ k := by omega
            have hk1 : (k : Int) < il := by omega
            obtain ⟨p, hp⟩ : ∃ p, left[k]? = some p := ⟨_, List.getElem?_eq_getElem (by rw [HCR.out.2]; exact hkl)⟩
            have hpt := HLW.out.two p (List.mem_of_getElem? hp)
            obtain ⟨ad, x, cx, rfl, had, c0, _, _⟩ := (H3.out.1.below H7.out) k p hp
            obtain ⟨pn, pb⟩ := p
            simp only at hpt c0
            by_cases hpn : pn = nm
            · subst hpn
              clear hp hpt had
              go_wp2
              go_roundw
              case rel => exact ⟨k + 1, by omega, by go_num, trivial⟩
              case measure => simp [intOf]; omega
            · have hpm : pn = tm := by rcases hpt with e | e; exact absurd e hpn; exact e
              have hkn := key_ne hpn
              subst hpm
              have htm := HTM.out
              have hnz := HA.out.2.2.2.2
              clear hp hpt had
              go_wp2
              go_roundw
              case rel => exact ⟨k + 1, by omega, by go_num, trivial⟩
              case measure => simp [intOf]; omega
          · go_wp2
            go_ret
            exact ⟨rfl, H6.out⟩
    · clear HFU
      cases zo
      · cases zn
        · rcases he2 with e | e <;> cases e
        · go_wp2_with (first
              | (go_at_call 12
                 have z0 := T1
                 clear z0
                 refine (same7_any zx A1 zl zc n1 c1 z next _ HZ.out.1 HA.out.2.2.2.1 (rd_up2 H4.out H5.out.1) (rd_up HA.out.2.2.1 H5.out.2) (by omega) (by omega)).mono ?_
                 rintro e w6 ⟨rfl, k6, hw6⟩
                 rw [show decide (z = next) = true from HN.out]
                 have H6 := Lib.hid (show Below W.heap.size W w6 from hw6 ▸ below_drewN H5.out.2 k6)
                 have H7 := Lib.hid (show Below w3.heap.size w3 w6 from hw6 ▸ below_drewN H5.out.1 k6)
                 clear hw6 T1)
              | (go_at_call 12
                 have z0 := T0
                 clear z0
                 refine (same7_any zx A0 zl zc n0 c0 z old _ HZ.out.1 HA.out.2.1 H4.out (rd_up HA.out.1 H3.out.2) (by omega) (by omega)).mono ?_
                 rintro e w5 ⟨rfl, k5, hw5⟩
                 rw [show decide (z = old) = false from HO.out]
                 have H5 := Lib.hid (And.intro (show Below w3.heap.size w3 w5 from hw5 ▸ below_drewN (Below.refl _ _) k5) (show Below W.heap.size W w5 from hw5 ▸ below_drewN H3.out.2 k5))
                 have T1 := Lib.hid True.intro
                 clear hw5 T0)
              | (go_at_call 11
                 refine (file_any ib il ic nm left w3 HCR.out.2 H3.out.1 (by omega)).mono ?_
                 rintro e w4 ⟨hfr, hw4⟩
                 rw [HZ.out.2.1] at hfr
                 obtain ⟨zx, zc, rfl, hzr⟩ := hfr
                 have hw5 := hw4.symm
                 subst hw5
                 rw [HZ.out.1]
                 have H4 := Lib.hid hzr
                 clear hzr hw4)
              | (go_at_call 10
                 refine (lv_crash ps Ap np cp H2.out (by omega) (rd_up HP.out.1 H2.out.2.2.1) HP.out.2.1 HP.out.2.2.1 HP.out.2.2.2.1 (by have := HP.out.2.2.2.2; omega)).mono ?_
                 rintro e w3 ⟨us, ib, ic, rfl, hfl, hb3⟩
                 rw [HCR.out.1, HCR.out.2] at hfl
                 rw [HCR.out.1, HCR.out.2]
                 have H3 := Lib.hid (And.intro hfl.im (H2.out.2.2.1.trans (hb3.mono H2.out.2.2.1.size)))
                 clear hfl hb3))
          go_loopw [21] (fun v21 wx => ∃ (k : Nat), k ≤ il ∧ v21 = .int .i64 k ∧ wx = w6) (fun v21 _ => il - (intOf v21).toNat)
          case atStart => exact ⟨0, Nat.zero_le _, rfl, rfl⟩
          case round =>
            obtain ⟨k, hk, rfl, hwx⟩ := hrel
            have HWX := Lib.hid hwx
            subst hwx
            by_cases hkl : k < il
            · have hk0 : (0 : Int) ≤ k := by omega
              have hk1 : (k : Int) < il := by omega
              obtain ⟨p, hp⟩ : ∃ p, left[k]? = some p := ⟨_, List.getElem?_eq_getElem (by rw [HCR.out.2]; exact hkl)⟩
              have hpt := HLW.out.two p (List.mem_of_getElem? hp)
              obtain ⟨ad, x, cx, rfl, had, c0, _, _⟩ := (H3.out.1.below H7.out) k p hp
              obtain ⟨pn, pb⟩ := p
              simp only at hpt c0
              by_cases hpn : pn = nm
              · subst hpn
                clear hp hpt had
                go_wp2
                go_roundw
                case rel => exact ⟨k + 1, by omega, by go_num, trivial⟩
                case measure => simp [intOf]; omega
              · have hpm : pn = tm := by rcases hpt with e | e; exact absurd e hpn; exact e
                have hkn := key_ne hpn
                subst hpm
                have htm := HTM.out
                have hnz := HA.out.2.2.2.2
                clear hp hpt had
                go_wp2
                go_roundw
                case rel => exact ⟨k + 1, by omega, by go_num, trivial⟩
                case measure => simp [intOf]; omega
            · go_wp2
              go_ret
              exact ⟨rfl, H6.out⟩
      · cases zn
        · go_wp2_with (first
              | (go_at_call 12
                 have z0 := T1
                 clear z0
                 refine (same7_any zx A1 zl zc n1 c1 z next _ HZ.out.1 HA.out.2.2.2.1 (rd_up2 H4.out H5.out.1) (rd_up HA.out.2.2.1 H5.out.2) (by omega) (by omega)).mono ?_
                 rintro e w6 ⟨rfl, k6, hw6⟩
                 rw [show decide (z = next) = false from HN.out]
                 have H6 := Lib.hid (show Below W.heap.size W w6 from hw6 ▸ below_drewN H5.out.2 k6)
                 have H7 := Lib.hid (show Below w3.heap.size w3 w6 from hw6 ▸ below_drewN H5.out.1 k6)
                 clear hw6 T1)
              | (go_at_call 12
                 have z0 := T0
                 clear z0
                 refine (same7_any zx A0 zl zc n0 c0 z old _ HZ.out.1 HA.out.2.1 H4.out (rd_up HA.out.1 H3.out.2) (by omega) (by omega)).mono ?_
                 rintro e w5 ⟨rfl, k5, hw5⟩
                 rw [show decide (z = old) = true from HO.out]
                 have H5 := Lib.hid (And.intro (show Below w3.heap.size w3 w5 from hw5 ▸ below_drewN (Below.refl _ _) k5) (show Below W.heap.size W w5 from hw5 ▸ below_drewN H3.out.2 k5))
                 have T1 := Lib.hid True.intro
                 clear hw5 T0)
              | (go_at_call 11
                 refine (file_any ib il ic nm left w3 HCR.out.2 H3.out.1 (by omega)).mono ?_
                 rintro e w4 ⟨hfr, hw4⟩
                 rw [HZ.out.2.1] at hfr
                 obtain ⟨zx, zc, rfl, hzr⟩ := hfr
                 have hw5 := hw4.symm
                 subst hw5
                 rw [HZ.out.1]
                 have H4 := Lib.hid hzr
                 clear hzr hw4)
              | (go_at_call 10
                 refine (lv_crash ps Ap np cp H2.out (by omega) (rd_up HP.out.1 H2.out.2.2.1) HP.out.2.1 HP.out.2.2.1 HP.out.2.2.2.1 (by have := HP.out.2.2.2.2; omega)).mono ?_
                 rintro e w3 ⟨us, ib, ic, rfl, hfl, hb3⟩
                 rw [HCR.out.1, HCR.out.2] at hfl
                 rw [HCR.out.1, HCR.out.2]
                 have H3 := Lib.hid (And.intro hfl.im (H2.out.2.2.1.trans (hb3.mono H2.out.2.2.1.size)))
                 clear hfl hb3))
          go_loopw [21] (fun v21 wx => ∃ (k : Nat), k ≤ il ∧ v21 = .int .i64 k ∧ wx = w6) (fun v21 _ => il - (intOf v21).toNat)
          case atStart => exact ⟨0, Nat.zero_le _, rfl, rfl⟩
          case round =>
            obtain ⟨k, hk, rfl, hwx⟩ := hrel
            have HWX := Lib.hid hwx
            subst hwx
            by_cases hkl : k < il
            · have hk0 : (0 : Int) ≤ k := by omega
              have hk1 : (k : Int) < il := by omega
              obtain ⟨p, hp⟩ : ∃ p, left[k]? = some p := ⟨_, List.getElem?_eq_getElem (by rw [HCR.out.2]; exact hkl)⟩
              have hpt := HLW.out.two p (List.mem_of_getElem? hp)
              obtain ⟨ad, x, cx, rfl, had, c0, _, _⟩ := (H3.out.1.below H7.out) k p hp
              obtain ⟨pn, pb⟩ := p
              simp only at hpt c0
              by_cases hpn : pn = nm
              · subst hpn
                clear hp hpt had
                go_wp2
                go_roundw
                case rel => exact ⟨k + 1, by omega, by go_num, trivial⟩
                case measure => simp [intOf]; omega
              · have hpm : pn = tm := by rcases hpt with e | e; exact absurd e hpn; exact e
                have hkn := key_ne hpn
                subst hpm
                have htm := HTM.out
                have hnz := HA.out.2.2.2.2
                clear hp hpt had
                go_wp2
                go_roundw
                case rel => exact ⟨k + 1, by omega, by go_num, trivial⟩
                case measure => simp [intOf]; omega
            · go_wp2
              go_ret
              exact ⟨rfl, H6.out⟩
        · go_wp2_with (first
              | (go_at_call 12
                 have z0 := T1
                 clear z0
                 refine (same7_any zx A1 zl zc n1 c1 z next _ HZ.out.1 HA.out.2.2.2.1 (rd_up2 H4.out H5.out.1) (rd_up HA.out.2.2.1 H5.out.2) (by omega) (by omega)).mono ?_
                 rintro e w6 ⟨rfl, k6, hw6⟩
                 rw [show decide (z = next) = true from HN.out]
                 have H6 := Lib.hid (show Below W.heap.size W w6 from hw6 ▸ below_drewN H5.out.2 k6)
                 have H7 := Lib.hid (show Below w3.heap.size w3 w6 from hw6 ▸ below_drewN H5.out.1 k6)
                 clear hw6 T1)
              | (go_at_call 12
                 have z0 := T0
                 clear z0
                 refine (same7_any zx A0 zl zc n0 c0 z old _ HZ.out.1 HA.out.2.1 H4.out (rd_up HA.out.1 H3.out.2) (by omega) (by omega)).mono ?_
                 rintro e w5 ⟨rfl, k5, hw5⟩
                 rw [show decide (z = old) = true from HO.out]
                 have H5 := Lib.hid (And.intro (show Below w3.heap.size w3 w5 from hw5 ▸ below_drewN (Below.refl _ _) k5) (show Below W.heap.size W w5 from hw5 ▸ below_drewN H3.out.2 k5))
                 have T1 := Lib.hid True.intro
                 clear hw5 T0)
              | (go_at_call 11
                 refine (file_any ib il ic nm left w3 HCR.out.2 H3.out.1 (by omega)).mono ?_
                 rintro e w4 ⟨hfr, hw4⟩
                 rw [HZ.out.2.1] at hfr
                 obtain ⟨zx, zc, rfl, hzr⟩ := hfr
                 have hw5 := hw4.symm
                 subst hw5
                 rw [HZ.out.1]
                 have H4 := Lib.hid hzr
                 clear hzr hw4)
              | (go_at_call 10
                 refine (lv_crash ps Ap np cp H2.out (by omega) (rd_up HP.out.1 H2.out.2.2.1) HP.out.2.1 HP.out.2.2.1 HP.out.2.2.2.1 (by have := HP.out.2.2.2.2; omega)).mono ?_
                 rintro e w3 ⟨us, ib, ic, rfl, hfl, hb3⟩
                 rw [HCR.out.1, HCR.out.2] at hfl
                 rw [HCR.out.1, HCR.out.2]
                 have H3 := Lib.hid (And.intro hfl.im (H2.out.2.2.1.trans (hb3.mono H2.out.2.2.1.size)))
                 clear hfl hb3))
          go_loopw [21] (fun v21 wx => ∃ (k : Nat), k ≤ il ∧ v21 = .int .i64 k ∧ wx = w6) (fun v21 _ => il - (intOf v21).toNat)
          case atStart => exact ⟨0, Nat.zero_le _, rfl, rfl⟩
          case round =>
            obtain ⟨k, hk, rfl, hwx⟩ := hrel
            have HWX := Lib.hid hwx
            subst hwx
            by_cases hkl : k < il
            · have hk0 : (0 : Int) ≤ k := by omega
              have hk1 : (k : Int) < il := by omega
              obtain ⟨p, hp⟩ : ∃ p, left[k]? = some p := ⟨_, List.getElem?_eq_getElem (by rw [HCR.out.2]; exact hkl)⟩
              have hpt := HLW.out.two p (List.mem_of_getElem? hp)
              obtain ⟨ad, x, cx, rfl, had, c0, _, _⟩ := (H3.out.1.below H7.out) k p hp
              obtain ⟨pn, pb⟩ := p
              simp only at hpt c0
              by_cases hpn : pn = nm
              · subst hpn
                clear hp hpt had
                go_wp2
                go_roundw
                case rel => exact ⟨k + 1, by omega, by go_num, trivial⟩
                case measure => simp [intOf]; omega
              · have hpm : pn = tm := by rcases hpt with e | e; exact absurd e hpn; exact e
                have hkn := key_ne hpn
                subst hpm
                have htm := HTM.out
                have hnz := HA.out.2.2.2.2
                clear hp hpt had
                go_wp2
                go_roundw
                case rel => exact ⟨k + 1, by omega, by go_num, trivial⟩
                case measure => simp [intOf]; omega
            · go_wp2
              go_ret
              exact ⟨rfl, H6.out⟩
set_option maxRecDepth 100000 in
set_option maxHeartbeats 32000000 in
theorem whole_bad (nm : ByteArray) (A0 : Option Addr) (n0 c0 : Nat) (old : List UInt8) (A1 : Option Addr) (n1 c1 : Nat) (f : Int) (Ap : Option Addr) (np cp : Nat) (W : World) (h0 : Rd W W.heap.size A0 (bv old)) (hn0 : old.length = n0) (hm0 : n0 ≤ 1048576) (hz : nm.size ≤ 1048576) (hg : goodN nm = false)
    (hW : ∀ w : World, Calls Try.prog 7 #[] w fun e w' => e = .returned (.bool true) ∧ Below w.heap.size w w') :
    Calls Try.prog 3 #[.string nm, .slice A0 n0 c0, .slice A1 n1 c1, .bool true, .int .i64 f, .slice Ap np cp] W fun e w' => e = .returned (.bool true) ∧ Below W.heap.size W w' := by
  have HA := Lib.hid (And.intro h0 (And.intro hn0 (And.intro hz (And.intro hg hW))))
  clear h0 hn0 hz hg hW
  go_enter Try.func3, Try.ntmps3
  go_wp2_with (first
    | (go_at_call 6
       refine (laid_bad nm A0 n0 c0 old W HA.out.1 HA.out.2.1 hm0 (by have := HA.out.2.2.1; unfold maxLen; omega) HA.out.2.2.2.1).mono ?_
       rintro e w0 ⟨rfl, g0⟩
       have H0 := Lib.hid g0
       clear g0)
    | (go_at_call 7
       refine (HA.out.2.2.2.2 _).mono ?_
       rintro e w1 ⟨rfl, g1⟩
       have H1 := Lib.hid (H0.out.trans (g1.mono H0.out.size))
       clear g1))
  go_ret
  exact ⟨rfl, H1.out⟩
end Go.Proofs.Ytebeefkibbbkdaa
