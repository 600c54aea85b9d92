import Derived.Test.YtomkieennkobcaaSa1
/- spoil: an image is written over and appended to: none of its files shows another's. -/
namespace Go.Proofs.Ytomkieennkobcaa
open Go.RowKit Go.Maps

set_option maxRecDepth 100000 in
set_option maxHeartbeats 8000000 in
theorem image_apart (S : Nat → Prop) (d N : Nat) (s : Dk) (w : World) (h : Disk w S d s) (hok : s.Ok) (hsz : s.Sz N 140737488355328) (hN : N ≤ 999999999999) : Calls Try.prog 25 #[.pointer (some ⟨d, 0, none⟩)] w fun e w' => ∃ us b cap, e = .returned (.slice b (imageL s).length cap) ∧ (FLs w' w.heap.size (imageL s) us (.slice b (imageL s).length cap) ∧ Apart us) ∧ Below w.heap.size w w' := by
  obtain ⟨i1, hi1, hz1, hs1, hy1⟩ := info_parts info_file
  obtain ⟨L, fb, ms, mf, vc, hD, hS⟩ := id h
  have hxc := hD.box.cell 0
  obtain ⟨k, hk⟩ : ∃ k, s.seen.length = k := ⟨_, rfl⟩
  have hkl : k ≤ 999999999999 := by have h1 := fold_len s.dchs s.safe; have h2 := hsz.d; unfold Dk.seen at hk; omega
  have H := Lib.hid (And.intro hD (And.intro hok (And.intro hsz hk)))
  clear h hD hS hok hsz hk
  go_enter Try.func25, Try.ntmps25
  go_wp2_with (first
    | (go_at_call 51
       refine (rising_any ms (s.seen.map (bk fb)) _ H.out.1.seen (by rw [List.length_map, H.out.2.2.2]; exact hkl)).mono ?_
       rintro e w5 ⟨bb, bc, rfl, hr5, hb5⟩
       rw [List.length_map, H.out.2.2.2] at hr5 ⊢
       have H5 := Lib.hid (And.intro hr5 hb5)
       clear hr5 hb5))
  go_loopw [3, 15] (fun v3 v15 wx => ∃ (j : Nat) (us : List Value), j ≤ k ∧ v15 = .int .i64 j ∧ (FLs wx w5.heap.size ((imageL s).take j) us v3 ∧ Apart us) ∧ Below w5.heap.size w5 wx) (fun _ i _ => k - (intOf i).toNat)
  case atStart => exact ⟨0, [], Nat.zero_le _, rfl, ⟨FLs.nil _ _, Apart.nil⟩, Below.refl _ _⟩
  case round =>
    obtain ⟨j, us, hj, rfl, ⟨hF, hap⟩, hC⟩ := hrel
    have HAP := Lib.hid hap
    obtain ⟨fb10, fc10, rfl⟩ := row_slice hF.2.1
    have h5z := H5.out.2.size
    have hCz := hC.size
    by_cases hlt : j < k
    · have hjq : j < s.seen.length := by rw [H.out.2.2.2]; exact hlt
      obtain ⟨q, hq⟩ : ∃ q, s.seen[j] = q := ⟨_, rfl⟩
      have hqm : q ∈ s.seen := hq ▸ List.getElem_mem hjq
      have hrn := row_block H5.out.1 (w' := wr) fun b hb => hC.block b (H5.out.1.lt b hb).2
      obtain ⟨ad, rfl, hadl, hac⟩ := (row_rd hrn).one (i := j) (by simpa using hjq)
      have hac' : wr.cell? (ad.add j) = some (.string q.1) := by rw [hac]; simp [← hq, bk]
      have hbw : Below w.heap.size w wr := H5.out.2.trans (hC.mono h5z)
      have hD6 := H.out.1.keep hbw.size fun b hb => hbw.block b (H.out.1.lab b hb)
      have hlook := look_at hD6.seen hqm
      have hx6 := hD6.box.cell 0
      have hkf := H.out.1.seen_ids H.out.2.1 q hqm
      obtain ⟨vs, vf, vcc, us6, hFM⟩ := fl_fm hD6 hkf
      obtain ⟨fk, hfk⟩ : ∃ fk, fb.getD q.2 0 = fk := ⟨_, rfl⟩
      rw [hfk] at hlook hFM
      obtain ⟨sb, sc, rfl⟩ := row_slice hFM.rs
      have hfx := hFM.box.cell 0
      have hfm := fl_mem hkf
      obtain ⟨tl, htl⟩ : ∃ tl, (s.fl q.2).seen.length = tl := ⟨_, rfl⟩
      have htl9 : tl ≤ 140737488355328 := by have := H.out.2.2.1.m _ hfm (s.fl q.2).chs.length; rw [List.take_length] at this; rw [← htl]; exact this
      have hsr := row_rd hFM.rs
      rw [htl] at hfx
      have hj0 : (0 : Int) ≤ j := by omega
      have hj1 : (j : Int) < k := by omega
      obtain ⟨pp, hpp⟩ : ∃ pp, (imageL s).take j = pp := ⟨_, rfl⟩
      have hsn : (imageL s).take (j + 1) = pp ++ [(q.1, (s.fl q.2).seen)] := by
        rw [← hpp, List.take_succ_eq_append_getElem (by simp [imageL]; exact hjq)]
        simp [imageL, hq]
      rw [hpp] at hF ⊢
      obtain ⟨gl, hgl⟩ : ∃ gl, pp.length = gl := ⟨_, rfl⟩
      have hglj : gl = j := by rw [← hgl, ← hpp, List.length_take]; simp [imageL]; omega
      have HQ := Lib.hid (And.intro htl hsr)
      have HF2 := Lib.hid (And.intro hF (And.intro hC (And.intro h5z (And.intro hCz hsn))))
      have HGL := Lib.hid (And.intro hgl hglj)
      have hgl9 : gl ≤ 999999999998 := by omega
      rw [hgl]
      clear hF hap hC hq hqm hrn hac hD6 hFM htl hsr hkf hfm hbw hfk hjq h5z hCz hgl hglj hsn hpp
      go_wp2_with (first
        | (go_at_call 43
           refine (clone_any sb tl sc (s.fl q.2).seen _ (by exact HQ.out.2) HQ.out.1 htl9).mono ?_
           rintro e w6 ⟨b6, c6, rfl, hr6, hb6⟩
           have hA := image_add (n := q.1) HF2.out.1 HF2.out.2.1.size hb6 hr6
           have H6 := Lib.hid hA
           have HAP2 := Lib.hid (HAP.out.add HF2.out.1 hr6)
           clear hr6 hb6 hA)
        | (at_builtin
           refine wpList_app _ rfl (.tmp 19) (.tmp 34) _ rfl w5.heap.size 35 i1 _ 2 40 Try.underlying32 hi1 hz1 hs1 hy1 rfl (by omega) (.slice fb10 gl fc10) gl _ rfl (by have := H6.out.1.2.1; rw [HGL.out.1] at this; exact this) _ _ 1 1 [.string q.1, .slice b6 tl c6] rfl rfl (rd_new _ _ _) (by simp [Value.oneCell']) (by unfold maxLen; omega) (by omega) (by have := H6.out.2.2.2; simp; omega) ?_
           intro v' w8 hown hg8 hor
           have HG := Lib.hid (And.intro hown hg8)
           clear hown hg8 hor))
      go_roundw
      case rel =>
        have hst := image_step (pp := pp) (bs := (s.fl q.2).seen) HF2.out.2.1 HQ.out.1 H6.out.1 H6.out.2.1 H6.out.2.2.1 (by have := HG.out.1; rw [← HGL.out.1] at this; exact this) (by have := HG.out.2; rw [← HGL.out.1] at this; exact this)
        exact ⟨j + 1, us ++ [.slice b6 tl c6], by omega, by go_num, by rw [HF2.out.2.2.2.2]; exact ⟨⟨hst.1, HAP2.out⟩, hst.2⟩⟩
      case measure => simp [intOf]; omega
    · obtain rfl : j = k := by omega
      have hlk : (imageL s).take j = imageL s := by rw [← H.out.2.2.2]; exact List.take_of_length_le (by simp [imageL])
      rw [hlk] at hF ⊢
      have HE := Lib.hid (And.intro hF (H5.out.2.trans (hC.mono h5z)))
      obtain ⟨gl, hgl⟩ : ∃ gl, (imageL s).length = gl := ⟨_, rfl⟩
      rw [hgl]
      have HGL := Lib.hid hgl
      clear hF hap hC hlk hgl
      go_wp2
      go_ret
      rw [HGL.out]
      have hF := HE.out.1
      rw [HGL.out] at hF
      exact ⟨us, _, _, rfl, ⟨hF.mono (by omega), HAP.out⟩, HE.out.2⟩

theorem FLs.at_ {w : World} {base : Nat} {fs : List (ByteArray × List UInt8)} {us : List Value} {b : Option Addr} {n cap : Nat} (h : FLs w base fs us (.slice b n cap)) {i : Nat} {p : ByteArray × List UInt8} {u : Value} (hp : fs[i]? = some p) (hu : us[i]? = some u) :
    ∃ ad : Addr, b = some ad ∧ ad.block < w.heap.size ∧ w.cell? (ad.add (i * 2)) = some (.string p.1) ∧ w.cell? ⟨(ad.add (i * 2)).block, (ad.add (i * 2)).off + 1, none⟩ = some u := by
  obtain ⟨h1, h2, h3⟩ := h
  have hi : i < fs.length := (List.getElem?_eq_some_iff.1 hp).1
  have hz : (fs.zip us)[i]? = some (p, u) := by rw [List.getElem?_zip_eq_some]; exact ⟨hp, hu⟩
  obtain ⟨g1, g2⟩ := flat2 _ _ _ hz
  have hn : 0 < fs.length := by omega
  have hrd : Rd w w.heap.size b ((fs.zip us).flatMap fcell) := by
    obtain ⟨g, cap', e, _, _, ho⟩ := Own.of_row h2 hn
    injection e with e1 _ _
    subst e1
    exact Own.rd_pre (ts := []) (by rw [List.append_nil]; exact ho)
  obtain ⟨ad, rfl, hb, c0⟩ := hrd _ _ g1
  obtain ⟨ad', e, _, c1⟩ := hrd _ _ g2
  cases e
  rw [← add_add'] at c1
  exact ⟨ad, rfl, hb, c0, c1⟩
def cB (j : Nat) : UInt8 := UInt8.ofNat (j % 100 + 1)
theorem cB_val (j : Nat) : ((cB j).toNat : Int) = (j % 100 : Nat) + 1 := by
  have : j % 100 < 100 := Nat.mod_lt _ (by decide)
  simp [cB]
  omega
theorem u8_lt (j : Nat) : j % 100 + 1 < 256 := by have : j % 100 < 100 := Nat.mod_lt _ (by decide); omega
/-- The first i files are written over. -/
def Paint (n S0 i : Nat) (fs : List (ByteArray × List UInt8)) : Prop := fs.length = n ∧ sumL fs = S0 ∧ ∀ (j : Nat) (p : ByteArray × List UInt8), j < i → fs[j]? = some p → ∀ x ∈ p.2, x = cB j
theorem sumL_ge {p : ByteArray × List UInt8} : ∀ {fs : List (ByteArray × List UInt8)} {i : Nat}, fs[i]? = some p → p.2.length ≤ sumL fs
  | [], i, h => by simp at h
  | q :: r, 0, h => by
    simp at h
    subst h
    simp [sumL]
  | q :: r, i + 1, h => by
    have := sumL_ge (fs := r) (i := i) (by simpa using h)
    simp only [sumL, List.map_cons, List.sum_cons] at this ⊢
    omega
theorem sumL_set {p : ByteArray × List UInt8} {y : List UInt8} (hl : y.length = p.2.length) : ∀ {fs : List (ByteArray × List UInt8)} {i : Nat}, fs[i]? = some p → sumL (fs.set i (p.1, y)) = sumL fs
  | [], i, h => by simp at h
  | q :: r, 0, h => by
    simp at h
    subst h
    simp [sumL, hl]
  | q :: r, i + 1, h => by
    have := sumL_set hl (fs := r) (i := i) (by simpa using h)
    simp only [sumL, List.set_cons_succ, List.map_cons, List.sum_cons] at this ⊢
    omega
theorem Paint.set {n S0 i : Nat} {fs : List (ByteArray × List UInt8)} (h : Paint n S0 i fs) {p : ByteArray × List UInt8} (hp : fs[i]? = some p) {y : List UInt8} (hl : y.length = p.2.length) : Paint n S0 i (fs.set i (p.1, y)) := by
  refine ⟨by rw [List.length_set]; exact h.1, by rw [sumL_set hl hp]; exact h.2.1, fun j q hj hq => ?_⟩
  rw [List.getElem?_set_ne (by omega)] at hq
  exact h.2.2 j q hj hq
theorem Paint.up {n S0 i m : Nat} {fs : List (ByteArray × List UInt8)} (h : Paint n S0 i fs) {p : ByteArray × List UInt8} (hp : fs[i]? = some p) (hl : p.2.length = m) (ha : ∀ q, q < m → p.2[q]? = some (cB i)) : Paint n S0 (i + 1) fs := by
  refine ⟨h.1, h.2.1, fun j q hj hq => ?_⟩
  rcases Nat.lt_or_ge j i with hji | hji
  · exact h.2.2 j q hji hq
  · obtain rfl : j = i := by omega
    rw [hp] at hq
    injection hq with hq
    subst hq
    intro x hx
    obtain ⟨k, hk, rfl⟩ := List.getElem_of_mem hx
    have := ha k (by omega)
    rw [List.getElem?_eq_getElem hk] at this
    injection this
set_option maxRecDepth 100000 in
set_option maxHeartbeats 16000000 in
theorem spoil_any (b : Option Addr) (n cap base S0 : Nat) (fs : List (ByteArray × List UInt8)) (us : List Value) (w : World) (h : FLs w base fs us (.slice b n cap)) (hA : Apart us) (hn : fs.length = n) (hS : sumL fs = S0) (hS0 : S0 ≤ 1073741824) (hbase : base ≤ w.heap.size) (hmx : n ≤ 999999999999) :
    Calls Try.prog 30 #[.slice b n cap] w fun e w' => e = .returned (.bool true) ∧ Below base w w' := by
  obtain ⟨i1, hi1, hz1, hs1, hy1⟩ := info_parts info_u8
  have H := Lib.hid (And.intro h (And.intro hA (And.intro hn (And.intro hS hbase))))
  clear h hA hn hS hbase
  go_enter Try.func30, Try.ntmps30
  go_wp2
  go_loopw [3] (fun i3 wr => ∃ (i : Nat) (fs1 : List (ByteArray × List UInt8)), i ≤ n ∧ i3 = .int .i64 i ∧ FLs wr base fs1 us (.slice b n cap) ∧ Below base w wr ∧ Paint n S0 i fs1) (fun i3 _ => n - (intOf i3).toNat)
  case atStart => exact ⟨0, fs, Nat.zero_le _, rfl, H.out.1, Below.refl _ _, H.out.2.2.1, H.out.2.2.2.1, fun j p hj => by omega⟩
  case round =>
    obtain ⟨i, fs1, hi, rfl, hF, hB, hP⟩ := hrel
    by_cases hlt : i < n
    · have hi0 : (0 : Int) ≤ i := by omega
      have hi1' : (i : Int) < n := by omega
      obtain ⟨p, hp⟩ : ∃ p, fs1[i]? = some p := ⟨_, List.getElem?_eq_getElem (by rw [hP.1]; exact hlt)⟩
      obtain ⟨u, hu⟩ : ∃ u, us[i]? = some u := ⟨_, List.getElem?_eq_getElem (by rw [hF.1, hP.1]; exact hlt)⟩
      obtain ⟨bx, cx, hue, hrow⟩ := hF.2.2 i p u hp hu
      obtain ⟨m, hm⟩ : ∃ m, p.2.length = m := ⟨_, rfl⟩
      have hmS : m ≤ 1073741824 := by have := sumL_ge hp; have := hP.2.1; omega
      rw [hm] at hue
      subst hue
      obtain ⟨r, hr⟩ : ∃ r, i % 100 = r := ⟨_, rfl⟩
      have hr100 : r < 100 := by omega
      have HR := Lib.hid hr
      have HU := Lib.hid hu
      have hm1 : (i : Int).tmod 100 = (r : Int) := by rw [← hr]; rfl
      have HF1 := Lib.hid (And.intro hF (And.intro hB (And.intro hP (And.intro hp hm))))
      clear hF hB hP hp hu hrow hm hr
      go_wp2
      go_loopw [4] (fun i4 wx => ∃ (k : Nat) (fs2 : List (ByteArray × List UInt8)) (p2 : ByteArray × List UInt8), k ≤ m ∧ i4 = .int .i64 k ∧ FLs wx base fs2 us (.slice b n cap) ∧ Below base w wx ∧ Paint n S0 i fs2 ∧ fs2[i]? = some p2 ∧ p2.2.length = m ∧ ∀ q, q < k → p2.2[q]? = some (cB i)) (fun i4 _ => m - (intOf i4).toNat)
      case atStart => exact ⟨0, fs1, p, Nat.zero_le _, rfl, HF1.out.1, HF1.out.2.1, HF1.out.2.2.1, HF1.out.2.2.2.1, HF1.out.2.2.2.2, fun q hq => by omega⟩
      case round =>
        obtain ⟨k, fs2, p2, hk, rfl, hF, hB, hP, hp2, hm2, hq2⟩ := hrel
        obtain ⟨ad, rfl, hadl, ca0, ca1⟩ := hF.at_ hp2 HU.out
        by_cases hkm : k < m
        · have hk0 : (0 : Int) ≤ k := by omega
          have hk1 : (k : Int) < m := by omega
          obtain ⟨g, c, hug, hgb, hgl, hmc, ⟨u0, hu0⟩, hfr, hF2⟩ := hF.paint H.out.2.1 hp2 (show k < p2.2.length by rw [hm2]; exact hkm) (cB i)
          rw [HU.out, hm2] at hug
          injection hug with hug
          injection hug with e1 _ e2
          subst e1 e2
          have hv := cB_val i
          rw [HR.out] at hv
          rw [hv] at hF2
          have H2 := Lib.hid (And.intro hF2 (And.intro (hB.setCell (p := ⟨g, k, none⟩) hgb (.int .u8 ((r : Nat) + 1))) (And.intro (hP.set hp2 (y := p2.2.set k (cB i)) (by simp)) (And.intro hp2 (And.intro hm2 hq2)))))
          clear hF hB hP hp2 hm2 hq2 hF2 hv
          go_wp2
          go_roundw
          case rel =>
            refine ⟨k + 1, _, (p2.1, p2.2.set k (cB i)), by omega, by go_num, H2.out.1, H2.out.2.1, H2.out.2.2.1, ?_, by simpa using H2.out.2.2.2.2.1, fun q hq => ?_⟩
            · rw [List.getElem?_set_self (List.getElem?_eq_some_iff.1 H2.out.2.2.2.1).1]
            · rcases Nat.lt_or_ge q k with h1 | h1
              · rw [List.getElem?_set_ne (by omega)]; exact H2.out.2.2.2.2.2 q h1
              · obtain rfl : q = k := by omega
                rw [List.getElem?_set_self (by rw [H2.out.2.2.2.2.1]; exact hkm)]
          case measure => simp [intOf]; omega
        · obtain rfl : k = m := by omega
          have H2 := Lib.hid (And.intro hF (And.intro hB (hP.up hp2 hm2 hq2)))
          clear hF hB hP hp2 hm2 hq2
          go_wp2
          go_roundw
          case rel => exact ⟨i + 1, fs2, by omega, by go_num, H2.out.1, H2.out.2.1, H2.out.2.2⟩
          case measure => simp [intOf]; omega
    · have hin : n = i := by omega
      subst hin
      have HF1 := Lib.hid (And.intro hF (And.intro hB hP))
      clear hF hB hP
      go_wp2
      go_loopw [5, 6] (fun i5 i6 wy => ∃ (i t : Nat), i ≤ n ∧ i6 = .int .i64 i ∧ i5 = .int .i64 t ∧ t = sumL (fs1.take i) + 64 * i ∧ FLs wy base fs1 us (.slice b n cap) ∧ Below base w wy) (fun _ i6 _ => n - (intOf i6).toNat)
      case atStart => exact ⟨0, 0, Nat.zero_le _, rfl, rfl, by simp [sumL], HF1.out.1, HF1.out.2.1⟩
      case round =>
        obtain ⟨i, t, hi, rfl, rfl, ht, hF, hB⟩ := hrel
        have hsl := sumL_take fs1 i
        have hs0 := HF1.out.2.2.2.1
        have ht9 : t ≤ 1073741824 + 64 * i := by omega
        clear hsl
        by_cases hlt : i < n
        · have hi0 : (0 : Int) ≤ i := by omega
          have hi1' : (i : Int) < n := by omega
          have hil : i < fs1.length := by rw [HF1.out.2.2.1]; exact hlt
          obtain ⟨p, hp⟩ : ∃ p, fs1[i]? = some p := ⟨_, List.getElem?_eq_getElem hil⟩
          obtain ⟨u, hu⟩ : ∃ u, us[i]? = some u := ⟨_, List.getElem?_eq_getElem (by rw [hF.1]; exact hil)⟩
          obtain ⟨bx, cx, hue, hrow⟩ := hF.2.2 i p u hp hu
          obtain ⟨m, hm⟩ : ∃ m, p.2.length = m := ⟨_, rfl⟩
          have hmS : m ≤ 1073741824 := by have := sumL_ge hp; omega
          have hst : sumL (fs1.take (i + 1)) = sumL (fs1.take i) + m := by
            have e : p = fs1[i] := by rw [List.getElem?_eq_getElem hil] at hp; injection hp with hp; exact hp.symm
            rw [List.take_succ_eq_append_getElem hil, sumL_snoc, ← e, hm]
          rw [hm] at hue
          subst hue
          obtain ⟨ad, rfl, hadl, ca0, ca1⟩ := hF.at_ hp hu
          obtain ⟨r, hr⟩ : ∃ r, i % 100 = r := ⟨_, rfl⟩
          have hr100 : r < 100 := by omega
          have hm1 : (i : Int).tmod 100 = (r : Int) := by rw [← hr]; rfl
          have HU := Lib.hid (And.intro hu (And.intro hp (And.intro hm (And.intro hst ht))))
          have HF3 := Lib.hid (And.intro hF (And.intro hB hrow))
          clear hF hB hrow hu hp hm hr hst ht hil hs0
          go_wp2
          go_loopw [7, 8] (fun v7 i8 wx => ∃ (k : Nat) (xs : List Value), k ≤ 64 ∧ i8 = .int .i64 k ∧ wx.ownsRow base 5 1 v7 (m + k) xs ∧ FLs wx base fs1 us (.slice (some ad) n cap) ∧ Below base w wx ∧ (∀ (j : Nat) (u : Value), us[j]? = some u → j ≠ i → ∀ q, u.ownBlock = some q → v7.ownBlock ≠ some q)) (fun _ i8 _ => 64 - (intOf i8).toNat)
          case atStart => exact ⟨0, bv p.2, Nat.zero_le _, rfl, by have := HF3.out.2.2; rw [HU.out.2.2.1] at this; exact this, HF3.out.1, HF3.out.2.1, fun j u hj hji q hq => H.out.2.1 j i u _ hj HU.out.1 hji q hq⟩
          case round =>
            obtain ⟨k, xs, hk, rfl, hR, hF, hB, hO⟩ := hrel
            obtain ⟨rb, rc, rfl⟩ := row_slice hR
            have hbw : base ≤ wr.heap.size := Nat.le_trans H.out.2.2.2.2 hB.size
            have HR := Lib.hid (And.intro hR (And.intro hF (And.intro hB (And.intro hO hbw))))
            clear hR hF hB hO
            by_cases hk64 : k < 64
            · have hb2 : m + k + 1 ≤ 140737488351232 := by omega
              go_wp2_with (first
                | (at_builtin
                   refine wpList_app_keep rfl (.tmp 53) (.tmp 58) _ rfl base 5 i1 _ Try.underlying22 hi1 hz1 hs1 hy1 rfl (.slice rb (m + k) rc) (m + k) xs rfl (HR.out.1.alloc _) _ _ 1 1 _ rfl rfl (rd_new _ _ _) (by simp [Value.oneCell']) (by unfold maxLen; omega) (by omega) (by have := HR.out.2.2.2.2; simp <;> omega) ?_
                   intro v' w8 hown hg8 hor hkp
                   have HG := Lib.hid (And.intro hown (And.intro hg8 (And.intro hor hkp)))
                   clear hown hg8 hor hkp))
              go_roundw
              case rel =>
                have hFa := HR.out.2.1.keep (w' := wr.alloc (.cells #[.int .u8 ((r : Int) + 101)] 5)) fun q _ h2 => Below.heap_alloc _ _ _ h2
                have hRa := HR.out.1.alloc (.cells #[.int .u8 ((r : Int) + 101)] 5)
                have hBa := HR.out.2.2.1.alloc HR.out.2.2.2.2 (.cells #[.int .u8 ((r : Int) + 101)] 5)
                refine ⟨k + 1, _, by omega, by go_num, HG.out.1, hFa.kept (n := m + k) HG.out.2.1 HG.out.2.2.2 hRa (fun j p2 u2 hp2 hu2 e => ?_), hBa.grown HG.out.2.1 (by have := HR.out.2.2.2.2; simp <;> omega) (fun j e => (hRa.lt j e).1), fun j u2 hj hji q hq hv => ?_⟩
                · by_cases hji : j = i
                  · subst hji
                    rw [HU.out.2.1] at hp2
                    injection hp2 with hp2
                    rw [← hp2, HU.out.2.2.1]
                    omega
                  · cases hub : u2.ownBlock with
                    | none =>
                      obtain ⟨b2, c2, he2, hr2⟩ := HR.out.2.1.2.2 j p2 u2 hp2 hu2
                      rcases hr2.2 with ⟨_, h0⟩ | ⟨g2, cap2, cur2, hv2, _⟩
                      · omega
                      · rw [hv2] at hub; cases hub
                    | some q => exact absurd (e.symm.trans hub) (HR.out.2.2.2.1 j u2 hu2 hji q hub)
                · rcases HG.out.2.2.1 with h1 | h1
                  · rw [h1] at hv; exact HR.out.2.2.2.1 j u2 hj hji q hq hv
                  · rw [h1] at hv
                    injection hv with hv
                    have hjl : j < fs1.length := by rw [← HR.out.2.1.1]; exact (List.getElem?_eq_some_iff.1 hj).1
                    obtain ⟨b2, c2, _, hr2⟩ := HR.out.2.1.2.2 j _ u2 (List.getElem?_eq_getElem hjl) hj
                    have := (hr2.lt q hq).2
                    simp at hv
                    omega
              case measure => simp [intOf]; omega
            · obtain rfl : k = 64 := by omega
              have hti : t + (m + 64) ≤ 9000000000000000 := by omega
              go_wp2
              go_roundw
              case rel => exact ⟨i + 1, t + (m + 64), by omega, by go_num, by go_num, by rw [HU.out.2.2.2.1, HU.out.2.2.2.2]; omega, HR.out.2.1, HR.out.2.2.1⟩
              case measure => simp [intOf]; omega
        · have hin : n = i := by omega
          subst hin
          have HF4 := Lib.hid (And.intro hF (And.intro hB ht))
          have ht64 : 64 * (n : Int) ≤ t := by omega
          obtain ⟨w2, hw2⟩ : ∃ w2, wr = w2 := ⟨_, rfl⟩
          rw [hw2] at HF4 ⊢
          clear hF hB ht hs0 hw2
          go_wp2
          go_loopw [9] (fun i9 wy => ∃ i : Nat, i ≤ n ∧ i9 = .int .i64 i ∧ wy = w2) (fun i9 _ => n - (intOf i9).toNat)
          case atStart => exact ⟨0, Nat.zero_le _, rfl, rfl⟩
          case round =>
            obtain ⟨i, hi, rfl, hwy⟩ := hrel
            subst hwy
            by_cases hlt : i < n
            · have hi0 : (0 : Int) ≤ i := by omega
              have hi1' : (i : Int) < n := by omega
              have hil : i < fs1.length := by rw [HF1.out.2.2.1]; exact hlt
              obtain ⟨p, hp⟩ : ∃ p, fs1[i]? = some p := ⟨_, List.getElem?_eq_getElem hil⟩
              obtain ⟨u, hu⟩ : ∃ u, us[i]? = some u := ⟨_, List.getElem?_eq_getElem (by rw [HF4.out.1.1]; exact hil)⟩
              obtain ⟨bx, cx, hue, hrow⟩ := HF4.out.1.2.2 i p u hp hu
              obtain ⟨m, hm⟩ : ∃ m, p.2.length = m := ⟨_, rfl⟩
              have hmS : m ≤ 1073741824 := by have := sumL_ge hp; have := HF1.out.2.2.2.1; omega
              rw [hm] at hue hrow
              subst hue
              obtain ⟨ad, rfl, hadl, ca0, ca1⟩ := HF4.out.1.at_ hp hu
              obtain ⟨r, hr⟩ : ∃ r, i % 100 = r := ⟨_, rfl⟩
              have hr100 : r < 100 := by omega
              have hm1 : (i : Int).tmod 100 = (r : Int) := by rw [← hr]; rfl
              have HU := Lib.hid (And.intro (row_rd hrow) (And.intro hm (And.intro (HF1.out.2.2.2.2 i p hlt hp) hr)))
              clear hu hp hm hr hrow hil
              go_wp2
              go_loopw [10] (fun i10 wx => ∃ k : Nat, k ≤ m ∧ i10 = .int .i64 k ∧ wx = wr) (fun i10 _ => m - (intOf i10).toNat)
              case atStart => exact ⟨0, Nat.zero_le _, rfl, rfl⟩
              case round =>
                obtain ⟨k, hk, rfl, hwx⟩ := hrel
                subst hwx
                by_cases hkm : k < m
                · have hk0 : (0 : Int) ≤ k := by omega
                  have hk1 : (k : Int) < m := by omega
                  have hkl : k < p.2.length := by rw [HU.out.2.1]; exact hkm
                  obtain ⟨ad2, rfl, _, hce⟩ := HU.out.1 k _ (bv_get hkl)
                  rw [HU.out.2.2.1 _ (List.getElem_mem hkl)] at hce
                  have hv := cB_val i
                  rw [HU.out.2.2.2] at hv
                  rw [hv] at hce
                  clear hv hkl
                  go_wp2
                  go_roundw
                  case rel => exact ⟨k + 1, by omega, by go_num, trivial⟩
                  case measure => simp [intOf]; omega
                · have hkm2 : m = k := by omega
                  subst hkm2
                  go_wp2
                  go_roundw
                  case rel => exact ⟨i + 1, by omega, by go_num, trivial⟩
                  case measure => simp [intOf]; omega
            · have hin : n = i := by omega
              subst hin
              have hn64 : 64 * n ≤ 9000000000000000 := by omega
              go_wp2
              go_ret
              exact ⟨by first | rfl | (simp; omega), HF4.out.2.1⟩
end Go.Proofs.Ytomkieennkobcaa
