import Derived.Test.YtifimeohdgnehaaHof6
namespace Go.Proofs.Ytifimeohdgnehaa
open Go.RowKit Go.Maps

/-- The place that was met last. -/
def prevI (I : List Nat) : Nat → Int
  | 0 => -1
  | q + 1 => I.getD q 0
theorem prevI_lt {I : List Nat} (h : I.Pairwise (· < ·)) {q : Nat} (hq : q < I.length) : prevI I q < I[q] := by
  cases q with
  | zero => show (-1 : Int) < _; omega
  | succ q =>
    have hq' : q < I.length := by omega
    have h1 := List.pairwise_iff_getElem.1 h q (q + 1) hq' hq (by omega)
    show ((I.getD q 0 : Nat) : Int) < _
    have : I.getD q 0 = I[q] := by simp [hq']
    rw [this]; omega
theorem hof_get {l : List PL} {n : Nat} {E : List HE} (hE : hofE l n = E) {q : Nat} (hq : q < E.length) : ∃ i, ∃ h : q < (ixs l n n).length, (ixs l n n)[q] = i ∧ i < n ∧ lastI l n i ∧ E[q] = ent (pth l i) := by
  subst hE
  have h : q < (ixs l n n).length := by simpa [hofE] using hq
  obtain ⟨h1, h2⟩ := ixs_mem.1 (List.getElem_mem h)
  exact ⟨_, h, rfl, h1, h2, by simp [hofE]⟩

set_option maxRecDepth 100000 in
set_option maxHeartbeats 16000000 in
theorem hintKeys_any (seg size : Int) (A : Option Addr) (n c : Nat) (l : List PL) (w : World) (hA : Rd w w.heap.size A (l.flatMap nine)) (hn : l.length = n) (hmx : n ≤ 1599289640354) (hk : KeyOk l) :
    Calls Try.prog 6 #[.int .i64 seg, .int .i64 size, .slice A n c] w fun ee w' => ee = .returned (.bool true) ∧ Below w.heap.size w w' := by
  obtain ⟨i0, hi0, hz0, hs0, hy0⟩ := info_parts info_pl
  have hmn := hofE_le l n
  generalize hE : hofE l n = E at hmn
  generalize hm : E.length = m at hmn
  have HE := Lib.hid hE
  have HM := Lib.hid hm
  have HK := Lib.hid hk
  have Hn := Lib.hid hn
  have hb0 : Below w.heap.size w (w.alloc (.cells #[] 45)) := Below.al _ _
  have HA0 := Lib.hid (And.intro (hA.below hb0) hb0)
  have HA := Lib.hid hA
  clear hA hn hE hm hk hb0
  go_enter Try.func6, Try.ntmps6
  go_wp2_with (first
    | (at_builtin
       refine wpList_app _ rfl (.tmp 19) (.tmp 20) _ rfl w.heap.size 45 i0 _ 9 88 Try.underlying39 hi0 hz0 hs0 hy0 rfl (by omega) (.slice (some ⟨w.heap.size, 0, none⟩) 0 0) 0 [] rfl (own_empty w _ _ _ (Nat.le_refl _)) _ A n c (l.flatMap nine) rfl (by rw [nine_len, Hn.out]) HA0.out.1 (one_nine _) (by unfold maxLen; omega) (by omega) (by simp) ?_
       intro v1 w1 hown hg _
       rw [Nat.zero_add, List.nil_append] at hown
       obtain ⟨bx, cx, rfl⟩ := ownsRow_slice hown
       have RX := Lib.hid (PR.mk' hown Hn.out)
       have BL := Lib.hid (HA0.out.2.grown hg (by simp) (fun k hk => by simp [Value.ownBlock] at hk; omega))
       clear hown hg HA0)
    | (go_at_call 16
       refine (octOf seg size bx n cx m l E _ HE.out HM.out RX.out.rd Hn.out hmx HK.out.at_).mono ?_
       rintro e w2 ⟨bh, ch, rfl, hr2, hb2⟩
       unfold hV
       have BL2 := Below.next (Below.next BL.out hb2) (Below.al w2 (.cells #[.int .i64 seg, .int .i64 size, .slice bh m ch] 24))
       have RE2 := (hr2.rd.below (Below.al w2 (.cells #[.int .i64 seg, .int .i64 size, .slice bh m ch] 24))).mono (by omega : w2.heap.size ≤ w2.heap.size + 1)
       have HX2 := Box.new w2 24 #[.int .i64 seg, .int .i64 size, .slice bh m ch]
       obtain ⟨W2, hW2⟩ : ∃ W2, W2 = w2.alloc (.cells #[.int .i64 seg, .int .i64 size, .slice bh m ch] 24) := ⟨_, rfl⟩
       have hsz : W2.heap.size = w2.heap.size + 1 := by rw [hW2, World.size_alloc]
       rw [← hW2] at BL2 RE2 HX2
       rw [← hsz] at RE2
       have HB := Lib.hid (And.intro BL2 (And.intro RE2 (And.intro HX2 ((HA.out.below BL2).mono BL2.size))))
       have HW2 := Lib.hid hW2
       clear hr2 hb2 RX BL BL2 RE2 HX2 hW2))
  have hsw := HB.out.1.size
  go_loopw [8, 9] (fun av iv wr => ∃ q : Nat, q ≤ m ∧ iv = .int .i64 q ∧ av = .int .i64 (prevI (ixs l n n) q) ∧ Below W2.heap.size W2 wr) (fun _ iv _ => m - (intOf iv).toNat)
  case atStart => exact ⟨0, Nat.zero_le _, rfl, rfl, by rw [HW2.out]; exact Below.refl _ _⟩
  case round =>
    obtain ⟨q, hq, rfl, rfl, hb⟩ := hrel
    have hx := HB.out.2.2.1.below hb (by omega)
    have hxc := hx.cell
    have hxl := hx.lt
    have hws := hb.size
    have HBB := Lib.hid hb
    by_cases hqm : q < m
    · have hqE : q < E.length := by rw [HM.out]; exact hqm
      obtain ⟨i, hqi, hiq, hin, hil, hEq⟩ := hof_get HE.out hqE
      have hlt := prevI_lt (ixs_lt l n n) hqi
      rw [hiq] at hlt
      obtain ⟨ad, rfl, _, p0, p1, p2, p3, p4, p5⟩ := (HB.out.2.1.below hb).six_ hqE
      rw [hEq] at p0 p1 p2 p3 p4 p5
      simp only [ent] at p0 p1 p2 p3 p4 p5
      have HQ := Lib.hid (show prevI (ixs l n n) (q + 1) = i by show (((ixs l n n).getD q 0 : Nat) : Int) = i; simp [hqi, hiq])
      generalize prevI (ixs l n n) q = pv at hlt
      have hpv : ¬ (i : Int) ≤ pv := by omega
      have HIL := Lib.hid hil
      obtain ⟨wy, hwy⟩ : ∃ wy, wy = wr := ⟨wr, rfl⟩
      subst hwy
      clear hb hx hqi hiq hEq hil hlt
      go_wp2
      go_loopw [11, 12] (fun lv kv wx => ∃ (j : Nat) (x : Int), j ≤ n ∧ kv = .int .i64 j ∧ lv = .int .i64 x ∧ (i < j → x = i) ∧ Below (wy.heap.size + 1) (wy.alloc (.cells (six (ent (pth l i))).toArray 33)) wx) (fun _ kv _ => n - (intOf kv).toNat)
      case atStart => exact ⟨0, -1, Nat.zero_le _, rfl, rfl, by omega, Below.refl _ _⟩
      case round =>
        clear p0 p1 p2 p3 p4 p5 hxc
        obtain ⟨j, x, hj, rfl, rfl, hxi, hbx⟩ := hrel
        have hb2 : Below W2.heap.size W2 wr := (HBB.out.alloc hws _).trans (hbx.mono (by omega))
        have hx2 := HB.out.2.2.1.below hb2 (by omega)
        have hxc := hx2.cell
        have hxl := hx2.lt
        have he2 := (Box.new wy 33 (six (ent (pth l i))).toArray).below hbx (Nat.lt_succ_self _)
        have hec : ∀ k, wr.cell? ⟨wy.heap.size, k, none⟩ = (#[.string (pth l i).key, .int .i64 (pth l i).off, .int .i64 (pth l i).time, .bool ((pth l i).kind == 2), .int .i64 (pth l i).pos, .int .i64 (pth l i).len] : Array Value)[k]? := he2.cell
        have hel := he2.lt
        have HX := Lib.hid (And.intro hb2 hbx)
        have HXI := Lib.hid hxi
        clear hx2 he2 hxi
        by_cases hjn : j < n
        · have hjl : j < l.length := by rw [Hn.out]; exact hjn
          obtain ⟨ae, rfl, _, _, _, _, _, _, q5, _, _, _⟩ := (HB.out.2.2.2.below hb2).nine_ hjl
          rw [← pth_eq hjl] at q5
          have hj0 : (0 : Int) ≤ j := by omega
          have hj1 : (j : Int) < n := by omega
          clear hb2 hbx
          by_cases hkey : (pth l j).key = (pth l i).key
          · rw [hkey] at q5
            have HKY := Lib.hid hkey
            clear hkey
            go_wp2
            go_quiet (fail)
            go_wp2
            go_roundw
            case rel =>
              refine ⟨j + 1, (j : Int), by omega, by go_num, rfl, fun hij => ?_, below_drewN HX.out.2 _⟩
              by_cases he : i = j
              · rw [he]
              · exact absurd HKY.out (HIL.out j (by omega) hjn)
            case measure => simp [intOf]; omega
          · have hkf := key_ne hkey
            have HKY := Lib.hid hkey
            clear hkey
            go_wp2
            go_quiet (fail)
            go_wp2
            go_roundw
            case rel =>
              refine ⟨j + 1, x, by omega, by go_num, rfl, fun hij => ?_, below_drewN HX.out.2 _⟩
              by_cases he : i = j
              · exact absurd (by rw [he]) HKY.out
              · exact HXI.out (by omega)
            case measure => simp [intOf]; omega
        · have hxe : x = i := HXI.out (by omega)
          subst hxe
          have hil2 : i < l.length := by rw [Hn.out]; exact hin
          obtain ⟨ae, rfl, _, q0, q1, q2, q3, q4, q5, q6, q7, q8⟩ := (HB.out.2.2.2.below hb2).nine_ hil2
          rw [← pth_eq hil2] at q0 q1 q2 q3 q4 q5 q6 q7 q8
          have hi0 : (0 : Int) ≤ i := by omega
          have hi1 : (i : Int) < n := by omega
          have hsz2 := hb2.size
          clear hb2 hbx hil2
          go_wp2
          go_roundw
          case rel => exact ⟨q + 1, by omega, by go_num, by rw [HQ.out], HX.out.1.alloc hsz2 _⟩
          case measure => simp [intOf]; omega
    · have hIM : (ixs l n n).length = m := by rw [← HM.out, ← HE.out]; simp [hofE]
      have HIM := Lib.hid hIM
      clear hb hx hIM
      go_wp2
      go_loopw [14] (fun kv wx => ∃ k : Nat, k ≤ n ∧ kv = .int .i64 k ∧ Below W2.heap.size W2 wx) (fun kv _ => n - (intOf kv).toNat)
      case atStart => exact ⟨0, Nat.zero_le _, rfl, HBB.out⟩
      case round =>
        clear HBB hxc hxl hws
        obtain ⟨k, hk, rfl, hb⟩ := hrel
        by_cases hkn : k < n
        · obtain ⟨i, hin, hil, hik⟩ := last_of (l := l) hkn
          obtain ⟨u, hu, hui⟩ := List.getElem_of_mem (ixs_mem.2 ⟨hin, hil⟩)
          have hum : u < m := by rw [← HIM.out]; exact hu
          have HU := Lib.hid (show i < n ∧ lastI l n i ∧ (pth l i).key = (pth l k).key ∧ ∃ h : u < (ixs l n n).length, (ixs l n n)[u] = i from ⟨hin, hil, hik, hu, hui⟩)
          clear hin hil hik hui hu
          have hx := HB.out.2.2.1.below hb (by omega)
          have hxc := hx.cell
          have hxl := hx.lt
          clear hx
          go_wp2
          go_loopw [15, 16] (fun nv tv wx => ∃ t : Nat, t ≤ m ∧ tv = .int .i64 t ∧ nv = .int .i64 (if u < t then 1 else 0) ∧ Below W2.heap.size W2 wx) (fun _ tv _ => m - (intOf tv).toNat)
          case atStart => exact ⟨0, Nat.zero_le _, rfl, rfl, hb⟩
          case round =>
            clear hb hxc hxl
            obtain ⟨t, ht, rfl, rfl, hb⟩ := hrel
            have hx := HB.out.2.2.1.below hb (by omega)
            have hxc := hx.cell
            have hxl := hx.lt
            have HBX := Lib.hid hb
            clear hx
            by_cases htm : t < m
            · have htE : t < E.length := by rw [HM.out]; exact htm
              obtain ⟨y, hty, hyt, hyn, hyl, hEq⟩ := hof_get HE.out htE
              have hkl : k < l.length := by rw [Hn.out]; exact hkn
              obtain ⟨ad, rfl, _, p0, _, _, _, _, _⟩ := (HB.out.2.1.below hb).six_ htE
              obtain ⟨ae, rfl, _, _, _, _, _, _, q5, _, _, _⟩ := (HB.out.2.2.2.below hb).nine_ hkl
              rw [hEq] at p0
              simp only [ent] at p0
              rw [← pth_eq hkl] at q5
              have ht0 : (0 : Int) ≤ t := by omega
              have ht1 : (t : Int) < m := by omega
              have hk0 : (0 : Int) ≤ k := by omega
              have hk1 : (k : Int) < n := by omega
              by_cases htu : t = u
              · subst htu
                have hyi : (pth l y).key = (pth l k).key := by
                  obtain ⟨_, _, h3, h4, h5⟩ := HU.out
                  rw [← h3, ← hyt, h5]
                rw [hyi] at p0
                have hif : (if t < t then (1 : Int) else 0) = 0 := if_neg (by omega)
                have hif1 : (if t < t + 1 then (1 : Int) else 0) = 1 := if_pos (by omega)
                rw [hif]
                have HIF := Lib.hid hif1
                clear hb hif hif1 hyi hEq hyt hyl hty
                go_wp2
                go_quiet (fail)
                go_wp2
                go_roundw
                case rel => exact ⟨t + 1, by omega, by go_num, by rw [HIF.out], below_drewN HBX.out _⟩
                case measure => simp [intOf]; omega
              · have hyi : ¬ (pth l y).key = (pth l k).key := fun e => by
                  obtain ⟨h1, h2, h3, h4, h5⟩ := HU.out
                  have e1 : y = i := last_one hyn h1 hyl h2 (e.trans h3.symm)
                  have hp := List.pairwise_iff_getElem.1 (ixs_lt l n n)
                  rcases Nat.lt_trichotomy t u with h | h | h
                  · have := hp t u hty h4 h; omega
                  · exact htu h
                  · have := hp u t h4 hty h; omega
                have hkf := key_ne hyi
                have hif : (if u < t + 1 then (1 : Int) else 0) = (if u < t then (1 : Int) else 0) := by
                  by_cases h : u < t
                  · rw [if_pos h, if_pos (by omega)]
                  · rw [if_neg h, if_neg (by omega)]
                have HIF := Lib.hid hif
                generalize (if u < t then (1 : Int) else 0) = z at HIF
                clear hb hif hyi hEq hyt hyl hty
                go_wp2
                go_quiet (fail)
                go_wp2
                go_roundw
                case rel => exact ⟨t + 1, by omega, by go_num, by rw [HIF.out], below_drewN HBX.out _⟩
                case measure => simp [intOf]; omega
            · have hif : (if u < t then (1 : Int) else 0) = 1 := if_pos (by omega)
              rw [hif]
              clear hb hif
              go_wp2
              go_roundw
              case rel => exact ⟨k + 1, by omega, by go_num, HBX.out⟩
              case measure => simp [intOf]; omega
        · have HBX := Lib.hid hb
          clear hb
          go_wp2
          go_ret
          exact ⟨rfl, HB.out.1.trans (HBX.out.mono hsw)⟩
end Go.Proofs.Ytifimeohdgnehaa
