import Derived.Test.YtjgdjfmgkmegfaaDam2
import Derived.Deep.DeepCutAuto
namespace Go.Proofs.Ytjgdjfmgkmegfaa
open Go.RowKit Go.Maps

set_option maxRecDepth 100000 in
set_option maxHeartbeats 8000000 in
theorem manifestDamage_any (id ns nx mk cl pos cut : Int) (A A2 A3 A4 : Option Addr) (c d n3 e3 n4 e4 : Nat) (segs : List Int) (prods : List P3) (os ms : List UInt8) (w : World)
    (hA : Rd w w.heap.size A (segs.map (.int .i64))) (hA2 : Rd w w.heap.size A2 (prods.flatMap tri)) (hA3 : Rd w w.heap.size A3 (bv os)) (hA4 : Rd w w.heap.size A4 (bv ms))
    (hn3 : os.length = n3) (hn4 : ms.length = n4) (h3 : n3 ≤ 140737488351232) (h4 : n4 ≤ 140737488351232)
    (hws : ∀ s ∈ segs, (Lit.int .i64 s).wf = true) (hp1 : -9223372036854775808 ≤ pos) (hp2 : pos ≤ 9223372036854775807) (hq1 : -9223372036854775808 ≤ cut) (hq2 : cut ≤ 9223372036854775807) :
    Calls Try.prog 5 #[manV id ns nx mk cl (.slice A segs.length c) (.slice A2 prods.length d), .int .i64 pos, .slice A3 n3 e3, .int .i64 cut, .slice A4 n4 e4] w fun ee w' =>
      ee = .returned (.bool true) ∧ Below w.heap.size w w' := by
  obtain ⟨i1, hi1, hz1, hs1, hy1⟩ := info_parts info_u8
  have hr : ∀ W, Below w.heap.size w W → Rd W W.heap.size A (segs.map (.int .i64)) ∧ Rd W W.heap.size A2 (prods.flatMap tri) ∧ Rd W W.heap.size A3 (bv os) ∧ Rd W W.heap.size A4 (bv ms) := fun W hb =>
    ⟨(hA.below hb).mono hb.size, (hA2.below hb).mono hb.size, (hA3.below hb).mono hb.size, (hA4.below hb).mono hb.size⟩
  have Hr := Lib.hid hr
  have hb0 : Below w.heap.size w (w.alloc (.cells #[.int .i64 id, .int .i64 ns, .int .i64 nx, .int .i64 mk, .int .i64 cl, .slice A segs.length c, .slice A2 prods.length d] 25)) := (Below.refl _ _).alloc (Nat.le_refl _) _
  have Hb0 := Lib.hid hb0
  have Hws := Lib.hid hws
  have Hn3 := Lib.hid hn3
  have Hn4 := Lib.hid hn4
  clear hA hA2 hA3 hA4 hr hws hn3 hn4 hb0
  cases hm : manR id ns nx mk cl segs prods with
  | false =>
    have HE := Lib.hid (show manE id ns nx mk cl segs prods = 70 by rw [manE, hm]; rfl)
    clear hm
    go_enter Try.func5, Try.ntmps5
    go_wp2_with (first
      | (go_at_call 21; refine (octEncode id ns nx mk cl A A2 c d segs prods _ (Hr.out _ Hb0.out).1 (Hr.out _ Hb0.out).2.1 Hws.out).mono ?_; rintro e w1 ⟨b, cap, rfl, _, hb1⟩; rw [HE.out]; have B1 := Lib.hid (Hb0.out.trans (hb1.mono Hb0.out.size)); clear hb1)
      | (go_at_call 31; refine (works_any _).mono ?_; rintro e w2 ⟨rfl, hb2⟩; have B2 := Lib.hid (B1.out.trans (hb2.mono B1.out.size)); clear hb2))
    go_ret
    exact ⟨rfl, B2.out⟩
  | true =>
    have HE := Lib.hid (show manE id ns nx mk cl segs prods = 0 by rw [manE, hm]; rfl)
    generalize hse : encM id ns nx mk cl segs prods = enc
    have hel := encM_small2 id ns nx mk cl segs prods
    have hel2 : 9 ≤ (encM id ns nx mk cl segs prods).length := by rw [(encM_yes hm).1, wrapB_len]; omega
    rw [hse] at hel hel2
    generalize hL : enc.length = L at hel hel2
    have HM := Lib.hid (And.intro hm hse)
    have HL := Lib.hid hL
    clear hm hse hL
    go_enter Try.func5, Try.ntmps5
    go_upto_region 4 with (first
      | (go_at_call 21
         refine (octEncode id ns nx mk cl A A2 c d segs prods _ (Hr.out _ Hb0.out).1 (Hr.out _ Hb0.out).2.1 Hws.out).mono ?_
         rintro e w1 ⟨b, cap, rfl, hown, hb1⟩
         rw [HE.out, HM.out.2, HL.out]
         rw [HM.out.2, HL.out] at hown
         obtain ⟨g, cap', hv, hnc, hcm, ho⟩ := Own.of_row hown (by omega)
         cases hv
         have K := Lib.hid (KD.mk (w := w) (g := g) (enc := enc) (W := w1) (Hb0.out.trans (hb1.mono Hb0.out.size)) (ho.le (by simp)))
         clear hown hb1 ho))
    go_cut [36] (fun s36 wx => s36 = .bool (decide (0 < cut ∧ cut ≤ L)) ∧ KD w g enc wx)
    case first =>
      rcases (show ¬ 0 < cut ∨ (0 < cut ∧ ¬ cut ≤ L) ∨ (0 < cut ∧ cut ≤ L) by omega) with hx | ⟨hx, hy⟩ | ⟨hx, hy⟩
      all_goals
        go_wp2_with fail
        go_meet
        case rel => exact ⟨by first | rw [decide_eq_false (show ¬ (0 < cut ∧ cut ≤ L) by omega)] | rw [decide_eq_true (show 0 < cut ∧ cut ≤ (L : Int) by omega)], K.out⟩
    case rest =>
      clear K
      obtain ⟨rfl, hK⟩ := hcut
      have K := Lib.hid hK
      clear hK
      go_upto_if 36 with fail
      go_cut [] (fun wx => KD w g enc wx)
      case first =>
        by_cases hc : 0 < cut ∧ cut ≤ L
        case neg =>
          rw [decide_eq_false hc]
          clear hc
          go_wp2_with fail
          go_meet
          case rel => exact K.out
        case pos =>
          rw [decide_eq_true hc]
          obtain ⟨hx, hy⟩ := hc
          obtain ⟨k, hk⟩ : ∃ k : Nat, (L : Int) - cut = k := ⟨((L : Int) - cut).toNat, by omega⟩
          obtain rfl : cut = (L : Int) - k := by omega
          have hkL : k < L := by omega
          clear hk
          go_wp2_with (first
            | (go_at_call 25
               rw [show L - (L - k) = k by omega]
               refine (manDecode _ k cap (enc.take k) _ (K.out.rdk k) (by have := HL.out; simp; omega) (by omega) (by omega)).mono ?_
               rintro e w2 ⟨hd, hb2⟩
               obtain rfl := dman_no (dam_cut HM.out.1 HM.out.2 (by have := HL.out; omega)) hd
               have K2 := Lib.hid (K.out.next hb2)
               clear hd hb2))
          go_meet
          case rel => exact K2.out.next (Below.al' _ _)
      case rest =>
        clear K
        have K := Lib.hid hcut
        clear hcut
        go_upto_if 51 with fail
        go_cut [] (fun wx => KD w g enc wx)
        case first =>
          by_cases hc : 0 < n4
          case neg =>
            go_wp2_with fail
            go_meet
            case rel => exact K.out
          case pos =>
            have hwl := K.out.below.size
            have HO := Lib.hid (own_empty wc wc.heap.size 5 1 (Nat.le_refl _))
            have HK0 := Lib.hid (K.out.next (Below.al' wc (.cells #[] 5)))
            have Hle := Lib.hid (show (bv enc).length = L * 1 by have := HL.out; simp [bv]; omega)
            have Hlm := Lib.hid (show (bv ms).length = n4 * 1 by have := Hn4.out; simp [bv]; omega)
            go_wp2_with (first
              | (at_builtin
                 refine wpList_app1 _ rfl (.tmp 53) (.tmp 54) _ rfl wc.heap.size 5 i1 _ 1 1 Try.underlying40 hi1 hz1 hs1 hy1 rfl (by omega) (.slice (some ⟨wc.heap.size, 0, none⟩) 0 0) 0 [] rfl HO.out _ _ L cap (bv enc) rfl Hle.out HK0.out.rd (one_bv _) (by unfold maxLen; omega) (by omega) (by simp <;> omega) (by omega) ?_
                 intro g1 cap1 w3 hO hca hcb hrow hg hwg
                 simp only [Nat.zero_add, List.nil_append] at hrow hO
                 have hb3 := (Below.al' wc (.cells #[] 5)).grown hg (by simp <;> omega) (by simp [Value.ownBlock] <;> omega)
                 have K3 := Lib.hid (K.out.next hb3)
                 have H3 := Lib.hid hrow
                 have hsz3 := hb3.size
                 clear hO hrow hg hwg hb3 HO HK0)
              | (at_builtin
                 refine wpList_app1 _ rfl (.tmp 55) (.tmp 56) _ rfl wc.heap.size 5 i1 _ 1 1 Try.underlying40 hi1 hz1 hs1 hy1 rfl (by omega) (.slice (some ⟨g1, 0, none⟩) L cap1) L _ rfl H3.out _ A4 n4 e4 (bv ms) rfl Hlm.out (Hr.out _ K3.out.below).2.2.2 (one_bv _) (by unfold maxLen; omega) (by omega) (by omega) (by omega) ?_
                 intro g2 cap2 w4 hO hca2 hcb2 hrow hg hwg
                 have hb4 : Below wc.heap.size w3 w4 := (Below.refl _ w3).grown hg (by omega) (fun k hk => (H3.out.lt k hk).1)
                 have K4 := Lib.hid (KD.mk (K3.out.below.trans (hb4.mono hwl)) (K3.out.own.below hb4 K.out.own.lt))
                 have H4 := Lib.hid (And.intro hO.rd_all K4.out)
                 clear hO hrow hg hwg hb4 K3 H3)
              | (go_at_call 25
                 refine (manDecode (some ⟨g2, 0, none⟩) (L + n4) cap2 (enc ++ ms) _ (by have := H4.out.1; simpa [bv] using this) (by have := HL.out; have := Hn4.out; simp; omega) hca2 (by omega)).mono ?_
                 rintro e w5 ⟨hd, hb5⟩
                 obtain rfl := dman_no (dam_more HM.out.1 HM.out.2 (by have := Hn4.out; omega)) hd
                 have K5 := Lib.hid (K4.out.next hb5)
                 clear hd hb5))
            go_meet
            case rel => exact K5.out.next (Below.al' _ _)
        case rest =>
          clear K
          have K := Lib.hid hcut
          clear hcut
          have hon := Hn3.out
          go_upto_region 12 with fail
          go_cut [94] (fun s94 wx => s94 = .bool (decide (pos < 0 ∨ n3 < 1 ∨ 4 < n3 ∨ (L : Int) - n3 < pos ∨ (pos < 9 ∧ 9 < pos + n3))) ∧ KD w g enc wx)
          case first =>
            clear hon
            rcases (show pos < 0 ∨ (0 ≤ pos ∧ n3 < 1) ∨ (0 ≤ pos ∧ 1 ≤ n3 ∧ 4 < n3) ∨ (0 ≤ pos ∧ 1 ≤ n3 ∧ n3 ≤ 4 ∧ (L : Int) - n3 < pos) ∨ (0 ≤ pos ∧ 1 ≤ n3 ∧ n3 ≤ 4 ∧ pos ≤ (L : Int) - n3 ∧ pos < 9 ∧ 9 < pos + n3) ∨
              (0 ≤ pos ∧ 1 ≤ n3 ∧ n3 ≤ 4 ∧ pos ≤ (L : Int) - n3 ∧ 9 ≤ pos) ∨ (0 ≤ pos ∧ 1 ≤ n3 ∧ n3 ≤ 4 ∧ pos ≤ (L : Int) - n3 ∧ pos < 9 ∧ pos + n3 ≤ 9) by omega) with y1 | ⟨y1, y2⟩ | ⟨y1, y2, y3⟩ | ⟨y1, y2, y3, y4⟩ | ⟨y1, y2, y3, y4, y5, y6⟩ | ⟨y1, y2, y3, y4, y5⟩ | ⟨y1, y2, y3, y4, y5, y6⟩
            all_goals
              go_wp2_with fail
              go_meet
              case rel => exact ⟨congrArg Value.bool (by rw [Bool.eq_iff_iff]; simp <;> omega), K.out⟩
          case rest =>
            clear K
            obtain ⟨rfl, hK⟩ := hcut
            have K := Lib.hid hK
            clear hK
            by_cases hbad : pos < 0 ∨ n3 < 1 ∨ 4 < n3 ∨ (L : Int) - n3 < pos ∨ (pos < 9 ∧ 9 < pos + n3)
            · rw [decide_eq_true hbad]
              clear hbad hon
              go_wp2_with (first
                | (go_at_call 31; refine (works_any _).mono ?_; rintro e w2 ⟨rfl, hb2⟩; have B2 := Lib.hid (K.out.below.trans (hb2.mono K.out.below.size)); clear hb2))
              go_ret
              exact ⟨rfl, B2.out⟩
            · rw [decide_eq_false hbad]
              obtain ⟨p, rfl⟩ : ∃ p : Nat, pos = p := ⟨pos.toNat, by omega⟩
              have q1 : 1 ≤ n3 := by omega
              have q2 : n3 ≤ 4 := by omega
              have q3 : p + n3 ≤ L := by omega
              have q4 : 9 ≤ p ∨ p + n3 ≤ 9 := by omega
              have q5 : p ≤ 9000 := by omega
              have Q4 := Lib.hid q4
              have Hon := Lib.hid hon
              clear hbad hon q4
              have hwl := K.out.below.size
              have HO := Lib.hid (own_empty wc wc.heap.size 5 1 (Nat.le_refl _))
              have HK0 := Lib.hid (K.out.next (Below.al' wc (.cells #[] 5)))
              have Hle := Lib.hid (show (bv enc).length = L * 1 by have := HL.out; simp [bv]; omega)
              go_wp2_with (first
                | (at_builtin
                   refine wpList_app1 _ rfl (.tmp 96) (.tmp 97) _ rfl wc.heap.size 5 i1 _ 1 1 Try.underlying40 hi1 hz1 hs1 hy1 rfl (by omega) (.slice (some ⟨wc.heap.size, 0, none⟩) 0 0) 0 [] rfl HO.out _ _ L cap (bv enc) rfl Hle.out HK0.out.rd (one_bv _) (by unfold maxLen; omega) (by omega) (by simp <;> omega) (by omega) ?_
                   intro g1 cap1 w3 hO hca hcb hrow hg hwg
                   simp only [Nat.zero_add, List.nil_append] at hrow hO
                   have hb3 := (Below.al' wc (.cells #[] 5)).grown hg (by simp <;> omega) (by simp [Value.ownBlock] <;> omega)
                   have K3 := Lib.hid (And.intro (K.out.next hb3) hO)
                   have hgg : g < g1 := by have := K.out.own.lt; have := hO.1; omega
                   have hgl : g1 < w3.heap.size := hO.lt
                   clear hO hrow hg hwg hb3 HO HK0))
              go_loopw [18] (fun i wr => ∃ k : Nat, k ≤ n3 ∧ i = .int .i64 k ∧ KD w g enc wr ∧ Own wr wc.heap.size g1 5 (bv (splice enc p (os.take k))))
                (fun i _ => n3 - (intOf i).toNat)
              case atStart => exact ⟨0, Nat.zero_le _, rfl, K3.out.1, by simpa [splice_nil] using K3.out.2⟩
              case round =>
                clear K3
                obtain ⟨k, hk, rfl, hK, hO⟩ := hrel
                by_cases hlt : k < n3
                · have hko : k < os.length := by rw [Hon.out]; exact hlt
                  obtain ⟨ad, rfl, had, hck⟩ := (Hr.out _ hK.below).2.2.1 k (.int .u8 os[k].toNat) (by simp [bv, hko])
                  have hsl : (splice enc p (os.take k)).length = L := by rw [splice_len (by have := HL.out; simp; omega)]; exact HL.out
                  obtain ⟨u0, hcu⟩ : ∃ u, wr.cell? ⟨g1, p + k, none⟩ = some u := ⟨_, hO.cell (i := p + k) (by simp [bv]; omega)⟩
                  have hfu := hO.free
                  have hk0 : (0 : Int) ≤ k := by omega
                  have hk1 : (k : Int) < n3 := by omega
                  have H := Lib.hid (And.intro hK hO)
                  have HS := Lib.hid (And.intro hsl (splice_set (l := enc) (o := os) (k := p) (i := k) hko (by have := HL.out; have := Hon.out; omega)))
                  have hgr : g1 < wr.heap.size := hO.lt
                  clear hK hO hsl
                  generalize os[k] = x at hck HS
                  go_wp2
                  go_roundw
                  case rel =>
                    refine ⟨k + 1, by omega, by go_num, ⟨H.out.1.below.setCell (p := ⟨g1, p + k, none⟩) (by show w.heap.size ≤ g1; have := H.out.2.1; omega) _, H.out.1.own.far (by show g ≠ g1; omega) _⟩, ?_⟩
                    have := H.out.2.bvs2 (i := p + k) (by have := HS.out.1; omega) x
                    rwa [HS.out.2] at this
                  case measure => simp [intOf]; omega
                · obtain rfl : k = n3 := by omega
                  have htk : os.take k = os := List.take_of_length_le (by have := Hon.out; omega)
                  rw [htk] at hO
                  have H := Lib.hid (And.intro hK hO)
                  have hsl : (splice enc p os).length = L := by rw [splice_len (by have := HL.out; have := Hon.out; omega)]; exact HL.out
                  have Hsl := Lib.hid hsl
                  clear hK hO htk hsl
                  by_cases he : enc = splice enc p os
                  · have HT := Lib.hid (decide_eq_true he)
                    have He := Lib.hid he
                    clear he
                    go_wp2_with (first
                      | (go_at_call 25
                         refine (manDecode (some ⟨g1, 0, none⟩) L cap1 (splice enc p os) _ H.out.2.rd_all Hsl.out (by omega) (by omega)).mono ?_
                         rintro e w5 ⟨hd, hb5⟩
                         obtain ⟨d1, k1, d2, k2, rfl, hr1, hr2⟩ := dman_of HM.out.1 (HM.out.2.trans He.out) hd
                         have H5 := Lib.hid (And.intro (H.out.1.next hb5) (H.out.2.below hb5 H.out.2.lt))
                         clear hr1 hr2 hd hb5 H)
                      | (go_at_call 29
                         refine (lawSame (some ⟨g, 0, none⟩) (some ⟨g1, 0, none⟩) L L cap cap1 enc (splice enc p os) _ HL.out Hsl.out (H5.out.1.next (Below.al' _ _)).rd (H5.out.2.alloc _).rd_all (by omega) (by omega)).mono ?_
                         rintro e w6 ⟨rfl, hb6⟩
                         rw [HT.out]
                         have H6 := Lib.hid ((H5.out.1.next (Below.al' _ _)).next hb6)
                         clear hb6))
                    go_ret
                    exact ⟨rfl, H6.out.below⟩
                  · have HT := Lib.hid (decide_eq_false he)
                    have He := Lib.hid he
                    clear he
                    go_wp2_with (first
                      | (go_at_call 25
                         refine (manDecode (some ⟨g1, 0, none⟩) L cap1 (splice enc p os) _ H.out.2.rd_all Hsl.out (by omega) (by omega)).mono ?_
                         rintro e w5 ⟨hd, hb5⟩
                         obtain rfl := dman_no (dam_burst HM.out.1 HM.out.2 (by have := Hon.out; omega) (by have := Hon.out; have := HL.out; omega) (by have := Hon.out; have := Q4.out; omega) He.out) hd
                         have H5 := Lib.hid (And.intro (H.out.1.next hb5) (H.out.2.below hb5 H.out.2.lt))
                         clear hd hb5 H)
                      | (go_at_call 29
                         refine (lawSame (some ⟨g, 0, none⟩) (some ⟨g1, 0, none⟩) L L cap cap1 enc (splice enc p os) _ HL.out Hsl.out (H5.out.1.next (Below.al' _ _)).rd (H5.out.2.alloc _).rd_all (by omega) (by omega)).mono ?_
                         rintro e w6 ⟨rfl, hb6⟩
                         rw [HT.out]
                         have H6 := Lib.hid ((H5.out.1.next (Below.al' _ _)).next hb6)
                         clear hb6))
                    go_ret
                    exact ⟨rfl, H6.out.below⟩
end Go.Proofs.Ytjgdjfmgkmegfaa
