import Derived.Test.YtnkhmebmgncjbaaCf4
namespace Go.Proofs.Ytnkhmebmgncjbaa
open Go.RowKit Go.Maps
open Go.Proofs (encStr)

set_option maxRecDepth 100000 in
set_option maxHeartbeats 8000000 in
theorem foldP (A A' : Option Addr) (n c n' c' : Nat) (a : List PA) (b : List RC) (w : World) (hA : Rd w w.heap.size A (a.flatMap p4)) (hA' : Rd w w.heap.size A' (b.flatMap r7)) (hn : a.length = n) (hn' : b.length = n')
    (hmx : n ≤ 100000000) (hmx' : n' ≤ 100000000) (hk : KeysP a) (hk' : KeysR b) :
    Calls Try.prog 4 #[.slice A n c, .slice A' n' c'] w fun e w' => ∃ v, e = .returned v ∧ PRow w w' v (foldL a b) := by
  have hmm := @run_makeMap Try.prog
  obtain ⟨i1, hi1, hz1, hs1, hy1⟩ := info_parts info_pa
  have HA := Lib.hid (And.intro hA hA')
  have Hn := Lib.hid (And.intro hn hn')
  have HK := Lib.hid (And.intro hk hk')
  have HM0 : Hid (FM (w.alloc (.map #[] 0)) w.heap.size 0 (.map []) []) := ⟨World.ownsMap_made _ _ _ _, fun x => by simp [Maps.has], fun p hp => by cases hp⟩
  clear hA hA' hn hn' hk hk'
  go_enter Try.func4, Try.ntmps4
  go_wp2
  go_loopw [16] (fun i wr => ∃ (k : Nat) (D : DataW PA), k ≤ n ∧ i = .int .i64 k ∧ FM wr w.heap.size k D ((a.take k).foldl fold1 []) ∧ Below w.heap.size w wr) (fun i _ => n - (intOf i).toNat)
  case atStart => exact ⟨0, _, Nat.zero_le _, rfl, HM0.out, Below.al _ _⟩
  case round =>
    clear HM0
    obtain ⟨k, D, hk, rfl, hF, hb⟩ := hrel
    have hml := hF.own.lt
    by_cases hlt : k < n
    · have hkl : k < a.length := by rw [Hn.out.1]; exact hlt
      obtain ⟨ad, rfl, _, p0, p1, p2, p3⟩ := (HA.out.1.below hb).p4_ hkl
      have HX := Lib.hid (foldl_snoc fold1 [] a hkl)
      have hpz := HK.out.1 a[k] (List.getElem_mem hkl)
      generalize a[k] = p at p0 p1 p2 p3 HX hpz
      have hk0 : (0 : Int) ≤ k := by omega
      have hk1 : (k : Int) < n := by omega
      have hkm : k < maxLen := by unfold maxLen; omega
      have hkey := WideMaps.keyOf_string_mk Try.underlying9 hpz
      have HF := Lib.hid (And.intro hF hb)
      have HKE := Lib.hid hkey
      clear hF hb hkey
      go_wp2_with (at_mapUpdate
                   refine wpList_mapUpdate_own _ rfl (.tmp 20) (.tmp 22) (.tmp 23) _ rfl 9 29 (string_keyed Try.underlying9) Try.underlying33 pairR w.heap.size k D rfl (HF.out.1.own.alloc _) hkm _ _ (.string p.key.data.toList) rfl rfl HKE.out (.held p) [] (pairR_mk p) ?_
                   intro w1 hown1 hg1
                   have hF1 := HF.out.1.put hown1
                   have HF1 := Lib.hid (And.intro hF1 ((HF.out.2.alloc HF.out.2.size (.cells (p4 p).toArray 29)).grown hg1 (by have := HF.out.2.size; simp; omega) (fun j e => by cases e; omega)))
                   clear hown1 hg1 hF1)
      go_roundw
      case rel => exact ⟨k + 1, _, by omega, by go_num, by rw [HX.out]; exact HF1.out.1, HF1.out.2⟩
      case measure => simp [intOf]; omega
    · have hkn : k = n := by omega
      subst hkn
      have hcl := folda_len a k
      have hso := folda_sorted a k
      generalize hzz : (a.take k).foldl fold1 [] = z at hF hcl hso
      have HZ := Lib.hid (show foldL a b = b.foldl fold2 z by rw [← hzz, ← Hn.out.1, List.take_length]; rfl)
      have HF := Lib.hid (And.intro hF (And.intro hb hso))
      clear hzz hF hb hso
      go_wp2
      go_loopw [27] (fun i wr => ∃ (j m : Nat) (D : DataW PA), j ≤ n' ∧ m ≤ k + j ∧ i = .int .i64 j ∧ FM wr w.heap.size m D ((b.take j).foldl fold2 z) ∧ Below w.heap.size w wr) (fun i _ => n' - (intOf i).toNat)
      case atStart => exact ⟨0, k, D, Nat.zero_le _, by omega, rfl, HF.out.1, HF.out.2.1⟩
      case round =>
        obtain ⟨j, m, D2, hj, hm, rfl, hF2, hb2⟩ := hrel
        have hml2 := hF2.own.lt
        by_cases hlt2 : j < n'
        · have hjl : j < b.length := by rw [Hn.out.2]; exact hlt2
          obtain ⟨ad, rfl, _, p0, p1, p2, p3, p4', p5, p6⟩ := (HA.out.2.below hb2).r7_ hjl
          have HX := Lib.hid (foldl_snoc fold2 z b hjl)
          have hpz := HK.out.2 b[j] (List.getElem_mem hjl)
          generalize b[j] = r at p0 p1 p2 p3 p4' p5 p6 HX hpz
          generalize (b.take j).foldl fold2 z = cur at hF2 HX
          have hj0 : (0 : Int) ≤ j := by omega
          have hj1 : (j : Int) < n' := by omega
          have hkm : m < maxLen := by unfold maxLen; omega
          have HKE := Lib.hid (WideMaps.keyOf_string_mk Try.underlying9 hpz)
          have HF2 := Lib.hid (And.intro hF2 hb2)
          clear hF2 hb2
          by_cases hkd : r.kind = 2
          · rw [hkd] at p0
            have HFD := Lib.hid (show fold2 cur r = woL r.key cur from if_pos hkd)
            clear hkd
            go_wp2_with (at_delete
                         refine wpList_delete_own _ rfl (.tmp 34) (.tmp 36) _ 9 rfl 29 (string_keyed Try.underlying9) Try.underlying33 pairR w.heap.size m D2 rfl (HF2.out.1.own.alloc _) _ (.string r.key.data.toList) rfl HKE.out ?_
                         intro w1 hown1 ht1
                         have hg1 := ht1.grown
                         have HF1 := Lib.hid (And.intro (HF2.out.1.del hown1) ((HF2.out.2.alloc HF2.out.2.size (.cells #[.int .i64 2, .int .i64 r.off, .int .i64 r.time, .int .i64 r.pid, .int .i64 r.sq, .string r.key, .string r.val] 31)).grown hg1 (by have := HF2.out.2.size; simp; omega) (fun j e => by cases e; omega)))
                         clear hown1 hg1 ht1)
            go_roundw
            case rel => exact ⟨j + 1, m, _, by omega, by omega, by go_num, by rw [HX.out, HFD.out]; exact HF1.out.1, HF1.out.2⟩
            case measure => simp [intOf]; omega
          · have HFD := Lib.hid (show fold2 cur r = wiL (rp r) (woL (rp r).key cur) from if_neg hkd)
            go_wp2_with (at_mapUpdate
                         refine wpList_mapUpdate_own _ rfl (.tmp 37) (.tmp 39) (.tmp 48) _ rfl 9 29 (string_keyed Try.underlying9) Try.underlying33 pairR w.heap.size m D2 rfl (HF2.out.1.own.alloc _) hkm _ _ (.string (rp r).key.data.toList) rfl rfl HKE.out (.held (rp r)) [] (pairR_mk (rp r)) ?_
                         intro w1 hown1 hg1
                         have HF1 := Lib.hid (And.intro (HF2.out.1.put hown1) ((HF2.out.2.alloc HF2.out.2.size (.cells (r7 r).toArray 31)).grown hg1 (by have := HF2.out.2.size; simp; omega) (fun j e => by cases e; omega)))
                         clear hown1 hg1)
            go_roundw
            case rel => exact ⟨j + 1, m + 1, _, by omega, by omega, by go_num, by rw [HX.out, HFD.out]; exact HF1.out.1, HF1.out.2⟩
            case measure => simp [intOf]; omega
        · have hjn : j = n' := by omega
          subst hjn
          have hso2 := foldb_sorted HF.out.2.2 b j
          have hcl2 := foldb_len z b j
          generalize hyy : (b.take j).foldl fold2 z = y at hF2 hso2 hcl2
          have HT2 := Lib.hid (show foldL a b = y by rw [HZ.out, ← hyy, ← Hn.out.2, List.take_length])
          have hsz := hF2.own.size_le
          have hs1 : Maps.size D2 ≤ maxLen := by unfold maxLen; omega
          have hs2 : Maps.size D2 * 16 ≤ 140737488355328 := by omega
          have HF2 := Lib.hid (And.intro hF2 (And.intro hb2 hso2))
          have HS12 := Lib.hid (And.intro hs1 hs2)
          generalize hly : y.length = ly at hcl2
          have HLY := Lib.hid hly
          obtain ⟨w9, hw9⟩ : ∃ w9, w9 = wr := ⟨wr, rfl⟩
          subst hw9
          clear hF2 hb2 hso2 hyy hs1 hs2 hly
          go_wp2_with (first
            | (go_at_call 10
               refine (callsIn_wide.1 (maps_Keys_10 _ _)).mono ?_
               rintro e w4 ⟨rfl, rfl⟩)
            | (go_at_call 9
               refine (callsIn_wide.1 (slices_Sorted_keys_9_10 w.heap.size m D2 pairR w9 HF2.out.1.own HS12.out.1 HS12.out.2)).mono ?_
               rintro e w5 ⟨v, ss, rfl, hS, hrow, _, hb5⟩
               have hks := HF2.out.1.keys HF2.out.2.2 hS
               have hln : ss.length = ly := by
                 have h1 := congrArg List.length hks
                 rw [List.length_mergeSort] at h1
                 rw [h1, ← HLY.out]; simp
               rw [hks, hln] at hrow
               obtain ⟨sb, sc, rfl⟩ := row_slice hrow
               have hrd := ownsRow_rd hrow
               have hF5 := HF2.out.1.below ((Below.al w9 _).trans (hb5.mono (by simp))) (by omega)
               have hB5 := HF2.out.2.1.trans (((Below.al w9 _).trans (hb5.mono (by simp))).mono HF2.out.2.1.size)
               have hz5 := hB5.size
               have hm5 := hF5.own.lt
               have H5 := Lib.hid (And.intro hF5 (And.intro hB5 hrd))
               clear hks hln hrow hrd hF5 hB5 hS hb5))
          go_loopw [10, 54] (fun v i wx => ∃ q : Nat, q ≤ ly ∧ i = .int .i64 q ∧ PRow w5 wx v (y.take q)) (fun _ i _ => ly - (intOf i).toNat)
          case atStart => exact ⟨0, Nat.zero_le _, rfl, PRow.nil w5⟩
          case round =>
            obtain ⟨q, hq, rfl, hR⟩ := hrel
            obtain ⟨rb, rc, rfl⟩ := row_slice hR.1
            by_cases hql : q < ly
            · have hqy : q < y.length := by rw [HLY.out]; exact hql
              have HX := Lib.hid (List.take_succ_eq_append_getElem hqy)
              obtain ⟨sd, rfl, _, s0⟩ := (H5.out.2.2.below hR.2) q (encStr y[q].key.data.toList) (by simp [hqy])
              rw [enc_key] at s0
              have hF6 := H5.out.1.below hR.2 hm5
              have hmem : y[q] ∈ y := List.getElem_mem hqy
              have hat := hF6.at_ y[q] hmem
              have hkz := Maps.keyOf_str Try.underlying9 (key := .string y[q].key) (kl := .string y[q].key.data.toList)
              have hpz : y[q].key.size ≤ maxLen := by
                have h1 := keys_b (keys_a HK.out.1 k) HK.out.2 j
                have h2 : y[q] ∈ foldL a b := by rw [HT2.out]; exact hmem
                have h3 : foldL a b = (b.take j).foldl fold2 ((a.take k).foldl fold1 []) := by
                  rw [← Hn.out.1, ← Hn.out.2, List.take_length, List.take_length]; rfl
                rw [h3] at h2
                exact h1 _ h2
              have hkey := WideMaps.keyOf_string_mk Try.underlying9 hpz
              generalize y[q] = p at s0 hat HX hkey
              obtain ⟨vv, ps, hrun, hvv⟩ := hF6.own.lookup (string_keyed Try.underlying9) Try.underlying33 (Try.zeroValue29 wr) (pairR_mk ⟨ByteArray.empty, ByteArray.empty, 0, 0⟩) hkey
              rw [hat] at hvv
              obtain ⟨p', rfl, hp'⟩ := pairR_inv hvv
              injection hp' with hp'
              subst hp'
              unfold PA.v at hrun
              have hql0 : (0 : Int) ≤ q := by omega
              have hql1 : (q : Int) < ly := by omega
              have hlt : (y.take q).length = q := by rw [List.length_take]; omega
              have DS := Lib.hid (And.intro hR hlt)
              have hzr := hR.2.size
              clear hR hF6 hmem hat hkz hkey hvv hqy hlt hpz
              go_wp2_with (at_builtin
                           have D1 := DS.out.1.next (Below.al wr (.cells (p4 p).toArray 29))
                           refine wpList_app _ rfl (.tmp 58) (.tmp 62) _ rfl w5.heap.size 29 i1 _ 4 48 Try.underlying22 hi1 hz1 hs1 hy1 rfl (by decide) _ (y.take q).length _ rfl D1.1 _ _ 1 1 (p4 p) rfl rfl (rd_new _ _ _) (one_p4 _) (by have := DS.out.2; unfold maxLen; omega) (by have := DS.out.2; omega) (by simp; omega) ?_
                           intro v' w6 hown hg4 hor
                           have HG := Lib.hid (D1.grow hown hg4)
                           clear hown hg4 hor D1)
              go_roundw
              case rel => exact ⟨q + 1, by omega, by go_num, by rw [HX.out]; exact HG.out⟩
              case measure => simp [intOf]; omega
            · have hqe : q = ly := by omega
              subst hqe
              have HT3 := Lib.hid (show y.take q = foldL a b by rw [HT2.out, ← HLY.out, List.take_length])
              have DS := Lib.hid hR
              clear hR
              go_wp2
              go_ret
              exact ⟨_, rfl, by rw [← HT3.out]; exact DS.out.le H5.out.2.1⟩
end Go.Proofs.Ytnkhmebmgncjbaa
