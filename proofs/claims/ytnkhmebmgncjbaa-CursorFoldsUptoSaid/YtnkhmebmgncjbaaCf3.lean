import Derived.Test.YtnkhmebmgncjbaaCf2
import Derived.Deep.RegionWith
namespace Go.Proofs.Ytnkhmebmgncjbaa
open Go.RowKit Go.Maps

theorem PRow.le {w w1 W : World} {v : Value} {l : List PA} (h : PRow w1 W v l) (hb : Below w.heap.size w w1) : PRow w W v l :=
  ⟨ownsRow_le h.1 hb.size, hb.trans (h.2.mono hb.size)⟩

set_option maxRecDepth 100000 in
set_option maxHeartbeats 8000000 in
theorem withR (A : Option Addr) (n c : Nat) (l : List PA) (p : PA) (w : World) (hA : Rd w w.heap.size A (l.flatMap p4)) (hn : l.length = n) (hmx : n ≤ 1000000000) (hk : KeysP l) :
    Calls Try.prog 11 #[.slice A n c, .agg #[.string p.key, .string p.val, .int .i64 p.off, .int .i64 p.time]] w fun e w' => ∃ v, e = .returned v ∧ PRow w w' v (wiL p l) := by
  obtain ⟨i1, hi1, hz1, hs1, hy1⟩ := info_parts info_pa
  obtain ⟨w1, hw1⟩ : ∃ w1, w1 = w.alloc (.cells (p4 p).toArray 29) := ⟨_, rfl⟩
  have hsz1 : w1.heap.size = w.heap.size + 1 := by rw [hw1, World.size_alloc]
  have hb1 : Below w.heap.size w w1 := hw1 ▸ Below.al _ _
  have hx1 : Box w1 w.heap.size 29 (p4 p).toArray := hw1 ▸ Box.new _ _ _
  have H1 := Lib.hid (And.intro hb1 (And.intro hx1 ((hA.below hb1).mono hb1.size)))
  have HW1 := Lib.hid hw1
  have Hn := Lib.hid hn
  have HK := Lib.hid hk
  clear hA hn hk hb1 hx1 hw1
  go_enter Try.func11, Try.ntmps11
  go_wp2
  go_loopw [5, 6, 7] (fun v b i wr => ∃ (k : Nat) (m : List PA) (bb : Bool), k ≤ n ∧ i = .int .i64 k ∧ b = .bool bb ∧ PRow w1 wr v m ∧ m.length ≤ k + 1 ∧
      ((bb = false ∧ (∀ q ∈ l.take k, ¬ ck q.key p.key > 0) ∧ m = l.take k) ∨ (bb = true ∧ (∃ q ∈ l.take k, ck q.key p.key > 0) ∧ m = wiL p (l.take k)))) (fun _ _ i _ => n - (intOf i).toNat)
  case atStart => exact ⟨0, [], false, Nat.zero_le _, rfl, rfl, HW1.out ▸ PRow.nil w1, by simp, .inl ⟨rfl, by simp, rfl⟩⟩
  case round =>
    obtain ⟨k, m, bb, hk, rfl, rfl, hR, hml, hC⟩ := hrel
    have hX := H1.out.2.1.below hR.2 (by omega)
    have hxc : ∀ i, wr.cell? ⟨w.heap.size, i, none⟩ = (#[.string p.key, .string p.val, .int .i64 p.off, .int .i64 p.time] : Array Value)[i]? := hX.cell
    have hxl := hX.lt
    have hsr := hR.2.size
    obtain ⟨b, c', rfl⟩ := row_slice hR.1
    have DS := Lib.hid hR
    have HC := Lib.hid hC
    clear hC hX
    by_cases hlt : k < n
    · have hkl : k < l.length := by rw [Hn.out]; exact hlt
      obtain ⟨ad, rfl, hadb, p0, p1, p2, p3⟩ := (H1.out.2.2.below hR.2).p4_ hkl
      have HT := Lib.hid (List.take_succ_eq_append_getElem hkl)
      have hqz := HK.out l[k] (List.getElem_mem hkl)
      generalize hq : l[k] = q at p0 p1 p2 p3 HT hqz
      have HQ := Lib.hid hq
      clear hq
      have hk0 : (0 : Int) ≤ k := by omega
      have hk1 : (k : Int) < n := by omega
      have HRd : Hid (∀ W, Below w1.heap.size w1 W → Rd W w1.heap.size (some ad) (l.flatMap p4)) := fun W hb => H1.out.2.2.below hb
      clear hR
      cases bb with
      | true =>
        have hc : (∃ q ∈ l.take k, ck q.key p.key > 0) ∧ m = wiL p (l.take k) := by
          rcases HC.out with ⟨h, _⟩ | ⟨_, h⟩
          · cases h
          · exact h
        have HD := Lib.hid hc
        clear hc
        go_wp2
        go_quiet ((go_at_call 16; exact Calls.quiet_of (compareR _ _ _ hqz)))
        go_wp2_with (at_builtin
                     have D1 := (DS.out.drewN nq).next (Below.al (wr.drewN nq) (.cells (p4 q).toArray 29))
                     refine wpList_app _ rfl (.tmp 33) (.tmp 38) _ rfl w1.heap.size 29 i1 _ 4 48 Try.underlying22 hi1 hz1 hs1 hy1 rfl (by decide) _ m.length _ rfl D1.1 _ _ 1 1 (p4 q) rfl rfl (rd_new _ _ _) (one_p4 _) (by unfold maxLen; omega) (by omega) (by simp; omega) ?_
                     intro v4 w4 hown hg4 hor
                     have HG := Lib.hid (D1.grow hown hg4)
                     have z4 := hg4.size
                     rw [World.size_alloc] at z4
                     obtain ⟨b4, c4, rfl⟩ := row_slice hown
                     clear hown hg4 hor D1)
        go_roundw
        case rel =>
          refine ⟨k + 1, m ++ [q], true, by omega, by go_num, rfl, HG.out, by simp; omega, .inr ⟨rfl, ?_, ?_⟩⟩
          · obtain ⟨⟨x, hx, h2⟩, _⟩ := HD.out
            exact ⟨x, by rw [HT.out]; exact List.mem_append_left _ hx, h2⟩
          · rw [HT.out, HD.out.2, wiL_yes HD.out.1]
        case measure => simp [intOf]; omega
      | false =>
        have hc : (∀ q ∈ l.take k, ¬ ck q.key p.key > 0) ∧ m = l.take k := by
          rcases HC.out with ⟨_, h⟩ | ⟨h, _⟩
          · exact h
          · cases h
        have HD := Lib.hid hc
        clear hc
        by_cases hg : ck q.key p.key > 0
        · have hgd : decide ((0 : Int) < cmpB q.key.data.toList p.key.data.toList) = true := decide_eq_true hg
          have hgd' : (0 : Int) < cmpB q.key.data.toList p.key.data.toList := hg
          have HGT := Lib.hid hg
          clear hg
          go_wp2
          go_quiet ((go_at_call 16; exact Calls.quiet_of (compareR _ _ _ hqz)))
          go_wp2_with (first
            | (at_builtin
               have D1 := (DS.out.drewN nq).next (Below.al (wr.drewN nq) (.cells (p4 p).toArray 29))
               refine wpList_app _ rfl (.tmp 29) (.tmp 31) _ rfl w1.heap.size 29 i1 _ 4 48 Try.underlying22 hi1 hz1 hs1 hy1 rfl (by decide) _ m.length _ rfl D1.1 _ _ 1 1 (p4 p) rfl rfl (rd_new _ _ _) (one_p4 _) (by unfold maxLen; omega) (by omega) (by simp; omega) ?_
               intro v4 w4 hown hg4 hor
               have HG := Lib.hid (D1.grow hown hg4)
               have z4 := hg4.size
               rw [World.size_alloc] at z4
               obtain ⟨b4, c4, rfl⟩ := row_slice hown
               obtain ⟨a2, e2, _, x0, x1, x2, x3⟩ := (HRd.out _ HG.out.2).p4_ (show k < l.length by rw [Hn.out]; exact hlt)
               cases e2
               rw [HQ.out] at x0 x1 x2 x3
               clear hown hg4 hor D1)
            | (at_builtin
               have D1 := (HG.out).next (Below.al w4 (.cells (p4 q).toArray 29))
               refine wpList_app _ rfl (.tmp 33) (.tmp 38) _ rfl w1.heap.size 29 i1 _ 4 48 Try.underlying22 hi1 hz1 hs1 hy1 rfl (by decide) _ (m.length + 1) _ rfl (by have h := D1.1; rw [List.length_append] at h; exact h) _ _ 1 1 (p4 q) rfl rfl (rd_new _ _ _) (one_p4 _) (by unfold maxLen; omega) (by omega) (by have := HG.out.2.size; simp; omega) ?_
               intro v5 w5 hown hg4 hor
               have HJ := Lib.hid (D1.grow (by rw [List.length_append]; exact hown) hg4)
               have z5 := hg4.size
               rw [World.size_alloc] at z5
               obtain ⟨b5, c5, rfl⟩ := row_slice hown
               clear hown hg4 hor D1))
          go_roundw
          case rel =>
            refine ⟨k + 1, m ++ [p] ++ [q], true, by omega, by go_num, rfl, HJ.out, ?_, .inr ⟨rfl, ⟨q, by rw [HT.out]; simp, HGT.out⟩, ?_⟩⟩
            · have := HD.out.2
              have hl : m.length ≤ k := by rw [this, List.length_take]; omega
              simp; omega
            · rw [HT.out, wiL_no (fun y hy => by have := HD.out.1 y hy; omega), HD.out.2]
              simp only [wiL, if_pos HGT.out, List.append_assoc]
              rfl
          case measure => simp [intOf]; omega
        · have hgd : decide ((0 : Int) < cmpB q.key.data.toList p.key.data.toList) = false := decide_eq_false hg
          have hgd' : ¬ (0 : Int) < cmpB q.key.data.toList p.key.data.toList := hg
          have HGT := Lib.hid hg
          clear hg
          go_wp2
          go_quiet ((go_at_call 16; exact Calls.quiet_of (compareR _ _ _ hqz)))
          go_wp2_with (at_builtin
                       have D1 := (DS.out.drewN nq).next (Below.al (wr.drewN nq) (.cells (p4 q).toArray 29))
                       refine wpList_app _ rfl (.tmp 33) (.tmp 38) _ rfl w1.heap.size 29 i1 _ 4 48 Try.underlying22 hi1 hz1 hs1 hy1 rfl (by decide) _ m.length _ rfl D1.1 _ _ 1 1 (p4 q) rfl rfl (rd_new _ _ _) (one_p4 _) (by unfold maxLen; omega) (by omega) (by simp; omega) ?_
                       intro v4 w4 hown hg4 hor
                       have HG := Lib.hid (D1.grow hown hg4)
                       have z4 := hg4.size
                       rw [World.size_alloc] at z4
                       obtain ⟨b4, c4, rfl⟩ := row_slice hown
                       clear hown hg4 hor D1)
          go_roundw
          case rel =>
            refine ⟨k + 1, m ++ [q], false, by omega, by go_num, rfl, HG.out, by simp; omega, .inl ⟨rfl, ?_, by rw [HT.out, HD.out.2]⟩⟩
            intro x hx
            rw [HT.out] at hx
            rcases List.mem_append.1 hx with h | h
            · have := HD.out.1 x h; omega
            · rw [List.mem_singleton.1 h]; have := HGT.out; omega
          case measure => simp [intOf]; omega
    · have hkn : k = n := by omega
      subst hkn
      have HTk := Lib.hid (show l.take k = l by rw [← Hn.out, List.take_length])
      rw [HTk.out] at HC
      clear hR
      cases bb with
      | true =>
        have hc : m = wiL p l := by
          rcases HC.out with ⟨h, _⟩ | ⟨_, _, h⟩
          · cases h
          · exact h
        have HD := Lib.hid hc
        clear hc
        go_wp2
        go_ret
        exact ⟨_, rfl, by rw [← HD.out]; exact DS.out.le H1.out.1⟩
      | false =>
        have hc : wiL p l = m ++ [p] := by
          rcases HC.out with ⟨_, h1, h2⟩ | ⟨h, _⟩
          · rw [h2]
            have := wiL_no h1 []
            rw [List.append_nil] at this
            exact this
          · cases h
        have HD := Lib.hid hc
        clear hc
        go_wp2_with (at_builtin
                     have D1 := (DS.out).next (Below.al wr (.cells (p4 p).toArray 29))
                     refine wpList_app _ rfl (.tmp 42) (.tmp 44) _ rfl w1.heap.size 29 i1 _ 4 48 Try.underlying22 hi1 hz1 hs1 hy1 rfl (by decide) _ m.length _ rfl D1.1 _ _ 1 1 (p4 p) rfl rfl (rd_new _ _ _) (one_p4 _) (by unfold maxLen; omega) (by omega) (by simp; omega) ?_
                     intro v4 w4 hown hg4 hor
                     have HG := Lib.hid (D1.grow hown hg4)
                     have z4 := hg4.size
                     rw [World.size_alloc] at z4
                     obtain ⟨b4, c4, rfl⟩ := row_slice hown
                     clear hown hg4 hor D1)
        go_ret
        exact ⟨_, rfl, by rw [HD.out]; exact HG.out.le H1.out.1⟩

theorem below_dr (w : World) : Below w.heap.size w w.drew := ⟨rfl, rfl, rfl, Nat.le_refl _, fun _ _ => rfl⟩
theorem keys_wo {l : List PA} (h : KeysP l) (k : ByteArray) : KeysP (woL k l) := fun q hq => h q (woL_mem.1 hq).1
theorem keys_wi {l : List PA} (h : KeysP l) {p : PA} (hp : p.key.size ≤ maxLen) : KeysP (wiL p l) := fun q hq => by
  rcases wiL_mem.1 hq with rfl | hq
  · exact hp
  · exact h q hq
theorem keys_f1 {l : List PA} (h : KeysP l) {p : PA} (hp : p.key.size ≤ maxLen) : KeysP (fold1 l p) := keys_wi (keys_wo h _) hp
theorem keys_f2 {l : List PA} (h : KeysP l) {r : RC} (hr : r.key.size ≤ maxLen) : KeysP (fold2 l r) := by
  unfold fold2
  split
  · exact keys_wo h _
  · exact keys_wi (keys_wo h _) hr
def KeysR (l : List RC) : Prop := ∀ q ∈ l, q.key.size ≤ maxLen
theorem keys_a {a : List PA} (h : KeysP a) (k : Nat) : KeysP ((a.take k).foldl fold1 []) := by
  induction k with
  | zero => intro q hq; simp at hq
  | succ k ih =>
    by_cases hk : k < a.length
    · rw [foldl_snoc _ _ _ hk]; exact keys_f1 ih (h _ (List.getElem_mem hk))
    · rw [List.take_of_length_le (by omega)] at ih ⊢; exact ih
theorem keys_b {z : List PA} (hz : KeysP z) {b : List RC} (h : KeysR b) (k : Nat) : KeysP ((b.take k).foldl fold2 z) := by
  induction k with
  | zero => simpa using hz
  | succ k ih =>
    by_cases hk : k < b.length
    · rw [foldl_snoc _ _ _ hk]; exact keys_f2 ih (h _ (List.getElem_mem hk))
    · rw [List.take_of_length_le (by omega)] at ih ⊢; exact ih

set_option maxRecDepth 100000 in
set_option maxHeartbeats 8000000 in
theorem foldR (A A' : Option Addr) (n c n' c' : Nat) (a : List PA) (b : List RC) (w : World) (hA : Rd w w.heap.size A (a.flatMap p4)) (hA' : Rd w w.heap.size A' (b.flatMap r7)) (hn : a.length = n) (hn' : b.length = n')
    (hmx : n ≤ 100000000) (hmx' : n' ≤ 100000000) (hk : KeysP a) (hk' : KeysR b) :
    Calls Try.prog 5 #[.slice A n c, .slice A' n' c'] w fun e w' => ∃ v, e = .returned v ∧ PRow w w' v (foldL a b) := by
  have HA := Lib.hid (And.intro hA hA')
  have Hn := Lib.hid (And.intro hn hn')
  have HK := Lib.hid (And.intro hk hk')
  clear hA hA' hn hn' hk hk'
  go_enter Try.func5, Try.ntmps5
  go_wp2
  go_loopw [5, 6] (fun v i wr => ∃ k : Nat, k ≤ n ∧ i = .int .i64 k ∧ PRow w wr v ((a.take k).foldl fold1 [])) (fun _ i _ => n - (intOf i).toNat)
  case atStart => exact ⟨0, Nat.zero_le _, rfl, PRow.nil w⟩
  case round =>
    obtain ⟨k, hk, rfl, hR⟩ := hrel
    have hcl := folda_len a k
    have hck := keys_a HK.out.1 k
    obtain ⟨bb, cc, rfl, hrd⟩ := hR.slice
    by_cases hlt : k < n
    · have hkl : k < a.length := by rw [Hn.out.1]; exact hlt
      have HRd : Hid (∀ W, Below w.heap.size w W → ∃ ad, A = some ad ∧ W.cell? (ad.add (k * 4)) = some (.string a[k].key) ∧ W.cell? ⟨(ad.add (k * 4)).block, (ad.add (k * 4)).off + 1, none⟩ = some (.string a[k].val) ∧ W.cell? ⟨(ad.add (k * 4)).block, (ad.add (k * 4)).off + 2, none⟩ = some (.int .i64 a[k].off) ∧ W.cell? ⟨(ad.add (k * 4)).block, (ad.add (k * 4)).off + 3, none⟩ = some (.int .i64 a[k].time)) := fun W hb => by
        obtain ⟨ad, h1, _, h2⟩ := (HA.out.1.below hb).p4_ hkl
        exact ⟨ad, h1, h2⟩
      have HX := Lib.hid (foldl_snoc fold1 [] a hkl)
      have hpz := HK.out.1 a[k] (List.getElem_mem hkl)
      generalize a[k] = p at HRd HX hpz
      obtain ⟨ad, rfl, p0, p1, p2, p3⟩ := HRd.out wr hR.2
      generalize (a.take k).foldl fold1 [] = cur at hR hcl hck hrd HX
      generalize hcm : cur.length = m at hcl hR hrd
      have HM := Lib.hid hcm
      have DS := Lib.hid (And.intro hR (And.intro hrd hck))
      have hk0 : (0 : Int) ≤ k := by omega
      have hk1 : (k : Int) < n := by omega
      clear hR hrd hck hcm
      go_wp2
      go_region_with (first
        | (go_at_call 12
           refine (withoutR bb m cc cur p.key _ (DS.out.2.1.below (w' := wr.drew) (below_dr wr)) HM.out (by omega)).mono ?_
           rintro e w2 ⟨v2, rfl, hP2⟩
           obtain ⟨b2, c2, rfl, hrd2⟩ := hP2.slice
           have hb2 : Below w.heap.size w w2 := DS.out.1.2.trans (((below_dr wr).trans hP2.2).mono DS.out.1.2.size)
           obtain ⟨ad2, e2, q0, q1, q2, q3⟩ := HRd.out w2 hb2
           cases e2
           have H2 := Lib.hid (And.intro hrd2 hb2)
           clear hP2 hrd2 hb2)
        | (go_at_call 11
           refine (withR b2 _ c2 (woL p.key cur) p _ H2.out.1 rfl (by have := woL_len p.key cur; have := HM.out; omega) (keys_wo DS.out.2.2 _)).mono ?_
           rintro e w3 ⟨v3, rfl, hP3⟩
           have H3 := Lib.hid (hP3.le H2.out.2)
           clear hP3))
      all_goals
        go_wp2
        go_roundw
        case rel => exact ⟨k + 1, by omega, by go_num, by rw [HX.out]; exact H3.out⟩
        case measure => simp [intOf]; omega
    · have hkn : k = n := by omega
      subst hkn
      generalize hzz : (a.take k).foldl fold1 [] = z at hR hcl hck hrd ⊢
      have HZ := Lib.hid (show foldL a b = b.foldl fold2 z by rw [← hzz, ← Hn.out.1, List.take_length]; rfl)
      clear hzz
      have DS := Lib.hid (And.intro hR hck)
      clear hR hrd hck
      go_wp2
      go_loopw [5, 7] (fun v i wr => ∃ j : Nat, j ≤ n' ∧ i = .int .i64 j ∧ PRow w wr v ((b.take j).foldl fold2 z)) (fun _ i _ => n' - (intOf i).toNat)
      case atStart => exact ⟨0, Nat.zero_le _, rfl, DS.out.1⟩
      case round =>
        obtain ⟨j, hj, rfl, hR⟩ := hrel
        have hcl2 := foldb_len z b j
        have hck := keys_b DS.out.2 HK.out.2 j
        obtain ⟨bb, cc, rfl, hrd⟩ := hR.slice
        by_cases hlt : j < n'
        · have hjl : j < b.length := by rw [Hn.out.2]; exact hlt
          obtain ⟨ad, rfl, _, p0, p1, p2, p3, p4', p5, p6⟩ := (HA.out.2.below hR.2).r7_ hjl
          have HX := Lib.hid (foldl_snoc fold2 z b hjl)
          have hpz := HK.out.2 b[j] (List.getElem_mem hjl)
          generalize b[j] = r at p0 p1 p2 p3 p4' p5 p6 HX hpz
          generalize (b.take j).foldl fold2 z = cur at hR hcl2 hck hrd HX
          generalize hcm : cur.length = m at hcl2 hR hrd
          have HM := Lib.hid hcm
          have DD := Lib.hid (And.intro hR (And.intro hrd hck))
          have hj0 : (0 : Int) ≤ j := by omega
          have hj1 : (j : Int) < n' := by omega
          clear hR hrd hck hcm
          by_cases hkd : r.kind = 2
          · rw [hkd] at p0
            have HF := Lib.hid (show fold2 cur r = woL r.key cur from if_pos hkd)
            clear hkd
            go_wp2_with (first
              | (go_at_call 12
                 refine (withoutR bb m cc cur r.key _ ((DD.out.2.1.below (Below.al _ _)).mono (Below.al _ _).size) HM.out (by omega)).mono ?_
                 rintro e w2 ⟨v2, rfl, hP2⟩
                 have hX2 := (Box.new wr 31 #[.int .i64 2, .int .i64 r.off, .int .i64 r.time, .int .i64 r.pid, .int .i64 r.sq, .string r.key, .string r.val]).below hP2.2 (by simp)
                 have hxc2 := hX2.cell
                 have hxl2 := hX2.lt
                 have H2 := Lib.hid (hP2.le (DD.out.1.2.trans ((Below.al wr _).mono DD.out.1.2.size)))
                 clear hP2 hX2))
            go_roundw
            case rel => exact ⟨j + 1, by omega, by go_num, by rw [HX.out, HF.out]; exact H2.out⟩
            case measure => simp [intOf]; omega
          · have HF := Lib.hid (show fold2 cur r = wiL ⟨r.key, r.val, r.off, r.time⟩ (woL r.key cur) from if_neg hkd)
            go_wp2_with (first
              | (go_at_call 12
                 refine (withoutR bb m cc cur r.key _ ((DD.out.2.1.below (Below.al _ _)).mono (Below.al _ _).size) HM.out (by omega)).mono ?_
                 rintro e w2 ⟨v2, rfl, hP2⟩
                 obtain ⟨b2, c2, rfl, hrd2⟩ := hP2.slice
                 have hX2 := (Box.new wr 31 #[.int .i64 r.kind, .int .i64 r.off, .int .i64 r.time, .int .i64 r.pid, .int .i64 r.sq, .string r.key, .string r.val]).below hP2.2 (by simp)
                 have hxc2 := hX2.cell
                 have hxl2 := hX2.lt
                 have H2 := Lib.hid (And.intro hrd2 (DD.out.1.2.trans (((Below.al wr _).trans (hP2.2.mono (by simp))).mono DD.out.1.2.size)))
                 clear hP2 hX2 hrd2)
              | (go_at_call 11
                 refine (withR b2 _ c2 (woL r.key cur) ⟨r.key, r.val, r.off, r.time⟩ _ H2.out.1 rfl (by have := woL_len r.key cur; have := HM.out; omega) (keys_wo DD.out.2.2 _)).mono ?_
                 rintro e w3 ⟨v3, rfl, hP3⟩
                 have H3 := Lib.hid (hP3.le H2.out.2)
                 clear hP3))
            go_roundw
            case rel => exact ⟨j + 1, by omega, by go_num, by rw [HX.out, HF.out]; exact H3.out⟩
            case measure => simp [intOf]; omega
        · have hjn : j = n' := by omega
          subst hjn
          generalize hyy : (b.take j).foldl fold2 z = y at hR hcl2 hck hrd ⊢
          have HT2 := Lib.hid (show foldL a b = y by rw [HZ.out, ← hyy, ← Hn.out.2, List.take_length])
          have DD := Lib.hid hR
          clear hR hrd hck hyy
          go_wp2
          go_ret
          exact ⟨_, rfl, by rw [HT2.out]; exact DD.out⟩
end Go.Proofs.Ytnkhmebmgncjbaa
