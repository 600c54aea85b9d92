import Derived.Test.YtmhlgbpgdhhfnaaGreatV43
set_option linter.unusedVariables false
set_option linter.unusedSimpArgs false
namespace Go.Proofs.YtmhlgbpgdhhfnaaGreat
open Go.RowKit Go.Maps Sqz

/-! chroniclelaw5.SegmentLook -/
theorem stored_ex {w : World} {base g n cap : Nat} {e : TypeId} {size : Nat} {j : Nat} {u : Value} (h : ∃ xs, w.ownsRow base e size (.slice (some ⟨g, 0, none⟩) n cap) n xs) : ∃ xs, (w.setCell ⟨g, j, none⟩ u).ownsRow base e size (.slice (some ⟨g, 0, none⟩) n cap) n xs := by
  obtain ⟨xs, h⟩ := h
  exact ⟨_, (World.ownsRow.stored h j u).1⟩
theorem ownsRow_free {w : World} {base g n cap : Nat} {e : TypeId} {size : Nat} {xs : List Value} (h : w.ownsRow base e size (.slice (some ⟨g, 0, none⟩) n cap) n xs) (i : Nat) : w.frozen? ⟨g, i, none⟩ = false ∧ g < w.heap.size := by
  rcases h.2 with ⟨h', _⟩ | ⟨g', cap', cur, h', hb, hg, _⟩
  · cases h'
  cases h'
  exact ⟨by simp [World.frozen?, hg], (Array.getElem?_eq_some_iff.1 hg).1⟩
theorem Chg.stored {S : Nat → Prop} {w w' : World} {g j : Nat} {u : Value} (h : Chg S w w') (hS : S g) : Chg S w (w'.setCell ⟨g, j, none⟩ u) := h.setCell (.inl hS) u
set_option maxRecDepth 100000 in
set_option maxHeartbeats 32000000 in
theorem segLook_any (A : Option Addr) (n c : Nat) (b : List UInt8) (w : World) (hA : Rd w w.heap.size A (bv b)) (hn : b.length = n) (hc : n ≤ c) (hmx : n ≤ 1048576) :
    Calls Tryz.prog 3 #[.slice A n c] w fun e w' => e = .returned (.bool true) ∧ Below w.heap.size w w' := by
  obtain ⟨i0, hi0, hz0, hs0, hy0⟩ := info_parts infoPL
  have HA := Lib.hid hA
  have HL := Lib.hid hn
  obtain ⟨Z, hZ⟩ : ∃ Z, List.replicate (n + 64) (0 : UInt8) = Z := ⟨_, rfl⟩
  have HZL : Hid (Z.length = n + 64) := by show _ = _; rw [← hZ]; simp
  have hmk : ∀ W, (Instr.makeSlice 22 (.int .i64 ((n : Int) + 64)) (.int .i64 ((n : Int) + 64))).run Tryz.prog W = .ok (.slice (some ⟨W.heap.size, 0, none⟩) (n + 64) (n + 64)) (W.alloc (.cells (bv Z).toArray 5)) := fun W => by
    have := make_u8 (n + 64) (by omega) W
    rw [hZ] at this
    rwa [show ((n + 64 : Nat) : Int) = (n : Int) + 64 from by omega] at this
  have hw64 : IntKind.i64.wrap ((n : Int) + 64) = (n : Int) + 64 := IntWalk.i64_in _ (by omega)
  obtain ⟨c1, c2, c3, c4, c5, c6, c7, L, f1, f2, hsB⟩ := lookO_shape b
  have HLN : Hid (L.length ≤ n) := by
    have := lookO_len b
    rw [hsB, hn] at this
    exact this
  have HSB := Lib.hid hsB
  clear hsB hZ hA hn
  go_enter Tryz.func3, Tryz.ntmps3
  go_upto_region 3 with (first
    | (go_at_call 4
       refine (lookQ_any A n c b _ HA.out HL.out hc (by omega)).mono ?_
       rintro e w1 h1
       obtain ⟨b1, k1, rfl, ho1, hb1⟩ := h1.open_ HSB.out
       have HO1 := Lib.hid (And.intro ho1 hb1)
       clear h1 ho1 hb1))
  obtain ⟨W1, hW1⟩ : ∃ W1, (w1.alloc (.cells #[.int .i64 c1, .int .i64 c2, .int .i64 c3, .int .i64 c4, .int .i64 c5, .int .i64 c6, .bool c7] 24)).alloc (.cells #[.int .i64 f1, .int .i64 f2] 28) = W1 := ⟨_, rfl⟩
  obtain ⟨x1, hx1⟩ : ∃ x1, w1.heap.size = x1 := ⟨_, rfl⟩
  have hb1 : Below w.heap.size w W1 := by rw [← hW1]; exact (HO1.out.2.alloc HO1.out.2.size _).alloc (by have := HO1.out.2.size; simp; omega) _
  have hbx : Below w1.heap.size w1 W1 := by rw [← hW1]; exact ((Below.refl _ _).alloc (Nat.le_refl _) _).alloc (by simp) _
  have hc1 : Box W1 x1 24 #[.int .i64 c1, .int .i64 c2, .int .i64 c3, .int .i64 c4, .int .i64 c5, .int .i64 c6, .bool c7] := by rw [← hW1, ← hx1]; exact (Box.new w1 _ _).alloc _
  have hd1 : Box W1 (x1 + 1) 28 #[.int .i64 f1, .int .i64 f2] := by
    have := Box.new (w1.alloc (.cells #[.int .i64 c1, .int .i64 c2, .int .i64 c3, .int .i64 c4, .int .i64 c5, .int .i64 c6, .bool c7] 24)) 28 #[.int .i64 f1, .int .i64 f2]
    rw [World.size_alloc, hx1] at this
    rw [← hW1]; exact this
  have hr1 := ownsRow_below HO1.out.1 hbx
  have hsz1 : W1.heap.size = x1 + 2 := by rw [← hW1, ← hx1]; simp
  have hls : LS w (W1.alloc (.cells (bv Z).toArray 5)) (x1 + 2) Z [(x1, 24, #[.int .i64 c1, .int .i64 c2, .int .i64 c3, .int .i64 c4, .int .i64 c5, .int .i64 c6, .bool c7]), (x1 + 1, 28, #[.int .i64 f1, .int .i64 f2])] [(.slice b1 L.length k1, L)] := by
    refine ⟨hb1.alloc hb1.size _, ?_, ?_, fun x hx => ?_, fun x hx => ?_, fun r hr => ?_, fun r hr => ?_⟩
    · rw [← hsz1]; exact Box.new W1 _ _
    · have := hb1.size; omega
    · simp only [List.mem_cons, List.not_mem_nil, or_false] at hx
      rcases hx with rfl | rfl
      · exact hc1.alloc _
      exact hd1.alloc _
    · simp only [List.mem_cons, List.not_mem_nil, or_false] at hx
      rcases hx with rfl | rfl
      · show x1 ≠ x1 + 2; omega
      show x1 + 1 ≠ x1 + 2; omega
    · rw [List.mem_singleton.1 hr]; exact ownsRow_below hr1 ((Below.refl _ _).alloc (Nat.le_refl _) _)
    rw [List.mem_singleton.1 hr]
    intro e
    have := (hr1.lt _ e).2
    omega
  rw [hW1, hx1]
  try rw [hsz1]
  generalize W1.alloc (.cells (bv Z).toArray 5) = W2 at hls ⊢
  generalize x1 + 2 = g at hls ⊢
  have HLS0 := Lib.hid hls
  clear hls hW1 hx1 hb1 hbx hc1 hd1 hr1 hsz1 HO1 hmk hw64
  obtain ⟨Fl, hFl⟩ : ∃ Fl, b ++ List.replicate 64 (169 : UInt8) = Fl := ⟨_, rfl⟩
  have hFL : Fl.length = n + 64 := by rw [← hFl, List.length_append, HL.out, List.length_replicate]
  have hFlo : ∀ k (h : k < b.length), Fl[k]'(by rw [hFL]; rw [HL.out] at h; omega) = b[k] := fun k h => by
    simp only [← hFl]
    exact List.getElem_append_left h
  have hFhi : ∀ k (h : k < Fl.length), n ≤ k → Fl[k] = 169 := fun k h hk => by
    simp only [← hFl]
    rw [List.getElem_append_right (by rw [HL.out]; exact hk)]
    exact List.getElem_replicate ..
  have hFt : Fl.take n = b := by rw [← hFl, List.take_append_of_le_length (by rw [HL.out]; exact Nat.le_refl _), List.take_of_length_le (by rw [HL.out]; exact Nat.le_refl _)]
  have HFL := Lib.hid hFL
  have HFlo := Lib.hid hFlo
  have HFhi := Lib.hid hFhi
  have HFt := Lib.hid hFt
  have HFZ : Hid (Fl.length ≤ Z.length) := by show _ ≤ _; rw [hFL, HZL.out]; exact Nat.le_refl _
  clear hFl hFlo hFhi hFt
  go_wp2
  go_loopw [7] (fun v wr => ∃ q : Nat, q ≤ n ∧ v = .int .i64 q ∧ LS w wr g (Fl.take q ++ Z.drop q) [(x1, 24, #[.int .i64 c1, .int .i64 c2, .int .i64 c3, .int .i64 c4, .int .i64 c5, .int .i64 c6, .bool c7]), (x1 + 1, 28, #[.int .i64 f1, .int .i64 f2])] [(.slice b1 L.length k1, L)]) (fun v _ => n - (intOf v).toNat)
  case atStart => exact ⟨0, Nat.zero_le _, rfl, by simpa using HLS0.out⟩
  case round =>
    obtain ⟨q, hq, rfl, hls⟩ := hrel
    by_cases hlq : q < n
    · have g1 : q < b.length := by rw [HL.out]; exact hlq
      have g2 : q < Fl.length := by rw [HFL.out]; omega
      obtain ⟨ad, rfl, had, p0⟩ := (HA.out.below hls.bel) q (.int .u8 (b[q]'g1).toNat) (by simp [bv, g1])
      have hgf := Box.free hls.gb q
      have hgl := Box.lt hls.gb
      have hgc := hls.gb.cell_ (i := q) (by rw [List.length_append, List.length_take, List.length_drop, HFL.out, HZL.out]; omega)
      have HS := Lib.hid (cpy_set Fl Z q g2 HFZ.out _ (HFlo.out q g1))
      have HK := Lib.hid hls
      clear hls
      generalize b[q]'g1 = y at p0 HS
      go_wp2
      go_roundw
      case rel =>
        have h := HK.out.put q y
        rw [HS.out] at h
        exact ⟨q + 1, by omega, by go_num, h⟩
      case measure => simp [intOf]; omega
    obtain rfl : q = n := by omega
    have HLS := Lib.hid hls
    clear hls hlq hq HLS0
    go_wp2
    go_loopw [8] (fun v wr => ∃ k : Nat, q ≤ k ∧ k ≤ q + 64 ∧ v = .int .i64 k ∧ LS w wr g (Fl.take k ++ Z.drop k) [(x1, 24, #[.int .i64 c1, .int .i64 c2, .int .i64 c3, .int .i64 c4, .int .i64 c5, .int .i64 c6, .bool c7]), (x1 + 1, 28, #[.int .i64 f1, .int .i64 f2])] [(.slice b1 L.length k1, L)]) (fun v _ => q + 64 - (intOf v).toNat)
    case atStart => exact ⟨q, Nat.le_refl _, by omega, rfl, HLS.out⟩
    case round =>
      obtain ⟨k, hk0, hk, rfl, hls⟩ := hrel
      by_cases hlk : k < q + 64
      · have g2 : k < Fl.length := by rw [HFL.out]; omega
        have hgf := Box.free hls.gb k
        have hgl := Box.lt hls.gb
        have hgc := hls.gb.cell_ (i := k) (by rw [List.length_append, List.length_take, List.length_drop, HFL.out, HZL.out]; omega)
        have HS := Lib.hid (cpy_set Fl Z k g2 HFZ.out _ (HFhi.out k g2 hk0))
        have HK := Lib.hid hls
        have hcmp : (k : Int) < (q : Int) + 64 := by omega
        clear hls
        go_wp2
        go_roundw
        case rel =>
          have h := HK.out.put k 169
          rw [HS.out] at h
          exact ⟨k + 1, by omega, by omega, by go_num, h⟩
        case measure => simp [intOf]; omega
      obtain rfl : k = q + 64 := by omega
      have hle : Fl.take (q + 64) ++ Z.drop (q + 64) = Fl := by
        rw [List.take_of_length_le (by rw [HFL.out]; exact Nat.le_refl _), List.drop_eq_nil_of_le (by rw [HZL.out]; exact Nat.le_refl _), List.append_nil]
      rw [hle] at hls
      have HLS := Lib.hid hls
      have HGB : Hid (Rd wr wr.heap.size (some ⟨g, 0, none⟩) (bv b)) := by
        have h := (hls.gb.rd (Box.lt hls.gb)).take_ q
        rw [HFt.out] at h
        exact h
      have hsg : ∀ W, (Instr.slice 22 (.slice (some ⟨g, 0, none⟩) (q + 64) (q + 64)) none (some (.int .i64 (q : Int))) none).run Tryz.prog W = .ok (.slice (some ⟨g, 0, none⟩) q (q + 64)) W := fun W => run_head2 W (some ⟨g, 0, none⟩) (q + 64) (q + 64) q (q : Int) rfl (by omega)
      clear hls hle hlk hk hk0
      go_upto_region 13 with (first
        | (go_at_call 5
           have zz := HGB
           clear zz
           refine (lookP_any (some ⟨g, 0, none⟩) q (q + 64) b _ HGB.out HL.out (by omega) (by omega)).mono ?_
           rintro e w6 h6
           obtain ⟨b6, k6, rfl, ho6, hb6⟩ := h6.open_ HSB.out
           have hl6 := HLS.out.two (t1 := 24) (t2 := 28) (c1 := #[.int .i64 c1, .int .i64 c2, .int .i64 c3, .int .i64 c4, .int .i64 c5, .int .i64 c6, .bool c7]) (c2 := #[.int .i64 f1, .int .i64 f2]) ho6 hb6
           have hn6 : ∀ j, (Value.slice b6 L.length k6).ownBlock = some j → (Value.slice b1 L.length k1).ownBlock ≠ some j := fun j hj e => by
             have h1 := (ho6.lt j hj).1
             have h2 := ((HLS.out.row _ (.head _)).lt j e).2
             omega
           have HL6 := Lib.hid (And.intro hl6 hn6)
           clear h6 ho6 hb6 hl6 hn6 HGB)
        | (go_at_call 5
           have zz := HL6
           clear zz
           refine (lookP_any (some ⟨g, 0, none⟩) q (q + 64) b _ (by
             have h := (HL6.out.1.gb.rd (Box.lt HL6.out.1.gb)).take_ q
             rw [HFt.out] at h
             exact h) HL.out (by omega) (by omega)).mono ?_
           rintro e w7 h7
           obtain ⟨b7, k7, rfl, ho7, hb7⟩ := h7.open_ HSB.out
           have hl7 := HL6.out.1.two (t1 := 24) (t2 := 28) (c1 := #[.int .i64 c1, .int .i64 c2, .int .i64 c3, .int .i64 c4, .int .i64 c5, .int .i64 c6, .bool c7]) (c2 := #[.int .i64 f1, .int .i64 f2]) ho7 hb7
           have hn7 : ∀ j, (Value.slice b6 L.length k6).ownBlock = some j → (Value.slice b7 L.length k7).ownBlock ≠ some j := fun j hj e => by
             have h1 := (ho7.lt j e).1
             have h2 := ((HL6.out.1.row _ (.head _)).lt j hj).2
             omega
           have HL7 := Lib.hid (And.intro hl7 (And.intro hn7 HL6.out.2))
           clear h7 ho7 hb7 hl7 hn7 HL6))
      have hl8 := HL7.out
      generalize (w7.alloc (.cells #[.int .i64 c1, .int .i64 c2, .int .i64 c3, .int .i64 c4, .int .i64 c5, .int .i64 c6, .bool c7] 24)).alloc (.cells #[.int .i64 f1, .int .i64 f2] 28) = W8 at hl8 ⊢
      generalize w7.heap.size = x7 at hl8 ⊢
      generalize w6.heap.size = x6 at hl8 ⊢
      have q1 := (hl8.1.box _ (.head _)).cell
      have q2 := (hl8.1.box _ (.tail _ (.head _))).cell
      have q3 := (hl8.1.box _ (.tail _ (.tail _ (.head _)))).cell
      have q4 := (hl8.1.box _ (.tail _ (.tail _ (.tail _ (.head _))))).cell
      have q5 := (hl8.1.box _ (.tail _ (.tail _ (.tail _ (.tail _ (.head _)))))).cell
      have q6 := (hl8.1.box _ (.tail _ (.tail _ (.tail _ (.tail _ (.tail _ (.head _))))))).cell
      dsimp only at q1 q2 q3 q4 q5 q6
      have HF := Lib.hid hl8
      clear hl8 HL7 hsg HLS
      go_upto_region 15 with (first
        | (go_at_call 6
           refine (samePl_eq b6 b1 L.length k6 k1 L _ (ownsRow_rd (HF.out.1.row _ (.tail _ (.head _)))) (ownsRow_rd (HF.out.1.row _ (.tail _ (.tail _ (.head _))))) rfl (by have := HLN.out; omega)).mono ?_
           rintro e w10 ⟨rfl, m1, rfl⟩))
      have hl9 := HF.out.1.on (below_drewN (Below.refl _ _) m1)
      generalize W8.drewN m1 = W9 at hl9 ⊢
      have hrw1 : W9.ownsRow w.heap.size 35 9 (.slice b6 L.length k6) L.length (L.flatMap plc) := hl9.row _ (.tail _ (.head _))
      have hrw2 := hl9.row _ (.head _)
      have hrw3 := hl9.row _ (.tail _ (.tail _ (.head _)))
      have hgr := hl9.rne _ (.tail _ (.head _))
      have HN := Lib.hid (And.intro HF.out.2.1 (And.intro HF.out.2.2 (And.intro hgr (And.intro hrw2 (And.intro hrw3 hl9)))))
      have HR1 := Lib.hid hrw1
      have HR1x := Lib.hid hrw1
      clear q1 q2 q3 q4 q5 q6 hl9 hrw1 hrw2 hrw3 hgr HF
      go_wp2
      go_loopw [15] (fun v wr => ∃ k : Nat, k ≤ L.length ∧ v = .int .i64 k ∧ (∃ xs, wr.ownsRow w.heap.size 35 9 (.slice b6 L.length k6) L.length xs) ∧ Chg (fun j => some j = (Value.slice b6 L.length k6).ownBlock) W9 wr) (fun v _ => L.length - (intOf v).toNat)
      case atStart => exact ⟨0, Nat.zero_le _, rfl, ⟨_, HR1.out⟩, Chg.refl _ _⟩
      case round =>
        obtain ⟨k, hk, rfl, ⟨xs, hrow⟩, hch⟩ := hrel
        have hln := HLN.out
        by_cases hlk : k < L.length
        · obtain ⟨g6, rfl⟩ : ∃ g6, b6 = some ⟨g6, 0, none⟩ := by
            rcases hrow.2 with ⟨hv, h0⟩ | ⟨g6, cap, cur, hv, _⟩
            · omega
            injection hv with hv; exact ⟨g6, hv⟩
          have hfr := fun i => (ownsRow_free hrow i).1
          have hfl := (ownsRow_free hrow 0).2
          have hcl : ∀ i, i < 9 → ∃ u, wr.cell? ⟨g6, k * 9 + i, none⟩ = some u := fun i hi => by
            have hx : k * 9 + i < xs.length := by rw [hrow.1]; omega
            have h := hrow.cells (g := g6) rfl _ _ (List.getElem?_eq_getElem hx)
            rw [show (⟨g6, 0, none⟩ : Addr).add (k * 9 + i) = ⟨g6, k * 9 + i, none⟩ from by unfold Addr.add; split <;> simp_all] at h
            exact ⟨_, h⟩
          obtain ⟨u0, v0⟩ := hcl 0 (by omega)
          obtain ⟨u1, v1⟩ := hcl 1 (by omega)
          obtain ⟨u2, v2⟩ := hcl 2 (by omega)
          obtain ⟨u3, v3⟩ := hcl 3 (by omega)
          obtain ⟨u4, v4⟩ := hcl 4 (by omega)
          obtain ⟨u5, v5⟩ := hcl 5 (by omega)
          obtain ⟨u6, v6⟩ := hcl 6 (by omega)
          obtain ⟨u7, v7⟩ := hcl 7 (by omega)
          obtain ⟨u8, v8⟩ := hcl 8 (by omega)
          rw [Nat.add_zero] at v0
          have HK := Lib.hid (And.intro hrow hch)
          clear hrow hch hcl
          go_wp2
          go_roundw
          case rel =>
            refine ⟨k + 1, by omega, by go_num, ?_, ?_⟩
            · iterate 9 refine stored_ex ?_
              exact ⟨xs, HK.out.1⟩
            iterate 9 refine Chg.stored ?_ rfl
            exact HK.out.2
          case measure => simp [intOf]; omega
        have HK := Lib.hid (And.intro hrow hch)
        clear hrow hch HR1
        go_wp2
        clear hlk hk
        go_loopw [10, 16] (fun u v wr => ∃ (j : Nat) (ys : List Value), j ≤ 64 ∧ v = .int .i64 j ∧ wr.ownsRow w.heap.size 35 9 u (L.length + j) ys ∧ Chg (fun j => some j = (Value.slice b6 L.length k6).ownBlock) W9 wr ∧ (u.ownBlock = (Value.slice b6 L.length k6).ownBlock ∨ ∃ j, u.ownBlock = some j ∧ W9.heap.size ≤ j)) (fun _ v _ => 64 - (intOf v).toNat)
        case atStart => exact ⟨0, xs, Nat.zero_le _, rfl, HK.out.1, HK.out.2, .inl rfl⟩
        case round =>
          obtain ⟨j, ys, hj, rfl, hrow, hch, hown⟩ := hrel
          obtain ⟨bu, ku, rfl⟩ := ownsRow_slice hrow
          by_cases hlj : j < 64
          · have HJ := Lib.hid (And.intro hrow (And.intro hch hown))
            have hj0 : (j : Int) < 64 := by omega
            clear hrow hch hown
            go_wp2_with (first
              | (at_builtin
                 refine wpList_app2 _ rfl (.tmp 108) (.tmp 110) _ rfl w.heap.size 35 i0 _ 9 88 Tryz.underlying25 hi0 hz0 hs0 hy0 rfl (by omega) _ (L.length + j) ys rfl (ownsRow_below HJ.out.1 ((Below.refl _ _).alloc (Nat.le_refl _) _)) _ _ 1 1 _ rfl rfl (rd_new wr _ _) (by simp [Value.oneCell']) (by unfold maxLen; omega) (by omega) (by have h1 := HN.out.2.2.2.2.2.bel.size; have h2 := HJ.out.2.1.size; simp; omega) ?_
                 intro b8 c8 w8 ho8 hg8 ha8
                 have hc8 := (Chg.of_below (show Below wr.heap.size wr (wr.alloc (.cells #[.int .i64 0, .int .i64 0, .int .i64 0, .int .i64 0, .int .i64 0, .string ⟨#[]⟩, .string ⟨#[]⟩, .int .i64 (-8), .int .i64 0] 35)) from (Below.refl _ _).alloc (Nat.le_refl _) _) (fun k => some k = (Value.slice bu (L.length + j) ku).ownBlock)).trans (Chg.of_grown hg8)
                 have H8 := Lib.hid (And.intro ho8 (And.intro hc8 ha8))
                 clear ho8 hg8 hc8 ha8))
            go_roundw
            case rel =>
              have hs9 := HJ.out.2.1.size
              refine ⟨j + 1, _, by omega, by go_num, H8.out.1, ?_, ?_⟩
              · have h9 := HJ.out.2.1
                have h10 := H8.out.2.1
                refine ⟨h10.os.trans h9.os, h10.tape.trans h9.tape, h10.output.trans h9.output, Nat.le_trans h9.size h10.size, fun k hk hne => (h10.block k (by omega) fun e => ?_).trans (h9.block k hk hne)⟩
                rcases HJ.out.2.2 with h | ⟨i, h, hi⟩
                · exact hne (e.trans h)
                rw [h] at e; cases e; omega
              rcases H8.out.2.2 with h | h
              · rw [h]; exact HJ.out.2.2
              exact .inr ⟨_, h, by simp; omega⟩
            case measure => simp [intOf]; omega
          have hgb : GB wr g Fl := Box.chg HN.out.2.2.2.2.2.gb hch (fun e => HN.out.2.2.1 e.symm)
          have hbw : Below w.heap.size w wr := HN.out.2.2.2.2.2.bel.trans (hch.below HN.out.2.2.2.2.2.bel.size fun k hk => (HR1x.out.lt k hk.symm).1)
          have hr2 := ownsRow_block HN.out.2.2.2.1 (w' := wr) fun k hk => hch.block k (HN.out.2.2.2.1.lt k hk).2 fun e => HN.out.1 k e.symm hk
          have hr3 := ownsRow_block HN.out.2.2.2.2.1 (w' := wr) fun k hk => hch.block k (HN.out.2.2.2.2.1.lt k hk).2 fun e => HN.out.2.1 k e.symm hk
          have HE := Lib.hid (And.intro hgb (And.intro hbw (And.intro hr2 hr3)))
          clear hgb hbw hr2 hr3 hrow hch hown
          go_wp2
          go_loopw [17] (fun v wz => ∃ (k x : Nat), k ≤ q + 64 ∧ v = .int .i64 k ∧ wz = wr.drewN x) (fun v _ => q + 64 - (intOf v).toNat)
          case atStart => exact ⟨0, 0, Nat.zero_le _, rfl, rfl⟩
          case round =>
            obtain ⟨k, x, hk, rfl, rfl⟩ := hrel
            by_cases hlk : k < q + 64
            · have hkc : (k : Int) < (q : Int) + 64 := by omega
              have hgc := HE.out.1.cell_ (i := k) (by rw [HFL.out]; exact hlk)
              by_cases hkq : k < q
              · have g1 : k < b.length := by rw [HL.out]; exact hkq
                obtain ⟨ad, rfl, had, p0⟩ := (HA.out.below HE.out.2.1) k (.int .u8 (b[k]'g1).toNat) (by simp [bv, g1])
                rw [HFlo.out k g1] at hgc
                have d1 : decide ((k : Int) < (q : Int)) = true := decide_eq_true (by omega)
                have d3 : decide (k < q) = true := decide_eq_true (by omega)
                have d4 : decide (q ≤ k) = false := decide_eq_false (by omega)
                have d2 : decide ((q : Int) ≤ (k : Int)) = false := decide_eq_false (by omega)
                generalize b[k]'g1 = y at p0 hgc
                clear hlk
                go_wp2
                go_quiet (fail)
                go_wp2
                go_roundw
                case rel => exact ⟨k + 1, _, by omega, by go_num, rfl⟩
                case measure => simp [intOf]; omega
              rw [HFhi.out k (by rw [HFL.out]; exact hlk) (by omega)] at hgc
              have d1 : decide ((k : Int) < (q : Int)) = false := decide_eq_false (by omega)
              have d3 : decide (k < q) = false := decide_eq_false (by omega)
              have d4 : decide (q ≤ k) = true := decide_eq_true (by omega)
              have d2 : decide ((q : Int) ≤ (k : Int)) = true := decide_eq_true (by omega)
              have hgc' : wr.cell? ⟨g, k, none⟩ = some (.int .u8 169) := hgc
              clear hkq hgc
              go_wp2
              go_quiet (fail)
              go_wp2
              go_roundw
              case rel => exact ⟨k + 1, _, by omega, by go_num, rfl⟩
              case measure => simp [intOf]; omega
            clear hk
            have hkc : ¬ (k : Int) < (q : Int) + 64 := by omega
            clear hlk
            go_wp2_with (first
              | (go_at_call 6
                 refine (samePl_eq b7 b1 L.length k7 k1 L (wr.drewN x) ((ownsRow_rd HE.out.2.2.1).below (below_drewN (Below.refl wr.heap.size wr) x)) ((ownsRow_rd HE.out.2.2.2).below (below_drewN (Below.refl wr.heap.size wr) x)) rfl (by have := HLN.out; omega)).mono ?_
                 rintro e w11 ⟨rfl, m2, rfl⟩)
              | (go_at_call 7
                 refine (lookPl_any A q c b _ ((HA.out.below (below_drewN HE.out.2.1 _)).mono HE.out.2.1.size) HL.out hc (by omega)).mono ?_
                 rintro e w12 ⟨rfl, hb12⟩
                 have H12 := Lib.hid hb12
                 clear hb12))
            go_ret
            exact ⟨rfl, (below_drewN HE.out.2.1 _).trans (H12.out.mono HE.out.2.1.size)⟩
end Go.Proofs.YtmhlgbpgdhhfnaaGreat
