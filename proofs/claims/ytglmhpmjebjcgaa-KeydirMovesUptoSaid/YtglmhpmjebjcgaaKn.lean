import Derived.Test.YtglmhpmjebjcgaaKm
/- KeydirMoves: untold; the law. -/
namespace Go.Proofs.Ytglmhpmjebjcgaa
open Go.RowKit Go.Maps

/-- A list that is asked for leaves the dirs. -/
theorem DW.apart {B wb N xb M : Nat} {Lv Lx Wx : Value} {s : St} {us ws : List Value} {w w' : World} (h : DW B wb Lv N s w) (hX : LX B xb M Lx Wx us ws w) (hf : ∀ k, LXF xb Lx Wx us ws k → ¬ Foot wb s k) (hc : Chg (fun k => k = xb ∨ Lx.ownBlock = some k ∨ Wx.ownBlock = some k) w w') : DW B wb Lv N s w' := by
  have hn : ∀ k, Foot wb s k → ¬ (k = xb ∨ Lx.ownBlock = some k ∨ Wx.ownBlock = some k) := fun k hk e => hf k (e.imp id fun e => e.imp id .inl) hk
  refine ⟨h.box.chg hc (hn _ (.inl rfl)), h.num, row_chg h.rowD hc fun k hk => hn k (.inr (.inr (.inl hk))), row_chg h.rowR hc fun k hk => hn k (.inr (.inr (.inr hk))), fun i hi => ?_, fun i hi => ?_, h.low, h.len, h.dne, h.rne, h.vne⟩
  · refine (h.dir i hi).chg hc (fun k hk cs => ?_) (hn _ (.inr (.inl ⟨i, hi, .inl rfl⟩)))
    have hrow : ∀ {v : Value} {n : Nat} {xs : List Value}, w.ownsRow B 43 1 v n xs → v.ownBlock = some k → w.heap[k]? ≠ some (.cells cs 79 (0, 0)) := fun hr e => by
      obtain ⟨cur, hcur⟩ := row_obj hr e
      rw [hcur]
      intro e
      injection e with e
      injection e with _ e
      exact absurd e (by decide)
    rcases hk with rfl | e | e
    · exact box_not hX.box (by decide) cs
    · exact hrow hX.rowL e
    · exact hrow hX.rowW e
  · exact (h.ref i hi).chg hc (hn _ (.inr (.inl ⟨i, hi, .inr (.inl rfl)⟩))) fun k hk => hn k (.inr (.inl ⟨i, hi, .inr (.inr hk)⟩))
theorem box_apart {B xb M b : Nat} {t : TypeId} {ar : Array Value} {Lx Wx : Value} {us ws : List Value} {w w' : World} (h : Box w b t ar) (ht : t ≠ 72 ∧ t ≠ 43) (hX : LX B xb M Lx Wx us ws w) (hc : Chg (fun k => k = xb ∨ Lx.ownBlock = some k ∨ Wx.ownBlock = some k) w w') : Box w' b t ar := by
  refine h.chg hc ?_
  rintro (e | e | e)
  · exact box_box h hX.box ht.1 e
  · exact box_row h hX.rowL ht.2 e
  · exact box_row h hX.rowW ht.2 e
theorem low_apart {B xb M : Nat} {Lx Wx : Value} {us ws : List Value} {w w' : World} (hX : LX B xb M Lx Wx us ws w) (hB : B ≤ w.heap.size) (hc : Chg (fun k => k = xb ∨ Lx.ownBlock = some k ∨ Wx.ownBlock = some k) w w') : Below B w w' :=
  hc.below hB fun k hk => by
    rcases hk with rfl | e | e
    · exact hX.low
    · exact row_ge hX.rowL e
    · exact row_ge hX.rowW e

set_option maxRecDepth 100000 in
set_option maxHeartbeats 8000000 in
theorem untold_any (A : Option Addr) (n c : Nat) (ms : List Mv) (w : World) (hA : Rd w w.heap.size A (ms.flatMap mvC)) (hn : ms.length = n) (hN : n ≤ 2000000) (hok : ∀ m ∈ ms, m.Ok) :
    Calls Try.prog 9 #[.slice A n c] w fun e w' => e = .returned (.bool true) ∧ Below w.heap.size w w' := by
  have H := Lib.hid (And.intro hA (And.intro hn hok))
  clear hA hn hok
  go_enter Try.func9, Try.ntmps9
  go_wp2_with (first
    | (go_at_call 4
       refine (new_any w).mono ?_
       rintro e w1 ⟨rfl, hd1, hb1⟩
       have hs1 := hb1.size
       have hl1 := hd1.lt
       have H1 := Lib.hid (And.intro hd1 hb1)
       have T0 := Lib.hid hs1
       clear hd1 hb1)
    | (go_at_call 5
       have z0 := T0
       clear z0
       refine (new8 w.heap.size _).mono ?_
       rintro e w4 ⟨rfl, hr4, hb4⟩
       have hs4 := hb4.size
       have hl4 := hr4.1.lt
       simp only [World.size_alloc] at hb4 hs4 hl4 hr4
       have H4 := Lib.hid (And.intro hr4 hb4)
       have T1 := Lib.hid hs4
       clear hr4 hb4 T0)
    | (go_at_call 5
       have z1 := T1
       clear z1
       refine (new8 w.heap.size _).mono ?_
       rintro e w5 ⟨rfl, hr5, hb5⟩
       have hs5 := hb5.size
       have hl5 := hr5.1.lt
       have H5 := Lib.hid (And.intro hr5 hb5)
       clear hr5 hb5 T1))
  have hbA : Below w1.heap.size w1 ((w1.alloc (.cells #[.pointer none] 28)).alloc (.cells #[.pointer (some ⟨w.heap.size, 0, none⟩), .pointer (some ⟨w1.heap.size, 0, none⟩)] 23)) := by repeat (first | exact Below.refl _ _ | refine Below.alloc ?_ (by simp <;> omega) _)
  have hbB : Below w5.heap.size w5 ((w5.alloc (.cells #[.pointer (some ⟨w1.heap.size + 1 + 1, 0, none⟩), .pointer (some ⟨w4.heap.size, 0, none⟩)] 30)).alloc (.cells #[.slice (some ⟨w1.heap.size + 1, 0, none⟩) 2 2, .slice (some ⟨w5.heap.size, 0, none⟩) 2 2, .slice none 0 0] 35)) := by repeat (first | exact Below.refl _ _ | refine Below.alloc ?_ (by simp <;> omega) _)
  have hb34 : Below (w1.heap.size + 1 + 1) ((w1.alloc (.cells #[.pointer none] 28)).alloc (.cells #[.pointer (some ⟨w.heap.size, 0, none⟩), .pointer (some ⟨w1.heap.size, 0, none⟩)] 23)) w4 := H4.out.2
  have b17 : Below w1.heap.size w1 ((w5.alloc (.cells #[.pointer (some ⟨w1.heap.size + 1 + 1, 0, none⟩), .pointer (some ⟨w4.heap.size, 0, none⟩)] 30)).alloc (.cells #[.slice (some ⟨w1.heap.size + 1, 0, none⟩) 2 2, .slice (some ⟨w5.heap.size, 0, none⟩) 2 2, .slice none 0 0] 35)) := ((hbA.trans (hb34.mono (by omega))).trans (H5.out.2.mono (by omega))).trans (hbB.mono (by omega))
  have b37 : Below (w1.heap.size + 1 + 1) ((w1.alloc (.cells #[.pointer none] 28)).alloc (.cells #[.pointer (some ⟨w.heap.size, 0, none⟩), .pointer (some ⟨w1.heap.size, 0, none⟩)] 23)) ((w5.alloc (.cells #[.pointer (some ⟨w1.heap.size + 1 + 1, 0, none⟩), .pointer (some ⟨w4.heap.size, 0, none⟩)] 30)).alloc (.cells #[.slice (some ⟨w1.heap.size + 1, 0, none⟩) 2 2, .slice (some ⟨w5.heap.size, 0, none⟩) 2 2, .slice none 0 0] 35)) := (hb34.trans (H5.out.2.mono (by omega))).trans (hbB.mono (by omega))
  have b47 : Below w4.heap.size w4 ((w5.alloc (.cells #[.pointer (some ⟨w1.heap.size + 1 + 1, 0, none⟩), .pointer (some ⟨w4.heap.size, 0, none⟩)] 30)).alloc (.cells #[.slice (some ⟨w1.heap.size + 1, 0, none⟩) 2 2, .slice (some ⟨w5.heap.size, 0, none⟩) 2 2, .slice none 0 0] 35)) := H5.out.2.trans (hbB.mono (by omega))
  have hd1' : DR ((w1.alloc (.cells #[.pointer none] 28)).alloc (.cells #[.pointer (some ⟨w.heap.size, 0, none⟩), .pointer (some ⟨w1.heap.size, 0, none⟩)] 23)) w1.heap.size [] := (dir_zero w1).next (bal _ _)
  have hg3 := Box.new (w1.alloc (.cells #[.pointer none] 28)) 23 #[.pointer (some ⟨w.heap.size, 0, none⟩), .pointer (some ⟨w1.heap.size, 0, none⟩)]
  have hg6 := Box.new w5 30 #[.pointer (some ⟨w1.heap.size + 1 + 1, 0, none⟩), .pointer (some ⟨w4.heap.size, 0, none⟩)]
  have hw7 := Box.new (w5.alloc (.cells #[.pointer (some ⟨w1.heap.size + 1 + 1, 0, none⟩), .pointer (some ⟨w4.heap.size, 0, none⟩)] 30)) 35 #[.slice (some ⟨w1.heap.size + 1, 0, none⟩) 2 2, .slice (some ⟨w5.heap.size, 0, none⟩) 2 2, .slice none 0 0]
  simp only [World.size_alloc] at hg3 hw7
  have hz3 : ((w1.alloc (.cells #[.pointer none] 28)).alloc (.cells #[.pointer (some ⟨w.heap.size, 0, none⟩), .pointer (some ⟨w1.heap.size, 0, none⟩)] 23)).heap.size = w1.heap.size + 1 + 1 := by simp
  have hDW : DW w.heap.size (w5.heap.size + 1) (.slice none 0 0) 0 (Start w.heap.size w1.heap.size (w1.heap.size + 1 + 1) w4.heap.size (w1.heap.size + 1) w5.heap.size) ((w5.alloc (.cells #[.pointer (some ⟨w1.heap.size + 1 + 1, 0, none⟩), .pointer (some ⟨w4.heap.size, 0, none⟩)] 30)).alloc (.cells #[.slice (some ⟨w1.heap.size + 1, 0, none⟩) 2 2, .slice (some ⟨w5.heap.size, 0, none⟩) 2 2, .slice none 0 0] 35)) :=
    DW.start hw7 (hg3.below b37 (by omega)) (hg6.alloc _) (H1.out.1.next b17) (hd1'.next (by rw [hz3]; exact b37)) (H4.out.1.below b47) (H5.out.1.below hbB) (by omega) (by omega) ⟨by omega, by omega, by omega, by omega, by omega, by omega, by omega⟩
  have hB07 : Below w.heap.size w ((w5.alloc (.cells #[.pointer (some ⟨w1.heap.size + 1 + 1, 0, none⟩), .pointer (some ⟨w4.heap.size, 0, none⟩)] 30)).alloc (.cells #[.slice (some ⟨w1.heap.size + 1, 0, none⟩) 2 2, .slice (some ⟨w5.heap.size, 0, none⟩) 2 2, .slice none 0 0] 35)) := H1.out.2.trans (b17.mono (by omega))
  have hz7 : ((w5.alloc (.cells #[.pointer (some ⟨w1.heap.size + 1 + 1, 0, none⟩), .pointer (some ⟨w4.heap.size, 0, none⟩)] 30)).alloc (.cells #[.slice (some ⟨w1.heap.size + 1, 0, none⟩) 2 2, .slice (some ⟨w5.heap.size, 0, none⟩) 2 2, .slice none 0 0] 35)).heap.size = w5.heap.size + 1 + 1 := by simp
  generalize hW7 : ((w5.alloc (.cells #[.pointer (some ⟨w1.heap.size + 1 + 1, 0, none⟩), .pointer (some ⟨w4.heap.size, 0, none⟩)] 30)).alloc (.cells #[.slice (some ⟨w1.heap.size + 1, 0, none⟩) 2 2, .slice (some ⟨w5.heap.size, 0, none⟩) 2 2, .slice none 0 0] 35)) = W7 at hDW hB07 hz7 ⊢
  clear hW7 hbA hbB hb34 b17 b37 b47 hd1' hg3 hg6 hw7 hz3
  obtain ⟨s0, hs0⟩ : ∃ s0, s0 = (Start w.heap.size w1.heap.size (w1.heap.size + 1 + 1) w4.heap.size (w1.heap.size + 1) w5.heap.size) := ⟨_, rfl⟩
  rw [← hs0] at hDW
  clear hs0
  have hxb := Box.new W7 72 #[.slice none 0 0, .slice none 0 0]
  have hb8 := bal W7 (.cells #[.slice none 0 0, .slice none 0 0] 72)
  have hf8 : ∀ k, Foot (w5.heap.size + 1) s0 k → k < W7.heap.size := fun k hk => hDW.foot_lt hk
  generalize hW8 : W7.alloc (.cells #[.slice none 0 0, .slice none 0 0] 72) = W8 at hxb hb8 ⊢
  clear hW8
  have hD8 := hDW.next hb8
  have hB8 : Below w.heap.size w W8 := hB07.trans (hb8.mono hB07.size)
  rw [hz7] at hxb hf8
  obtain ⟨wb, hwb⟩ : ∃ wb, w5.heap.size + 1 = wb := ⟨_, rfl⟩
  rw [hwb] at hxb hf8 hD8 ⊢
  have hwl : w.heap.size ≤ wb + 1 := by omega
  have hX8 : LX w.heap.size (wb + 1) 3000000 (.slice none 0 0) (.slice none 0 0) [] [] W8 :=
    ⟨hxb, World.ownsRow_nil _ _ _ _, World.ownsRow_nil _ _ _ _, rfl, fun k u z hu => by simp at hu, fun i j b u v hu => by simp at hu, fun k hk => (by cases hk), hwl⟩
  have hfar8 : ∀ k, LXF (wb + 1) (.slice none 0 0) (.slice none 0 0) [] [] k → ¬ Foot wb s0 k := fun k hk hf => by
    have := hf8 k hf
    rcases hk with e | e | e | ⟨u, hu, _⟩ | ⟨u, hu, _⟩
    · omega
    · cases e
    · cases e
    · cases hu
    · cases hu
  obtain ⟨xb, hxbe⟩ : ∃ xb, wb + 1 = xb := ⟨_, rfl⟩
  rw [hxbe] at hX8 hfar8 ⊢
  have H8 := Lib.hid (And.intro hD8 (And.intro hX8 (And.intro hfar8 hB8)))
  clear hDW hB07 hz7 hxb hb8 hf8 hD8 hB8 hwb hwl hX8 hfar8 hxbe
  go_loopw [5] (fun t wr => ∃ (i : Nat) (s : St) (Lx Wx : Value) (us ws : List Value), i ≤ n ∧ t = .int .i64 (i : Nat) ∧ DW w.heap.size wb (.slice none 0 0) i s wr ∧ LX w.heap.size xb 3000000 Lx Wx us ws wr ∧ (∀ k, LXF xb Lx Wx us ws k → ¬ Foot wb s k) ∧ us.length ≤ 401 ∧ Below w.heap.size w wr) (fun t _ => n - (intOf t).toNat)
  case atStart => exact ⟨0, s0, _, _, [], [], Nat.zero_le _, rfl, H8.out.1, H8.out.2.1, H8.out.2.2.1, by simp, H8.out.2.2.2⟩
  case round =>
    obtain ⟨i, s, Lx, Wx, us, ws, hi, rfl, hD, hX, hfar, hul, hB⟩ := hrel
    have hBs := hB.size
    by_cases hlt : i < n
    · have hi1 : (i : Int) < n := by omega
      have hi0 : (0 : Int) ≤ i := by omega
      have hil : i < ms.length := by rw [H.out.2.1]; exact hlt
      obtain ⟨ad, rfl, had, a0, a1, a2, a3, a4, a5, a6, a7, a8, a9, a10⟩ := (H.out.1.below hB).mv hil
      have hmok := H.out.2.2 ms[i] (List.getElem_mem hil)
      generalize ms[i] = m at a0 a1 a2 a3 a4 a5 a6 a7 a8 a9 a10 hmok
      obtain ⟨dir, kind, key, hi, en, nn⟩ := m
      obtain ⟨g, c1, g', c2, hs⟩ := hD.split
      obtain ⟨ns, hns⟩ : ∃ ns, s.n = ns := ⟨_, rfl⟩
      rw [hs, hns] at hD hfar
      simp only at a0 a1 a2 a3 a4 a5 a6 a7 a8 a9 a10
      have hbm := Box.new wr 40 #[.int .i64 dir, .int .i64 kind, .string key, .string hi, .int .i64 en.seg, .int .i64 en.at_, .int .i64 en.size, .int .i64 en.off, .int .i64 en.time, .bool en.tomb, .int .i64 nn]
      have hb9 := bal wr (.cells #[.int .i64 dir, .int .i64 kind, .string key, .string hi, .int .i64 en.seg, .int .i64 en.at_, .int .i64 en.size, .int .i64 en.off, .int .i64 en.time, .bool en.tomb, .int .i64 nn] 40)
      have hbmc := hbm.cell
      have HR := Lib.hid (And.intro hD (And.intro hX (And.intro hfar (And.intro hul (And.intro hB (And.intro hmok (And.intro hbm hb9)))))))
      clear hD hX hfar hul hB hmok hbm hb9 hs hns
      by_cases hk : kind = 7
      · subst hk
        go_wp2
        obtain ⟨tb, htb⟩ : ∃ tb, wr.heap.size = tb := ⟨_, rfl⟩
        have hD9 := HR.out.1.next HR.out.2.2.2.2.2.2.2
        have hX9 := HR.out.2.1.next HR.out.2.2.2.2.2.2.2
        have hbm9 := HR.out.2.2.2.2.2.2.1
        have hB9 : Below w.heap.size w (wr.alloc (.cells #[.int .i64 dir, .int .i64 7, .string key, .string hi, .int .i64 en.seg, .int .i64 en.at_, .int .i64 en.size, .int .i64 en.off, .int .i64 en.time, .bool en.tomb, .int .i64 nn] 40)) := HR.out.2.2.2.2.1.trans (HR.out.2.2.2.2.2.2.2.mono hBs)
        rw [htb] at hbm9 ⊢
        have H9 := Lib.hid (And.intro hD9 (And.intro hX9 (And.intro hbm9 hB9)))
        obtain ⟨hn0, hc1, hc2⟩ := hD9.caps
        clear hD9 hX9 hbm9 hB9 hbmc a0 a1 a2 a3 a4 a5 a6 a7 a8 a9 a10 htb
        go_loopw [7, 8] (fun ok kk wq => ∃ (k : Nat) (Lx Wx : Value) (us ws : List Value), ok = .bool true ∧ kk = .int .i64 (k : Nat) ∧ k ≤ 2 * ns ∧ DW w.heap.size wb (.slice none 0 0) i (St.at ns s.ds s.rs s.vs s.ls g c1 g' c2) wq ∧ LX w.heap.size xb 3000000 Lx Wx us ws wq ∧ (∀ k, LXF xb Lx Wx us ws k → ¬ Foot wb (St.at ns s.ds s.rs s.vs s.ls g c1 g' c2) k) ∧ us.length ≤ 401 ∧ Box wq tb 40 #[.int .i64 dir, .int .i64 7, .string key, .string hi, .int .i64 en.seg, .int .i64 en.at_, .int .i64 en.size, .int .i64 en.off, .int .i64 en.time, .bool en.tomb, .int .i64 nn] ∧ Below w.heap.size w wq) (fun _ kk _ => 2 * ns - (intOf kk).toNat)
        case atStart => exact ⟨0, Lx, Wx, us, ws, rfl, rfl, Nat.zero_le _, H9.out.1, H9.out.2.1, HR.out.2.2.1, HR.out.2.2.2.1, H9.out.2.2.1, H9.out.2.2.2⟩
        case round =>
          obtain ⟨k, Lx, Wx, us, ws, rfl, rfl, hk2, hD, hX, hfar, hul, hbm, hB⟩ := hrel
          obtain ⟨AL, cL, hLx⟩ := row_slice hX.rowL
          obtain ⟨mu, hmu⟩ : ∃ mu, us.length = mu := ⟨_, rfl⟩
          rw [hmu] at hLx hul
          subst hLx
          have hxc := hX.box.cell
          have hwc := (hD.look (i := 0) (by omega)).2
          have hmc := hbm.cell
          have hws := hB.size
          have HK := Lib.hid (And.intro hD (And.intro hX (And.intro hfar (And.intro hmu (And.intro hbm hB)))))
          clear hD hX hfar hmu hbm hB
          by_cases hu4 : mu < 400
          · have u1 : decide ((mu : Int) < 400) = true := decide_eq_true (by omega)
            have u2' : decide (mu < 400) = true := decide_eq_true hu4
            by_cases hk3 : k < 2 * ns
            · have v1 : decide ((k : Int) < 2 * ns) = true := decide_eq_true (by omega)
              have v2 : decide (k < 2 * ns) = true := decide_eq_true hk3
              have v3 : (k : Int) < 2 * ns := by omega
              obtain ⟨q, hq⟩ : ∃ q, k % ns = q := ⟨_, rfl⟩
              have hqn : q < ns := by rw [← hq]; exact Nat.mod_lt _ (by omega)
              have hqt : (k : Int).tmod (ns : Int) = (q : Int) := by rw [← hq]; rfl
              have hnz : ¬ (ns : Int) = 0 := by omega
              clear hq
              go_wp2
              obtain ⟨W3, hW3⟩ : ∃ W3, wr.drew = W3 := ⟨_, rfl⟩
              have hb3 : Below wr.heap.size wr W3 := by rw [← hW3]; exact (Below.refl _ wr).drew
              have hD3 := HK.out.1.next hb3
              have hX3 := HK.out.2.1.next hb3
              have hm3 := HK.out.2.2.2.2.1.below hb3 HK.out.2.2.2.2.1.lt
              have hB3 : Below w.heap.size w W3 := HK.out.2.2.2.2.2.trans (hb3.mono hws)
              obtain ⟨⟨q1, q2⟩, q3⟩ := hD3.look hqn
              have hS0 : (fun w' : World => w'.cell? ⟨wb, 0, none⟩ = some (.slice (some ⟨g, 0, none⟩) ns c1) ∧ w'.cell? ⟨wb, 1, none⟩ = some (.slice (some ⟨g', 0, none⟩) ns c2) ∧ w'.cell? ⟨g, q, none⟩ = some (.pointer (some ⟨s.ds q, 0, none⟩)) ∧ w'.cell? ⟨g', q, none⟩ = some (.pointer (some ⟨s.rs q, 0, none⟩)) ∧ w'.cell? ⟨tb, 2, none⟩ = some (.string key) ∧ w'.cell? ⟨tb, 3, none⟩ = some (.string hi) ∧ w'.cell? ⟨tb, 10, none⟩ = some (.int .i64 nn)) W3 := ⟨q3 0, q3 1, q1, q2, hm3.cell 2, hm3.cell 3, hm3.cell 10⟩
              have hs3 := hB3.size
              have H3 := Lib.hid (And.intro hD3 (And.intro hX3 (And.intro hm3 hB3)))
              clear hD3 hX3 hm3 hB3 hb3 q1 q2 q3 hxc hwc hmc
              refine WT.start (fun w' : World => w'.cell? ⟨wb, 0, none⟩ = some (.slice (some ⟨g, 0, none⟩) ns c1) ∧ w'.cell? ⟨wb, 1, none⟩ = some (.slice (some ⟨g', 0, none⟩) ns c2) ∧ w'.cell? ⟨g, q, none⟩ = some (.pointer (some ⟨s.ds q, 0, none⟩)) ∧ w'.cell? ⟨g', q, none⟩ = some (.pointer (some ⟨s.rs q, 0, none⟩)) ∧ w'.cell? ⟨tb, 2, none⟩ = some (.string key) ∧ w'.cell? ⟨tb, 3, none⟩ = some (.string hi) ∧ w'.cell? ⟨tb, 10, none⟩ = some (.int .i64 nn)) 40 (by kernel_rfl) ?_
              rw [hW3]
              clear hW3
              refine WT.take 0 (v := ?_) rfl (by kernel_rfl) (by kernel_rfl) (by kernel_rfl) (by kernel_rfl) (fun _ _ _ h => h) (Or.inl ⟨by rfl, ?hy⟩) hS0 ?_
              case hy => first | (intro w hSw; go_simp; done) | (intro w hSw; go_simp; with_reducible rfl)
              simp only [Act.put, List.setIfInBounds_toArray, List.set_cons_zero, List.set_cons_succ]
              refine WT.take 1 (v := ?_) rfl (by kernel_rfl) (by kernel_rfl) (by kernel_rfl) (by kernel_rfl) (fun _ _ _ h => h) (Or.inl ⟨by rfl, ?hy⟩) hS0 ?_
              case hy => first | (intro w hSw; go_simp; done) | (intro w hSw; go_simp; with_reducible rfl)
              simp only [Act.put, List.setIfInBounds_toArray, List.set_cons_zero, List.set_cons_succ]
              refine WT.take 2 (v := ?_) rfl (by kernel_rfl) (by kernel_rfl) (by kernel_rfl) (by kernel_rfl) (fun _ _ _ h => h) (Or.inl ⟨by rfl, ?hy⟩) hS0 ?_
              case hy => first | (intro w hSw; go_simp; done) | (intro w hSw; go_simp; with_reducible rfl)
              simp only [Act.put, List.setIfInBounds_toArray, List.set_cons_zero, List.set_cons_succ]
              refine WT.take 3 (v := ?_) rfl (by kernel_rfl) (by kernel_rfl) (by kernel_rfl) (by kernel_rfl) (fun _ _ _ h => h) (Or.inl ⟨by rfl, ?hy⟩) hS0 ?_
              case hy => first | (intro w hSw; go_simp; done) | (intro w hSw; go_simp; with_reducible rfl)
              simp only [Act.put, List.setIfInBounds_toArray, List.set_cons_zero, List.set_cons_succ]
              refine WT.take 4 (v := ?_) rfl (by kernel_rfl) (by kernel_rfl) (by kernel_rfl) (by kernel_rfl) (fun _ _ _ h => h) (Or.inl ⟨by rfl, ?hy⟩) hS0 ?_
              case hy => first | (intro w hSw; go_simp; done) | (intro w hSw; go_simp; with_reducible rfl)
              simp only [Act.put, List.setIfInBounds_toArray, List.set_cons_zero, List.set_cons_succ]
              refine WT.take 5 (v := ?_) rfl (by kernel_rfl) (by kernel_rfl) (by kernel_rfl) (by kernel_rfl) (fun _ _ _ h => h) (Or.inl ⟨by rfl, ?hy⟩) hS0 ?_
              case hy => first | (intro w hSw; go_simp; done) | (intro w hSw; go_simp; with_reducible rfl)
              simp only [Act.put, List.setIfInBounds_toArray, List.set_cons_zero, List.set_cons_succ]
              refine WT.take 6 (v := ?_) rfl (by kernel_rfl) (by kernel_rfl) (by kernel_rfl) (by kernel_rfl) (fun _ _ _ h => h) (Or.inl ⟨by rfl, ?hy⟩) hS0 ?_
              case hy => first | (intro w hSw; go_simp; done) | (intro w hSw; go_simp; with_reducible rfl)
              simp only [Act.put, List.setIfInBounds_toArray, List.set_cons_zero, List.set_cons_succ]
              refine WT.take 7 (v := ?_) rfl (by kernel_rfl) (by kernel_rfl) (by kernel_rfl) (by kernel_rfl) (fun _ _ _ h => h) (Or.inl ⟨by rfl, ?hy⟩) hS0 ?_
              case hy => first | (intro w hSw; go_simp; done) | (intro w hSw; go_simp; with_reducible rfl)
              simp only [Act.put, List.setIfInBounds_toArray, List.set_cons_zero, List.set_cons_succ]
              refine WT.take 8 (v := ?_) rfl (by kernel_rfl) (by kernel_rfl) (by kernel_rfl) (by kernel_rfl) (fun _ _ _ h => h) (Or.inl ⟨by rfl, ?hy⟩) hS0 ?_
              case hy => first | (intro w hSw; go_simp; done) | (intro w hSw; go_simp; with_reducible rfl)
              simp only [Act.put, List.setIfInBounds_toArray, List.set_cons_zero, List.set_cons_succ]
              refine WT.take 9 (v := ?_) rfl (by kernel_rfl) (by kernel_rfl) (by kernel_rfl) (by kernel_rfl) (fun _ _ _ h => h) (Or.inl ⟨by rfl, ?hy⟩) hS0 ?_
              case hy => first | (intro w hSw; go_simp; done) | (intro w hSw; go_simp; with_reducible rfl)
              simp only [Act.put, List.setIfInBounds_toArray, List.set_cons_zero, List.set_cons_succ]
              refine WT.take 10 (v := ?_) rfl (by kernel_rfl) (by kernel_rfl) (by kernel_rfl) (by kernel_rfl) (fun _ _ _ h => h) (Or.inl ⟨by rfl, ?hy⟩) hS0 ?_
              case hy => first | (intro w hSw; go_simp; done) | (intro w hSw; go_simp; with_reducible rfl)
              simp only [Act.put, List.setIfInBounds_toArray, List.set_cons_zero, List.set_cons_succ]
              refine WT.take 11 (v := ?_) rfl (by kernel_rfl) (by kernel_rfl) (by kernel_rfl) (by kernel_rfl) (fun _ _ _ h => h) (Or.inl ⟨by rfl, ?hy⟩) hS0 ?_
              case hy => first | (intro w hSw; go_simp; done) | (intro w hSw; go_simp; with_reducible rfl)
              simp only [Act.put, List.setIfInBounds_toArray, List.set_cons_zero, List.set_cons_succ]
              refine WT.take 12 (v := ?_) rfl (by kernel_rfl) (by kernel_rfl) (by kernel_rfl) (by kernel_rfl) (fun _ _ _ h => h) (Or.inl ⟨by rfl, ?hy⟩) hS0 ?_
              case hy => first | (intro w hSw; go_simp; done) | (intro w hSw; go_simp; with_reducible rfl)
              simp only [Act.put, List.setIfInBounds_toArray, List.set_cons_zero, List.set_cons_succ]
              refine WT.take 13 (v := ?_) rfl (by kernel_rfl) (by kernel_rfl) (by kernel_rfl) (by kernel_rfl) (fun _ _ _ h => h) (Or.inl ⟨by rfl, ?hy⟩) hS0 ?_
              case hy => first | (intro w hSw; go_simp; done) | (intro w hSw; go_simp; with_reducible rfl)
              simp only [Act.put, List.setIfInBounds_toArray, List.set_cons_zero, List.set_cons_succ]
              refine WT.take 14 (v := ?_) rfl (by kernel_rfl) (by kernel_rfl) (by kernel_rfl) (by kernel_rfl) (fun _ _ _ h => h) (Or.inl ⟨by rfl, ?hy⟩) hS0 ?_
              case hy => first | (intro w hSw; go_simp; done) | (intro w hSw; go_simp; with_reducible rfl)
              simp only [Act.put, List.setIfInBounds_toArray, List.set_cons_zero, List.set_cons_succ]
              refine WT.take 15 (v := ?_) rfl (by kernel_rfl) (by kernel_rfl) (by kernel_rfl) (by kernel_rfl) (fun _ _ _ h => h) (Or.inl ⟨by rfl, ?hy⟩) hS0 ?_
              case hy => first | (intro w hSw; go_simp; done) | (intro w hSw; go_simp; with_reducible rfl)
              simp only [Act.put, List.setIfInBounds_toArray, List.set_cons_zero, List.set_cons_succ]
              refine WT.take 16 (v := ?_) rfl (by kernel_rfl) (by kernel_rfl) (by kernel_rfl) (by kernel_rfl) (fun _ _ _ h => h) (Or.inl ⟨by rfl, ?hy⟩) hS0 ?_
              case hy => first | (intro w hSw; go_simp; done) | (intro w hSw; go_simp; with_reducible rfl)
              simp only [Act.put, List.setIfInBounds_toArray, List.set_cons_zero, List.set_cons_succ]
              refine WT.take 17 (v := ?_) rfl (by kernel_rfl) (by kernel_rfl) (by kernel_rfl) (by kernel_rfl) (fun _ _ _ h => h) (Or.inl ⟨by rfl, ?hy⟩) hS0 ?_
              case hy => first | (intro w hSw; go_simp; done) | (intro w hSw; go_simp; with_reducible rfl)
              simp only [Act.put, List.setIfInBounds_toArray, List.set_cons_zero, List.set_cons_succ]
              refine WT.take 18 (v := ?_) rfl (by kernel_rfl) (by kernel_rfl) (by kernel_rfl) (by kernel_rfl) (fun _ _ _ h => h) (Or.inl ⟨by rfl, ?hy⟩) hS0 ?_
              case hy => first | (intro w hSw; go_simp; done) | (intro w hSw; go_simp; with_reducible rfl)
              simp only [Act.put, List.setIfInBounds_toArray, List.set_cons_zero, List.set_cons_succ]
              refine WT.take 19 (v := ?_) rfl (by kernel_rfl) (by kernel_rfl) (by kernel_rfl) (by kernel_rfl) (fun _ _ _ h => h) (Or.inl ⟨by rfl, ?hy⟩) hS0 ?_
              case hy => first | (intro w hSw; go_simp; done) | (intro w hSw; go_simp; with_reducible rfl)
              simp only [Act.put, List.setIfInBounds_toArray, List.set_cons_zero, List.set_cons_succ]
              refine WT.take 20 (v := ?_) rfl (by kernel_rfl) (by kernel_rfl) (by kernel_rfl) (by kernel_rfl) (fun _ _ _ h => h) (Or.inl ⟨by rfl, ?hy⟩) hS0 ?_
              case hy => first | (intro w hSw; go_simp; done) | (intro w hSw; go_simp; with_reducible rfl)
              simp only [Act.put, List.setIfInBounds_toArray, List.set_cons_zero, List.set_cons_succ]
              refine WT.step 21 rfl (by kernel_rfl) (by decide) fun K hK => ?_
              go_simp
              go_at_call 38
              have hlq := H3.out.1.len q hqn
              simp only at hlq
              refine (asked_any w.heap.size xb 3000000 mu (s.ds q) (s.rs q) (s.vs q) (s.ls q) key hi nn (.slice AL mu cL) Wx us ws _ (H3.out.1.dir q hqn) (H3.out.1.ref q hqn) H3.out.2.1 HR.out.2.2.2.2.2.1.key HR.out.2.2.2.2.2.1.hi HR.out.2.2.2.2.2.1.top (by omega) (by omega) HK.out.2.2.2.1 (by omega) H3.out.2.2.2.size).mono ?_
              rintro e w1 ⟨rfl, Lx1, Wx1, us1, ws1, hmu1', hXn, hcn, hfn⟩
              have hmu4 := hmu1'
              have hfar1 : ∀ k, LXF xb Lx1 Wx1 us1 ws1 k → ¬ Foot wb (St.at ns s.ds s.rs s.vs s.ls g c1 g' c2) k := fun k hk hf => by
                rcases hfn k hk with e | e
                · exact HK.out.2.2.1 k e hf
                · have := H3.out.1.foot_lt hf
                  omega
              have hDn := H3.out.1.apart H3.out.2.1 HK.out.2.2.1 hcn
              have hmn := box_apart H3.out.2.2.1 (by decide) H3.out.2.1 hcn
              have hBn : Below w.heap.size w w1 := H3.out.2.2.2.trans (low_apart H3.out.2.1 H3.out.2.2.2.size hcn)
              obtain ⟨⟨q1, q2⟩, q3⟩ := hDn.look hqn
              have hS1 : (fun w' : World => w'.cell? ⟨wb, 0, none⟩ = some (.slice (some ⟨g, 0, none⟩) ns c1) ∧ w'.cell? ⟨wb, 1, none⟩ = some (.slice (some ⟨g', 0, none⟩) ns c2) ∧ w'.cell? ⟨g, q, none⟩ = some (.pointer (some ⟨s.ds q, 0, none⟩)) ∧ w'.cell? ⟨g', q, none⟩ = some (.pointer (some ⟨s.rs q, 0, none⟩)) ∧ w'.cell? ⟨tb, 2, none⟩ = some (.string key) ∧ w'.cell? ⟨tb, 3, none⟩ = some (.string hi) ∧ w'.cell? ⟨tb, 10, none⟩ = some (.int .i64 nn)) w1 := ⟨q3 0, q3 1, q1, q2, hmn.cell 2, hmn.cell 3, hmn.cell 10⟩
              have HA1 := Lib.hid (And.intro hDn (And.intro hXn (And.intro hmn hBn)))
              have HF1 := Lib.hid hfar1
              clear hDn hXn hmn hBn q1 q2 q3 hfn hcn hlq hmu1'
              go_simp
              refine hK.out _ _ hS1 ?_
              clear hK K
              refine WT.take 22 (v := ?_) rfl (by kernel_rfl) (by kernel_rfl) (by kernel_rfl) (by kernel_rfl) (fun _ _ _ h => h) (Or.inl ⟨by rfl, ?hy⟩) hS1 ?_
              case hy => first | (intro w hSw; go_simp; done) | (intro w hSw; go_simp; with_reducible rfl)
              simp only [Act.put, List.setIfInBounds_toArray, List.set_cons_zero, List.set_cons_succ]
              refine WT.take 23 (v := ?_) rfl (by kernel_rfl) (by kernel_rfl) (by kernel_rfl) (by kernel_rfl) (fun _ _ _ h => h) (Or.inl ⟨by rfl, ?hy⟩) hS1 ?_
              case hy => first | (intro w hSw; go_simp; done) | (intro w hSw; go_simp; with_reducible rfl)
              simp only [Act.put, List.setIfInBounds_toArray, List.set_cons_zero, List.set_cons_succ]
              refine WT.take 24 (v := ?_) rfl (by kernel_rfl) (by kernel_rfl) (by kernel_rfl) (by kernel_rfl) (fun _ _ _ h => h) (Or.inl ⟨by rfl, ?hy⟩) hS1 ?_
              case hy => first | (intro w hSw; go_simp; done) | (intro w hSw; go_simp; with_reducible rfl)
              simp only [Act.put, List.setIfInBounds_toArray, List.set_cons_zero, List.set_cons_succ]
              refine WT.take 25 (v := ?_) rfl (by kernel_rfl) (by kernel_rfl) (by kernel_rfl) (by kernel_rfl) (fun _ _ _ h => h) (Or.inl ⟨by rfl, ?hy⟩) hS1 ?_
              case hy => first | (intro w hSw; go_simp; done) | (intro w hSw; go_simp; with_reducible rfl)
              simp only [Act.put, List.setIfInBounds_toArray, List.set_cons_zero, List.set_cons_succ]
              refine WT.take 26 (v := ?_) rfl (by kernel_rfl) (by kernel_rfl) (by kernel_rfl) (by kernel_rfl) (fun _ _ _ h => h) (Or.inl ⟨by rfl, ?hy⟩) hS1 ?_
              case hy => first | (intro w hSw; go_simp; done) | (intro w hSw; go_simp; with_reducible rfl)
              simp only [Act.put, List.setIfInBounds_toArray, List.set_cons_zero, List.set_cons_succ]
              refine WT.take 27 (v := ?_) rfl (by kernel_rfl) (by kernel_rfl) (by kernel_rfl) (by kernel_rfl) (fun _ _ _ h => h) (Or.inl ⟨by rfl, ?hy⟩) hS1 ?_
              case hy => first | (intro w hSw; go_simp; done) | (intro w hSw; go_simp; with_reducible rfl)
              simp only [Act.put, List.setIfInBounds_toArray, List.set_cons_zero, List.set_cons_succ]
              refine WT.take 28 (v := ?_) rfl (by kernel_rfl) (by kernel_rfl) (by kernel_rfl) (by kernel_rfl) (fun _ _ _ h => h) (Or.inl ⟨by rfl, ?hy⟩) hS1 ?_
              case hy => first | (intro w hSw; go_simp; done) | (intro w hSw; go_simp; with_reducible rfl)
              simp only [Act.put, List.setIfInBounds_toArray, List.set_cons_zero, List.set_cons_succ]
              refine WT.take 29 (v := ?_) rfl (by kernel_rfl) (by kernel_rfl) (by kernel_rfl) (by kernel_rfl) (fun _ _ _ h => h) (Or.inl ⟨by rfl, ?hy⟩) hS1 ?_
              case hy => first | (intro w hSw; go_simp; done) | (intro w hSw; go_simp; with_reducible rfl)
              simp only [Act.put, List.setIfInBounds_toArray, List.set_cons_zero, List.set_cons_succ]
              refine WT.take 30 (v := ?_) rfl (by kernel_rfl) (by kernel_rfl) (by kernel_rfl) (by kernel_rfl) (fun _ _ _ h => h) (Or.inl ⟨by rfl, ?hy⟩) hS1 ?_
              case hy => first | (intro w hSw; go_simp; done) | (intro w hSw; go_simp; with_reducible rfl)
              simp only [Act.put, List.setIfInBounds_toArray, List.set_cons_zero, List.set_cons_succ]
              refine WT.take 31 (v := ?_) rfl (by kernel_rfl) (by kernel_rfl) (by kernel_rfl) (by kernel_rfl) (fun _ _ _ h => h) (Or.inl ⟨by rfl, ?hy⟩) hS1 ?_
              case hy => first | (intro w hSw; go_simp; done) | (intro w hSw; go_simp; with_reducible rfl)
              simp only [Act.put, List.setIfInBounds_toArray, List.set_cons_zero, List.set_cons_succ]
              refine WT.take 32 (v := ?_) rfl (by kernel_rfl) (by kernel_rfl) (by kernel_rfl) (by kernel_rfl) (fun _ _ _ h => h) (Or.inl ⟨by rfl, ?hy⟩) hS1 ?_
              case hy => first | (intro w hSw; go_simp; done) | (intro w hSw; go_simp; with_reducible rfl)
              simp only [Act.put, List.setIfInBounds_toArray, List.set_cons_zero, List.set_cons_succ]
              refine WT.take 33 (v := ?_) rfl (by kernel_rfl) (by kernel_rfl) (by kernel_rfl) (by kernel_rfl) (fun _ _ _ h => h) (Or.inl ⟨by rfl, ?hy⟩) hS1 ?_
              case hy => first | (intro w hSw; go_simp; done) | (intro w hSw; go_simp; with_reducible rfl)
              simp only [Act.put, List.setIfInBounds_toArray, List.set_cons_zero, List.set_cons_succ]
              refine WT.take 34 (v := ?_) rfl (by kernel_rfl) (by kernel_rfl) (by kernel_rfl) (by kernel_rfl) (fun _ _ _ h => h) (Or.inl ⟨by rfl, ?hy⟩) hS1 ?_
              case hy => first | (intro w hSw; go_simp; done) | (intro w hSw; go_simp; with_reducible rfl)
              simp only [Act.put, List.setIfInBounds_toArray, List.set_cons_zero, List.set_cons_succ]
              refine WT.take 35 (v := ?_) rfl (by kernel_rfl) (by kernel_rfl) (by kernel_rfl) (by kernel_rfl) (fun _ _ _ h => h) (Or.inl ⟨by rfl, ?hy⟩) hS1 ?_
              case hy => first | (intro w hSw; go_simp; done) | (intro w hSw; go_simp; with_reducible rfl)
              simp only [Act.put, List.setIfInBounds_toArray, List.set_cons_zero, List.set_cons_succ]
              refine WT.take 36 (v := ?_) rfl (by kernel_rfl) (by kernel_rfl) (by kernel_rfl) (by kernel_rfl) (fun _ _ _ h => h) (Or.inl ⟨by rfl, ?hy⟩) hS1 ?_
              case hy => first | (intro w hSw; go_simp; done) | (intro w hSw; go_simp; with_reducible rfl)
              simp only [Act.put, List.setIfInBounds_toArray, List.set_cons_zero, List.set_cons_succ]
              refine WT.take 37 (v := ?_) rfl (by kernel_rfl) (by kernel_rfl) (by kernel_rfl) (by kernel_rfl) (fun _ _ _ h => h) (Or.inl ⟨by rfl, ?hy⟩) hS1 ?_
              case hy => first | (intro w hSw; go_simp; done) | (intro w hSw; go_simp; with_reducible rfl)
              simp only [Act.put, List.setIfInBounds_toArray, List.set_cons_zero, List.set_cons_succ]
              refine WT.step 38 rfl (by kernel_rfl) (by decide) fun K hK => ?_
              go_simp
              go_at_call 38
              have hlq := HA1.out.1.len q hqn
              simp only at hlq
              refine (asked_any w.heap.size xb 3000000 (mu + 1) (s.ds q) (s.rs q) (s.vs q) (s.ls q) ⟨#[]⟩ ⟨#[]⟩ 3 Lx1 Wx1 us1 ws1 _ (HA1.out.1.dir q hqn) (HA1.out.1.ref q hqn) HA1.out.2.1 (by decide) (by decide) (by decide) (by omega) (by omega) hmu4 (by omega) HA1.out.2.2.2.size).mono ?_
              rintro e w2 ⟨rfl, Lx2, Wx2, us2, ws2, hmu2', hXn, hcn, hfn⟩
              have hmu5 := hmu2'
              have hfar2 : ∀ k, LXF xb Lx2 Wx2 us2 ws2 k → ¬ Foot wb (St.at ns s.ds s.rs s.vs s.ls g c1 g' c2) k := fun k hk hf => by
                rcases hfn k hk with e | e
                · exact HF1.out k e hf
                · have := HA1.out.1.foot_lt hf
                  omega
              have hDn := HA1.out.1.apart HA1.out.2.1 HF1.out hcn
              have hmn := box_apart HA1.out.2.2.1 (by decide) HA1.out.2.1 hcn
              have hBn : Below w.heap.size w w2 := HA1.out.2.2.2.trans (low_apart HA1.out.2.1 HA1.out.2.2.2.size hcn)
              obtain ⟨⟨q1, q2⟩, q3⟩ := hDn.look hqn
              have hS2 : (fun w' : World => w'.cell? ⟨wb, 0, none⟩ = some (.slice (some ⟨g, 0, none⟩) ns c1) ∧ w'.cell? ⟨wb, 1, none⟩ = some (.slice (some ⟨g', 0, none⟩) ns c2) ∧ w'.cell? ⟨g, q, none⟩ = some (.pointer (some ⟨s.ds q, 0, none⟩)) ∧ w'.cell? ⟨g', q, none⟩ = some (.pointer (some ⟨s.rs q, 0, none⟩)) ∧ w'.cell? ⟨tb, 2, none⟩ = some (.string key) ∧ w'.cell? ⟨tb, 3, none⟩ = some (.string hi) ∧ w'.cell? ⟨tb, 10, none⟩ = some (.int .i64 nn)) w2 := ⟨q3 0, q3 1, q1, q2, hmn.cell 2, hmn.cell 3, hmn.cell 10⟩
              have HA2 := Lib.hid (And.intro hDn (And.intro hXn (And.intro hmn hBn)))
              have HF2 := Lib.hid hfar2
              clear hDn hXn hmn hBn q1 q2 q3 hfn hcn hlq hmu2'
              go_simp
              refine hK.out _ _ hS2 ?_
              clear hK K
              refine WT.take 39 (v := ?_) rfl (by kernel_rfl) (by kernel_rfl) (by kernel_rfl) (by kernel_rfl) (fun _ _ _ h => h) (Or.inl ⟨by rfl, ?hy⟩) hS2 ?_
              case hy => first | (intro w hSw; go_simp; done) | (intro w hSw; go_simp; with_reducible rfl)
              simp only [Act.put, List.setIfInBounds_toArray, List.set_cons_zero, List.set_cons_succ]
              refine WT.last 40 rfl (by kernel_rfl) rfl fun K hK => ?_
              go_simp
              refine hK.out _ _ ?_
              clear hK K
              refine WT.done (by kernel_rfl) ?_
              go_wp2
              go_roundw
              case rel => exact ⟨k + 1, Lx2, Wx2, us2, ws2, rfl, by go_num, by omega, HA2.out.1, HA2.out.2.1, HF2.out, by omega, HA2.out.2.2.1, HA2.out.2.2.2⟩
              case measure => simp [intOf]; omega
            · have v1 : decide ((k : Int) < 2 * ns) = false := decide_eq_false (by omega)
              have v2 : decide (k < 2 * ns) = false := decide_eq_false hk3
              have v3 : ¬ (k : Int) < 2 * ns := by omega
              go_wp2
              go_roundw
              case rel => exact ⟨i + 1, _, .slice AL mu cL, Wx, us, ws, by omega, by go_num, HK.out.1.mono (by omega), HK.out.2.1, HK.out.2.2.1, by have := HK.out.2.2.2.1; omega, HK.out.2.2.2.2.2⟩
              case measure => simp [intOf]; omega
          · have u1 : decide ((mu : Int) < 400) = false := decide_eq_false (by omega)
            have u2' : decide (mu < 400) = false := decide_eq_false hu4
            go_wp2
            go_roundw
            case rel => exact ⟨i + 1, _, .slice AL mu cL, Wx, us, ws, by omega, by go_num, HK.out.1.mono (by omega), HK.out.2.1, HK.out.2.2.1, by have := HK.out.2.2.2.1; omega, HK.out.2.2.2.2.2⟩
            case measure => simp [intOf]; omega
      · have hkd : decide (kind = 7) = false := decide_eq_false hk
        have hkb : (kind == 7) = false := by simpa using hk
        go_upto_region 10 with (first
          | (go_at_call 6
             refine (told_most w.heap.size wb i ns (.slice none 0 0) s.ds s.rs s.vs s.ls g c1 g' c2 ⟨dir, kind, key, hi, en, nn⟩ _ (HR.out.1.next HR.out.2.2.2.2.2.2.2) (by omega) HR.out.2.2.2.2.2.1 hk).mono ?_
             rintro e w9 ⟨rfl, s', hD', hT'⟩
             have hX9 := (HR.out.2.1.next HR.out.2.2.2.2.2.2.2).keep hT'.chg HR.out.2.2.1
             have hfar9 : ∀ k, LXF xb Lx Wx us ws k → ¬ Foot wb s' k := fun k hk hf => by
               rcases hT'.foot k hf with e | e
               · exact HR.out.2.2.1 k hk e
               · have := HR.out.2.1.lt hk
                 have := HR.out.2.2.2.2.2.2.2.size
                 omega
             have hbm9 := HR.out.2.2.2.2.2.2.1.chg hT'.chg (fun hf => by have := HR.out.1.foot_lt hf; omega)
             have hB9 : Below w.heap.size w w9 := (HR.out.2.2.2.2.1.trans (HR.out.2.2.2.2.2.2.2.mono hBs)).trans (hT'.chg.below (by have := HR.out.2.2.2.2.2.2.2.size; omega) fun k hk => HR.out.1.foot_ge hk)
             have hbc9 := hbm9.cell
             have H9 := Lib.hid (And.intro hD' (And.intro hX9 (And.intro hfar9 (And.intro hB9 hbm9))))
             clear hD' hT' hX9 hfar9 hbm9 hB9 hbmc))
        go_wp2
        go_loopw [7, 8] (fun ok kk wq => ok = .bool true ∧ kk = .int .i64 0 ∧ w9 = wq) (fun _ _ _ => 0)
        case atStart => exact ⟨rfl, rfl, rfl⟩
        case round =>
          obtain ⟨rfl, rfl, rfl⟩ := hrel
          go_wp2
          go_roundw
          case rel => exact ⟨i + 1, s', Lx, Wx, us, ws, by omega, by go_num, H9.out.1, H9.out.2.1, H9.out.2.2.1, HR.out.2.2.2.1, H9.out.2.2.2.1⟩
          case measure => simp [intOf]; omega
    · have hi1 : ¬ (i : Int) < n := by omega
      obtain ⟨g, c1, g', c2, hs⟩ := hD.split
      rw [hs] at hD
      have HR := Lib.hid (And.intro hD (And.intro hX (And.intro hB hul)))
      clear hD hX hB hfar hul hs
      go_wp2_with (first
        | (go_at_call 8
           refine (whole_any w.heap.size wb i s.n (.slice none 0 0) s.ds s.rs s.vs s.ls g c1 g' c2 _ HR.out.1 (by omega)).mono ?_
           rintro e w9 ⟨rfl, hb9⟩
           have hs9 := hb9.size
           have H9 := Lib.hid hb9
           clear hb9)
        | (go_at_call 39
           refine (alone_any w.heap.size xb 3000000 us.length Lx Wx us ws _ (HR.out.2.1.next H9.out) (by omega) rfl (by have := HR.out.2.2.2; omega) (by omega)).mono ?_
           rintro e w10 ⟨rfl, hb10⟩
           have H10 := Lib.hid hb10
           clear hb10))
      go_ret
      exact ⟨rfl, (HR.out.2.2.1.trans (H9.out.mono hBs)).trans H10.out⟩

/-- The law. -/
theorem keydirMoves_any (A : Option Addr) (n c : Nat) (ms : List Mv) (w : World) (hA : Rd w w.heap.size A (ms.flatMap mvC)) (hn : ms.length = n) (hN : n ≤ 2000000) (hok : ∀ m ∈ ms, m.Ok) :
    Calls Try.prog 3 #[.slice A n c] w fun e w' => e = .returned (.bool true) ∧ Below w.heap.size w w' :=
  first_half A n c ms w hA hn hN hok fun W hb => untold_any A n c ms W ((hA.below hb).mono hb.size) hn hN hok
end Go.Proofs.Ytglmhpmjebjcgaa
