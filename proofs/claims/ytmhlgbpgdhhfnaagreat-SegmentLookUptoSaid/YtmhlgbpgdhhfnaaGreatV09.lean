import Derived.Test.YtmhlgbpgdhhfnaaGreatV08
set_option linter.unusedVariables false
set_option linter.unusedSimpArgs false
namespace Go.Proofs.YtmhlgbpgdhhfnaaGreat
open Go.RowKit Go.Maps Sqz

/-! Read, of the program -/
theorem Rd.far {w : World} {B : Nat} {A : Option Addr} {xs : List Value} (h : Rd w B A xs) (q : Addr) (hq : ∀ ad, A = some ad → ad.block ≠ q.block) (u : Value) : Rd (w.setCell q u) B A xs := by
  intro j v hj
  obtain ⟨ad, he, hb, hc⟩ := h j v hj
  refine ⟨ad, he, hb, ?_⟩
  rw [← hc]
  exact cell_of_block (Below.heap_setCell w q u _ (by rw [add_block]; exact hq ad he))
theorem right_zero (A : Option Addr) (c n q : Nat) (w : World) (hn : n ≤ 1000000000) (hq : q ≤ 1000000000) :
    Calls Tryz.prog 94 #[.agg #[.slice A n c, .int .i64 0, .int .i64 0], .int .i64 q] w fun e w' => e = .returned (.bool (rgt n 0 0 q)) ∧ Below w.heap.size w w' :=
  right_any A c n 0 0 q w hn (by omega) (by omega) hq
theorem right_d0 (m q : Nat) (w : World) (hm : m ≤ 1000000000) (hq : q ≤ 1000000000) :
    Calls Tryz.prog 94 #[.agg #[.slice none 0 0, .int .i64 0, .int .i64 m], .int .i64 q] w fun e w' => e = .returned (.bool (rgt 0 0 m q)) ∧ Below w.heap.size w w' :=
  right_any none 0 0 0 m q w (by omega) (by omega) hm hq
theorem field0 : ∀ (W : World) (a b : Int), (Instr.field 28 (.agg #[.int .i64 a, .int .i64 b]) 0).run Tryz.prog W = .ok (.int .i64 a) W := fun _ _ _ => by kernel_rfl
theorem octRestD (p L a : Nat) (l : List UInt8) (s : RSt) (w : World) (h : ORd w p l s) (hL : l.length = L) (ha : s.at_ = a) (hmx : L ≤ 140737488355328) :
    Calls Tryz.prog 69 #[.pointer (some ⟨p, 0, none⟩)] w fun e w' => e = .returned (.int .i64 ((L : Int) - a)) ∧ ∃ n, w' = w.drewN n := by
  subst hL; subst ha
  obtain ⟨b, cap, er, ea, h⟩ := h
  exact octRest p b cap er ea l s w h hmx
theorem octUvD (p u : Nat) (l : List UInt8) (s s' : RSt) (w : World) (h : ORd w p l s) (hu : uvS l s = (u, s')) (hmx : l.length ≤ 140737488355328) :
    Calls Tryz.prog 85 #[.pointer (some ⟨p, 0, none⟩)] w fun e w' => e = .returned (.int .u64 u) ∧ RAft p l s' w w' := by
  have := octUv p l s w h hmx
  rw [hu] at this
  exact this
theorem octRawD (p n m : Nat) (l t : List UInt8) (s s' : RSt) (w : World) (h : ORd w p l s) (hu : tkS n l s = (t, s')) (ht : t.length = m) (hn : n ≤ 140737488355000) (hmx : l.length ≤ 140737488355328) :
    Calls Tryz.prog 72 #[.pointer (some ⟨p, 0, none⟩), .int .i64 n] w fun e w' => ∃ b c, e = .returned (.slice b m c) ∧ w'.ownsRow w.heap.size 5 1 (.slice b m c) m (bv t) ∧ RAft p l s' w w' := by
  have := octRaw p n l s w h hn hmx
  rw [hu] at this
  simp only at this
  rw [ht] at this
  exact this
theorem uvS_some {l : List UInt8} {a u k : Nat} (h : rdE (l.drop a) = some (u, k)) : uvS l ⟨a, false⟩ = (u, ⟨a + k, false⟩) := by unfold uvS; simp [h]
theorem uvS_none {l : List UInt8} {a : Nat} (h : rdE (l.drop a) = none) : uvS l ⟨a, false⟩ = (0, ⟨l.length, true⟩) := by unfold uvS; simp [h]
/-- What Read answers. -/
def RdA (w w' : World) (R : Option (List Tok)) (e : Ending) : Prop :=
  match R with
  | some ts => ∃ b c, e = .returned (.tuple #[.slice b ts.length c, .int .i64 0]) ∧ TO w' w.heap.size (.slice b ts.length c) ts
  | none => ∃ er : Int, er ≠ 0 ∧ e = .returned (.tuple #[.slice none 0 0, .int .i64 er])
structure RdL (w wr : World) (p : Nat) (l : List UInt8) (s : RSt) (v : Value) (ts : List Tok) : Prop where
  ord : ORd wr p l s
  to_ : TO wr (p + 1) v ts
  bel : Below w.heap.size w wr
  le : ts.length ≤ s.at_
  hp : w.heap.size ≤ p
  al : s.at_ ≤ l.length
theorem RdL.next {w wr w' : World} {p : Nat} {l : List UInt8} {s s' : RSt} {v v' : Value} {ts ts' : List Tok} (h : RdL w wr p l s v ts) (ho : ORd w' p l s') (ht : TO w' (p + 1) v' ts') (hb : Below w.heap.size wr w') (hl : ts'.length ≤ s'.at_) : RdL w w' p l s' v' ts' :=
  ⟨ho, ht, h.bel.trans hb, hl, h.hp, ho.le⟩
set_option maxRecDepth 100000 in
set_option maxHeartbeats 8000000 in
theorem read_any (A : Option Addr) (L c : Nat) (b : List UInt8) (w : World) (hA : Rd w w.heap.size A (bv b)) (hL : b.length = L) (hmx : L ≤ 1000000000) :
    Calls Tryz.prog 86 #[.slice A L c] w fun e w' => RdA w w' (readP b) e ∧ Below w.heap.size w w' := by
  obtain ⟨i0, hi0, hz0, hs0, hy0⟩ := info_parts info_tok
  have hfl := field0
  have HA := Lib.hid hA
  have HL := Lib.hid hL
  have Hmx : Hid (b.length ≤ 140737488355328) := by show _ ≤ _; omega
  generalize hR : readP b = R
  have HR := Lib.hid hR
  clear hA hL hR
  go_enter Tryz.func86, Tryz.ntmps86
  cases hr0 : rdE b with
  | none =>
    have HU : Hid (uvS b ⟨0, false⟩ = (0, ⟨L, true⟩)) := by show _ = _; rw [← HL.out]; exact uvS_none (by simpa using hr0)
    have HRN : Hid (R = none) := by show _ = _; rw [← HR.out, readP, hr0]
    clear hr0
    go_wp2_with (first
      | (go_at_call 24
         refine (octNewR A L c b _ HA.out HL.out (by omega)).mono ?_
         rintro e w1 ⟨p, rfl, ho, hp, hb⟩
         have H1 := Lib.hid (And.intro ho (And.intro hp hb))
         clear ho hp hb)
      | (go_at_call 85
         refine (octUvD p 0 b _ ⟨L, true⟩ _ H1.out.1 HU.out Hmx.out).mono ?_
         rintro e w2 ⟨rfl, ho, hc⟩
         have H2 := Lib.hid (And.intro ho hc)
         clear ho hc))
    go_loopw [6, 7] (fun u s wr => u = .slice none 0 0 ∧ s = .int .i64 0 ∧ ORd wr p b ⟨L, true⟩ ∧ Below w.heap.size w wr) (fun _ _ _ => 0)
    case atStart => exact ⟨rfl, rfl, H2.out.1, H1.out.2.2.trans (H2.out.2.below H1.out.2.2.size (fun k hk => by rw [hk]; exact H1.out.2.1))⟩
    case round =>
      obtain ⟨rfl, rfl, ho, hb⟩ := hrel
      have HO := Lib.hid (And.intro ho hb)
      clear ho hb
      have g0 : ¬ (0 : Int) < (L : Int) - L := by omega
      go_wp2_with (first
        | (go_at_call 69
           refine (octRestD p L L b _ _ HO.out.1 HL.out rfl (by omega)).mono ?_
           rintro e w3 ⟨rfl, x3, rfl⟩)
        | (go_at_call 73
           refine (octEnd p b _ _ (HO.out.1.below (below_drewN (Below.refl _ _) _))).mono ?_
           rintro e w4 ⟨x, y, rfl, hx, hb4⟩
           have H4 := Lib.hid hb4
           have hx0 : x ≠ 0 := fun e => absurd (hx.2 e).1 (by simp)
           have hx1 : (x == 0) = false := by simpa using hx0
           clear hx hb4))
      go_ret2
      refine ⟨?_, (below_drewN HO.out.2 _).trans (H4.out.mono HO.out.2.size)⟩
      rw [HRN.out]
      exact ⟨20, by decide, rfl⟩
  | some x =>
    obtain ⟨n, k0⟩ := x
    obtain ⟨hk0, hkL, hn64⟩ := rdE_bound hr0
    have HU : Hid (uvS b ⟨0, false⟩ = (n, ⟨k0, false⟩)) := by
      show _ = _
      have := uvS_some (l := b) (a := 0) (by simpa using hr0)
      rwa [Nat.zero_add] at this
    have HRN : Hid ((if 4096 < n then none else goP (b.length + 1) (b.drop k0) n 0 []) = R) := by show _ = _; rw [← HR.out, readP, hr0]
    clear hr0 HR
    by_cases hbig : 4096 < n
    · have HE : Hid (R = none) := by show _ = _; rw [← HRN.out, if_pos hbig]
      go_wp2_with (first
        | (go_at_call 24
           refine (octNewR A L c b _ HA.out HL.out (by omega)).mono ?_
           rintro e w1 ⟨p, rfl, ho, hp, hb⟩
           have H1 := Lib.hid (And.intro ho (And.intro hp hb))
           clear ho hp hb)
        | (go_at_call 85
           refine (octUvD p n b _ ⟨k0, false⟩ _ H1.out.1 HU.out Hmx.out).mono ?_
           rintro e w2 ⟨rfl, ho, hc⟩
           have H2 := Lib.hid (And.intro ho hc)
           clear ho hc))
      go_ret2
      refine ⟨?_, H1.out.2.2.trans (H2.out.2.below H1.out.2.2.size (fun k hk => by rw [hk]; exact H1.out.2.1))⟩
      rw [HE.out]
      exact ⟨20, by decide, rfl⟩
    have HGO : Hid (goP (b.length + 1) (b.drop k0) n 0 [] = R) := by show _ = _; rw [← HRN.out, if_neg hbig]
    clear HRN
    go_wp2_with (first
      | (go_at_call 24
         refine (octNewR A L c b _ HA.out HL.out (by omega)).mono ?_
         rintro e w1 ⟨p, rfl, ho, hp, hb⟩
         have H1 := Lib.hid (And.intro ho (And.intro hp hb))
         clear ho hp hb)
      | (go_at_call 85
         refine (octUvD p n b _ ⟨k0, false⟩ _ H1.out.1 HU.out Hmx.out).mono ?_
         rintro e w2 ⟨rfl, ho, hc⟩
         have H2 := Lib.hid (And.intro ho hc)
         clear ho hc))
    go_loopw [6, 7] (fun u s wr => ∃ (a f size : Nat) (ts : List Tok), s = .int .i64 size ∧ size ≤ 4096 ∧ RdL w wr p b ⟨a, false⟩ u ts ∧ goP f (b.drop a) n size ts = R ∧ L - a < f) (fun _ s _ => 4096 - (intOf s).toNat)
    case atStart =>
      refine ⟨k0, b.length + 1, 0, [], rfl, by omega, ⟨H2.out.1, TO.nil _ _, H1.out.2.2.trans (H2.out.2.below H1.out.2.2.size (fun k hk => by rw [hk]; exact H1.out.2.1)), Nat.zero_le _, H1.out.2.1, hkL⟩, HGO.out, ?_⟩
      rw [HL.out]; omega
    case round =>
      obtain ⟨a, f, size, ts, rfl, hsz, hk, hgo, hf⟩ := hrel
      obtain ⟨vb, vc, rfl⟩ := hk.to_.slice
      have haL : a ≤ L := by have := hk.al; rw [HL.out] at this; exact this
      have htl : ts.length ≤ a := hk.le
      have hpl := hk.ord.lt
      have hvl : Hid (∀ j, (Value.slice vb ts.length vc).ownBlock = some j → j < wr.heap.size) := by
        obtain ⟨ms, _, h2, _⟩ := hk.to_
        exact fun j e => (h2.lt j e).2
      have HK := Lib.hid hk
      clear hk
      have hn4 : n ≤ 4096 := by omega
      obtain ⟨f, rfl⟩ : ∃ g, f = g + 1 := ⟨f - 1, by omega⟩
      by_cases hal : a < L
      · have hne : b.drop a ≠ [] := fun e => by
          have := congrArg List.length e
          simp only [List.length_drop, List.length_nil] at this
          rw [HL.out] at this; omega
        rw [goP, if_neg hne] at hgo
        have g0 : (0 : Int) < (L : Int) - a := by omega
        cases hr1 : rdE (b.drop a) with
        | none =>
          rw [hr1] at hgo
          have HE : Hid (R = none) := hgo.symm
          have HU1 : Hid (uvS b ⟨a, false⟩ = (0, ⟨L, true⟩)) := by show _ = _; rw [← HL.out]; exact uvS_none hr1
          have HTK : Hid (tkS 0 b ⟨L, true⟩ = ([], ⟨L, true⟩)) := by show _ = _; rw [tkS_bad (.inl rfl)]; rfl
          have HLL : Hid (([] : List UInt8).length = 0) := rfl
          have HRT : Hid (rgt 0 0 0 size = false) := by show _ = _; unfold rgt; simp
          obtain ⟨h, hh⟩ : ∃ h, h = 0 := ⟨_, rfl⟩
          clear hgo hr1 hne
          go_wp2_with (first
            | (go_at_call 69
               refine (octRestD p L a b _ _ HK.out.ord HL.out rfl (by omega)).mono ?_
               rintro e w3 ⟨rfl, x3, rfl⟩)
            | (go_at_call 85
               refine (octUvD p 0 b ⟨a, false⟩ ⟨L, true⟩ _ (HK.out.ord.below (below_drewN (Below.refl _ _) _)) HU1.out Hmx.out).mono ?_
               rintro e w4 ⟨rfl, ho, hc⟩
               have hc4 : Chg (fun k => k = p) wr w4 := ((Chg.refl (fun k => k = p) wr).drewN x3).trans hc
               have hs4 : wr.heap.size ≤ w4.heap.size := hc4.size
               have hbx := Box.new w4 112 #[.slice none 0 0, .int .i64 0, .int .i64 0]
               have hxc := hbx.cell
               have hxf := hbx.free
               have hxl := hbx.lt
               have H4 := Lib.hid (And.intro ho hc4)
               have HX4 := Lib.hid hbx
               clear ho hc hc4 hbx)
            | (go_at_call 72
               refine (octRawD p 0 0 b [] ⟨L, true⟩ ⟨L, true⟩ _ (H4.out.1.below ((Below.refl _ _).alloc (Nat.le_refl _) _)) HTK.out HLL.out (by omega) Hmx.out).mono ?_
               rintro e w5 ⟨lA, lc, rfl, hl, ho, hc⟩
               have hpw4 : p < w4.heap.size := H4.out.1.lt
               have hx5 := HX4.out.chg hc (fun e => by have e' : w4.heap.size = p := e; omega)
               have hsz5 : w4.heap.size < w5.heap.size := hx5.lt
               have hc5 : Chg (fun k => k = p) wr (w5.setCell ⟨w4.heap.size, 0, none⟩ (.slice lA 0 lc)) := ((H4.out.2.alloc _).trans hc).setCell (.inr hs4) _
               have hx5s : Box (w5.setCell ⟨w4.heap.size, 0, none⟩ (.slice lA 0 lc)) w4.heap.size 112 #[.slice lA 0 lc, .int .i64 0, .int .i64 0] := by simpa using hx5.set_ 0 (.slice lA 0 lc)
               have hll : Rd (w5.setCell ⟨w4.heap.size, 0, none⟩ (.slice lA 0 lc)) w5.heap.size lA (bv []) ∧ (∀ ad, lA = some ad → w4.heap.size < ad.block ∧ ad.block < w5.heap.size) := by
                 have hlt := hl.lt
                 refine ⟨(ownsRow_rd hl).far ⟨w4.heap.size, 0, none⟩ (fun ad e => ?_) _, fun ad e => ?_⟩
                 · show ad.block ≠ w4.heap.size
                   have := (hlt ad.block (by simp [Value.ownBlock, e])).1; simp at this; omega
                 have := hlt ad.block (by simp [Value.ownBlock, e]); simp at this; omega
               have hxc := hx5.cell
               have hxf := hx5.free
               have hxl := hx5.lt
               have H5 := Lib.hid (And.intro (ho.chg ((Chg.refl (fun k => k = w4.heap.size) w5).set1 rfl 0 (.slice lA 0 lc)) (fun k hk => by rw [hk]; exact hpw4)) (And.intro hc5 (And.intro hx5s hll)))
               clear hl ho hc hc5 hx5 hx5s hll)
            | (go_at_call 94
               refine (right_zero lA lc 0 size _ (by omega) (by omega)).mono ?_
               rintro e w6 ⟨rfl, hb6⟩
               rw [HRT.out]
               have hx6 := H5.out.2.2.1.below hb6 (by first | (simp [World.setCell]; omega) | omega)
               have hxc := hx6.cell
               have hxf := hx6.free
               have hxl := hx6.lt
               have hs6 : wr.heap.size ≤ w6.heap.size := Nat.le_trans H5.out.2.1.size hb6.size
               have H6 := Lib.hid hb6
               have HX6 := Lib.hid hx6
               clear hb6 hx6))
          go_ret2
          refine ⟨?_, HK.out.bel.trans ((H5.out.2.1.below HK.out.bel.size (fun k hk => by rw [hk]; exact HK.out.hp)).trans (H6.out.mono (by have := HK.out.bel.size; have := H5.out.2.1.size; omega)))⟩
          rw [HE.out]
          exact ⟨20, by decide, rfl⟩
        | some y =>
          obtain ⟨u, k⟩ := y
          obtain ⟨hk0', hkL', hu64⟩ := rdE_bound hr1
          rw [hr1] at hgo
          simp only at hgo
          have HU1 : Hid (uvS b ⟨a, false⟩ = (u, ⟨a + k, false⟩)) := uvS_some hr1
          rw [List.length_drop, HL.out] at hkL'
          clear hr1 hne
          obtain ⟨h, hh⟩ : ∃ h, u / 2 = h := ⟨_, rfl⟩
          rw [hh] at hgo
          by_cases hb2 : 4096 < h
          · rw [if_pos hb2] at hgo
            have HE : Hid (R = none) := hgo.symm
            have e1 : (u : Int) / 2 = h := by omega
            clear hgo
            go_wp2_with (first
              | (go_at_call 69
                 refine (octRestD p L a b _ _ HK.out.ord HL.out rfl (by omega)).mono ?_
                 rintro e w3 ⟨rfl, x3, rfl⟩)
              | (go_at_call 85
                 refine (octUvD p u b ⟨a, false⟩ ⟨a + k, false⟩ _ (HK.out.ord.below (below_drewN (Below.refl _ _) _)) HU1.out Hmx.out).mono ?_
                 rintro e w4 ⟨rfl, ho, hc⟩
                 have hc4 : Chg (fun k => k = p) wr w4 := ((Chg.refl (fun k => k = p) wr).drewN x3).trans hc
                 have hs4 : wr.heap.size ≤ w4.heap.size := hc4.size
                 have hbx := Box.new w4 112 #[.slice none 0 0, .int .i64 0, .int .i64 0]
                 have hxc := hbx.cell
                 have hxf := hbx.free
                 have hxl := hbx.lt
                 have H4 := Lib.hid (And.intro ho hc4)
                 have HX4 := Lib.hid hbx
                 clear ho hc hc4 hbx))
            go_ret2
            refine ⟨?_, HK.out.bel.trans (H4.out.2.below HK.out.bel.size (fun k hk => by rw [hk]; exact HK.out.hp))⟩
            rw [HE.out]
            exact ⟨20, by decide, rfl⟩
          rw [if_neg hb2] at hgo
          have e1 : (u : Int) / 2 = h := by omega
          by_cases hev : u % 2 = 0
          · rw [if_pos hev] at hgo
            have e2 : (u : Int) % 2 = 0 := by omega
            by_cases hok : h ≤ ((b.drop a).drop k).length ∧ 0 < h
            · rw [if_pos hok] at hgo
              obtain ⟨hok1, hok2⟩ := hok
              rw [List.length_drop, List.length_drop, HL.out] at hok1
              simp only [List.drop_drop, ← Nat.add_assoc] at hgo
              have HTK : Hid (tkS h b ⟨a + k, false⟩ = ((b.drop (a + k)).take h, ⟨a + k + h, false⟩)) := tkS_ok rfl (by show a + k + h ≤ b.length; rw [HL.out]; omega)
              have HLL : Hid (((b.drop (a + k)).take h).length = h) := by show _ = _; rw [List.length_take, List.length_drop, HL.out]; omega
              have HRT : Hid (rgt h 0 0 size = true) := by show _ = _; unfold rgt; rw [if_pos hok2]; rfl
              generalize (b.drop (a + k)).take h = lit at *
              by_cases hnn : n < size + h
              · rw [if_pos hnn] at hgo
                have HE : Hid (R = none) := hgo.symm
                have g2 : (n : Int) < (size : Int) + h := by omega
                clear hgo
                go_wp2_with (first
                  | (go_at_call 69
                     refine (octRestD p L a b _ _ HK.out.ord HL.out rfl (by omega)).mono ?_
                     rintro e w3 ⟨rfl, x3, rfl⟩)
                  | (go_at_call 85
                     refine (octUvD p u b ⟨a, false⟩ ⟨a + k, false⟩ _ (HK.out.ord.below (below_drewN (Below.refl _ _) _)) HU1.out Hmx.out).mono ?_
                     rintro e w4 ⟨rfl, ho, hc⟩
                     have hc4 : Chg (fun k => k = p) wr w4 := ((Chg.refl (fun k => k = p) wr).drewN x3).trans hc
                     have hs4 : wr.heap.size ≤ w4.heap.size := hc4.size
                     have hbx := Box.new w4 112 #[.slice none 0 0, .int .i64 0, .int .i64 0]
                     have hxc := hbx.cell
                     have hxf := hbx.free
                     have hxl := hbx.lt
                     have H4 := Lib.hid (And.intro ho hc4)
                     have HX4 := Lib.hid hbx
                     clear ho hc hc4 hbx)
                  | (go_at_call 72
                     refine (octRawD p h h b lit ⟨a + k, false⟩ ⟨a + k + h, false⟩ _ (H4.out.1.below ((Below.refl _ _).alloc (Nat.le_refl _) _)) HTK.out HLL.out (by omega) Hmx.out).mono ?_
                     rintro e w5 ⟨lA, lc, rfl, hl, ho, hc⟩
                     have hpw4 : p < w4.heap.size := H4.out.1.lt
                     have hx5 := HX4.out.chg hc (fun e => by have e' : w4.heap.size = p := e; omega)
                     have hsz5 : w4.heap.size < w5.heap.size := hx5.lt
                     have hc5 : Chg (fun k => k = p) wr (w5.setCell ⟨w4.heap.size, 0, none⟩ (.slice lA h lc)) := ((H4.out.2.alloc _).trans hc).setCell (.inr hs4) _
                     have hx5s : Box (w5.setCell ⟨w4.heap.size, 0, none⟩ (.slice lA h lc)) w4.heap.size 112 #[.slice lA h lc, .int .i64 0, .int .i64 0] := by simpa using hx5.set_ 0 (.slice lA h lc)
                     have hll : Rd (w5.setCell ⟨w4.heap.size, 0, none⟩ (.slice lA h lc)) w5.heap.size lA (bv lit) ∧ (∀ ad, lA = some ad → w4.heap.size < ad.block ∧ ad.block < w5.heap.size) := by
                       have hlt := hl.lt
                       refine ⟨(ownsRow_rd hl).far ⟨w4.heap.size, 0, none⟩ (fun ad e => ?_) _, fun ad e => ?_⟩
                       · show ad.block ≠ w4.heap.size
                         have := (hlt ad.block (by simp [Value.ownBlock, e])).1; simp at this; omega
                       have := hlt ad.block (by simp [Value.ownBlock, e]); simp at this; omega
                     have hxc := hx5.cell
                     have hxf := hx5.free
                     have hxl := hx5.lt
                     have H5 := Lib.hid (And.intro (ho.chg ((Chg.refl (fun k => k = w4.heap.size) w5).set1 rfl 0 (.slice lA h lc)) (fun k hk => by rw [hk]; exact hpw4)) (And.intro hc5 (And.intro hx5s hll)))
                     clear hl ho hc hc5 hx5 hx5s hll)
                  | (go_at_call 94
                     refine (right_zero lA lc h size _ (by omega) (by omega)).mono ?_
                     rintro e w6 ⟨rfl, hb6⟩
                     rw [HRT.out]
                     have hx6 := H5.out.2.2.1.below hb6 (by first | (simp [World.setCell]; omega) | omega)
                     have hxc := hx6.cell
                     have hxf := hx6.free
                     have hxl := hx6.lt
                     have hs6 : wr.heap.size ≤ w6.heap.size := Nat.le_trans H5.out.2.1.size hb6.size
                     have H6 := Lib.hid hb6
                     have HX6 := Lib.hid hx6
                     clear hb6 hx6))
                go_ret2
                refine ⟨?_, HK.out.bel.trans ((H5.out.2.1.below HK.out.bel.size (fun k hk => by rw [hk]; exact HK.out.hp)).trans (H6.out.mono (by have := HK.out.bel.size; have := H5.out.2.1.size; omega)))⟩
                rw [HE.out]
                exact ⟨20, by decide, rfl⟩
              rw [if_neg hnn] at hgo
              have HGN : Hid (goP f (b.drop (a + k + h)) n (size + h) (ts ++ [⟨lit, 0, 0⟩]) = R) := by show _ = _; rw [← hgo]; try simp only [List.drop_drop, Nat.add_assoc]
              have g2 : ¬ (n : Int) < (size : Int) + h := by omega
              clear hgo
              go_wp2_with (first
                | (go_at_call 69
                   refine (octRestD p L a b _ _ HK.out.ord HL.out rfl (by omega)).mono ?_
                   rintro e w3 ⟨rfl, x3, rfl⟩)
                | (go_at_call 85
                   refine (octUvD p u b ⟨a, false⟩ ⟨a + k, false⟩ _ (HK.out.ord.below (below_drewN (Below.refl _ _) _)) HU1.out Hmx.out).mono ?_
                   rintro e w4 ⟨rfl, ho, hc⟩
                   have hc4 : Chg (fun k => k = p) wr w4 := ((Chg.refl (fun k => k = p) wr).drewN x3).trans hc
                   have hs4 : wr.heap.size ≤ w4.heap.size := hc4.size
                   have hbx := Box.new w4 112 #[.slice none 0 0, .int .i64 0, .int .i64 0]
                   have hxc := hbx.cell
                   have hxf := hbx.free
                   have hxl := hbx.lt
                   have H4 := Lib.hid (And.intro ho hc4)
                   have HX4 := Lib.hid hbx
                   clear ho hc hc4 hbx)
                | (go_at_call 72
                   refine (octRawD p h h b lit ⟨a + k, false⟩ ⟨a + k + h, false⟩ _ (H4.out.1.below ((Below.refl _ _).alloc (Nat.le_refl _) _)) HTK.out HLL.out (by omega) Hmx.out).mono ?_
                   rintro e w5 ⟨lA, lc, rfl, hl, ho, hc⟩
                   have hpw4 : p < w4.heap.size := H4.out.1.lt
                   have hx5 := HX4.out.chg hc (fun e => by have e' : w4.heap.size = p := e; omega)
                   have hsz5 : w4.heap.size < w5.heap.size := hx5.lt
                   have hc5 : Chg (fun k => k = p) wr (w5.setCell ⟨w4.heap.size, 0, none⟩ (.slice lA h lc)) := ((H4.out.2.alloc _).trans hc).setCell (.inr hs4) _
                   have hx5s : Box (w5.setCell ⟨w4.heap.size, 0, none⟩ (.slice lA h lc)) w4.heap.size 112 #[.slice lA h lc, .int .i64 0, .int .i64 0] := by simpa using hx5.set_ 0 (.slice lA h lc)
                   have hll : Rd (w5.setCell ⟨w4.heap.size, 0, none⟩ (.slice lA h lc)) w5.heap.size lA (bv lit) ∧ (∀ ad, lA = some ad → w4.heap.size < ad.block ∧ ad.block < w5.heap.size) := by
                     have hlt := hl.lt
                     refine ⟨(ownsRow_rd hl).far ⟨w4.heap.size, 0, none⟩ (fun ad e => ?_) _, fun ad e => ?_⟩
                     · show ad.block ≠ w4.heap.size
                       have := (hlt ad.block (by simp [Value.ownBlock, e])).1; simp at this; omega
                     have := hlt ad.block (by simp [Value.ownBlock, e]); simp at this; omega
                   have hxc := hx5.cell
                   have hxf := hx5.free
                   have hxl := hx5.lt
                   have H5 := Lib.hid (And.intro (ho.chg ((Chg.refl (fun k => k = w4.heap.size) w5).set1 rfl 0 (.slice lA h lc)) (fun k hk => by rw [hk]; exact hpw4)) (And.intro hc5 (And.intro hx5s hll)))
                   clear hl ho hc hc5 hx5 hx5s hll)
                | (go_at_call 94
                   refine (right_zero lA lc h size _ (by omega) (by omega)).mono ?_
                   rintro e w6 ⟨rfl, hb6⟩
                   rw [HRT.out]
                   have hx6 := H5.out.2.2.1.below hb6 (by first | (simp [World.setCell]; omega) | omega)
                   have hxc := hx6.cell
                   have hxf := hx6.free
                   have hxl := hx6.lt
                   have hs6 : wr.heap.size ≤ w6.heap.size := Nat.le_trans H5.out.2.1.size hb6.size
                   have H6 := Lib.hid hb6
                   have HX6 := Lib.hid hx6
                   clear hb6 hx6)
                | (at_builtin
                   have hc6 : Chg (fun k => k = p) wr (w6.alloc (.cells #[.slice lA h lc, .int .i64 0, .int .i64 0] 112)) := (H5.out.2.1.trans (Chg.of_below H6.out _)).alloc _
                   have ho6 : ORd (w6.alloc (.cells #[.slice lA h lc, .int .i64 0, .int .i64 0] 112)) p b ⟨a + k + h, false⟩ := (H5.out.1.below H6.out).below ((Below.refl _ _).alloc (Nat.le_refl _) _)
                   obtain ⟨ms, hm1, hm2, hm3⟩ := HK.out.to_.chg hc6 (fun k hk => by rw [hk]; exact Nat.lt_succ_self p)
                   refine wpList_app _ rfl (.tmp 61) (.tmp 63) _ rfl (p + 1) 112 i0 _ 3 40 Tryz.underlying96 hi0 hz0 hs0 hy0 rfl (by omega) (.slice vb ts.length vc) ts.length (ms.flatMap tmc) rfl hm2 _ _ 1 1 _ rfl rfl (rd_newB w6 rfl _ _) (by simp [Value.oneCell']) (by unfold maxLen; omega) (by omega) (by simp <;> omega) ?_
                   intro v7 w7 hown hg hvv
                   obtain ⟨b7, c7, rfl⟩ := ownsRow_slice hown
                   have hb7 : Below w.heap.size wr w7 := (hc6.below HK.out.bel.size (fun k hk => by rw [hk]; exact HK.out.hp)).grown hg (by have := HK.out.bel.size; simp <;> omega) (fun j e => by have := (hm2.lt j e).1; have := HK.out.hp; omega)
                   have ho7 : ORd w7 p b ⟨a + k + h, false⟩ := ho6.chg (Chg.of_grown hg) (fun k hk => (hm2.lt k hk.symm).1)
                   have hto : TO w7 (p + 1) (.slice b7 (ts.length + 1) c7) (ts ++ [⟨lit, 0, 0⟩]) := by
                     have := TO.push hm2 hm3 ⟨lA, lc, ⟨lit, 0, 0⟩⟩ ⟨((H5.out.2.2.2.1.mono (by simp [World.setCell])).below (H6.out.trans ((Below.refl _ _).alloc (by simpa [World.setCell] using H6.out.size) (.cells #[.slice lA h lc, .int .i64 0, .int .i64 0] 112)))).mono (by have := H6.out.size; simp [World.setCell] at this ⊢; omega), fun ad e => by
                       obtain ⟨q1, q2⟩ := H5.out.2.2.2.2 ad e
                       have q3 := H6.out.size
                       simp [World.setCell] at q3
                       refine ⟨by omega, by simp; omega, fun e2 => ?_⟩
                       have := hvl.out _ e2.symm
                       omega⟩ (by have := congrArg List.length hm1; simp at this; omega) (by rw [show tmc ⟨lA, lc, ⟨lit, 0, 0⟩⟩ = [.slice lA h lc, .int .i64 0, .int .i64 0] by simp only [tmc, HLL.out]; rfl]; exact hown) hg hvv
                     rw [hm1] at this
                     exact this
                   have H7 := Lib.hid (And.intro ho7 (And.intro hto hb7))
                   clear hc6 ho6 hm1 hm2 hm3 hown hg hvv hb7 ho7 hto))
              go_roundw
              case rel =>
                refine ⟨a + k + h, f, size + h, ts ++ [⟨lit, 0, 0⟩], by go_num, by omega, HK.out.next H7.out.1 (by simpa using H7.out.2.1) H7.out.2.2 (by simp; omega), ?_, by omega⟩
                exact HGN.out
              case measure => simp [intOf]; omega
            rw [if_neg hok] at hgo
            have HE : Hid (R = none) := hgo.symm
            have HTK : Hid (tkS h b ⟨a + k, false⟩ = ([], (tkS h b ⟨a + k, false⟩).2)) := by
              show _ = _
              refine Prod.ext ?_ rfl
              by_cases hh0 : b.length < a + k + h
              · rw [tkS_bad (.inr hh0)]
              have hz : h = 0 := by
                simp only [List.length_drop] at hok
                omega
              rw [tkS_ok rfl (by show a + k + h ≤ b.length; omega), hz]
              rfl
            have HLL : Hid (([] : List UInt8).length = 0) := rfl
            have HRT : Hid (rgt 0 0 0 size = false) := by show _ = _; unfold rgt; simp
            generalize (tkS h b ⟨a + k, false⟩).2 = s2 at *
            clear hgo hok
            go_wp2_with (first
              | (go_at_call 69
                 refine (octRestD p L a b _ _ HK.out.ord HL.out rfl (by omega)).mono ?_
                 rintro e w3 ⟨rfl, x3, rfl⟩)
              | (go_at_call 85
                 refine (octUvD p u b ⟨a, false⟩ ⟨a + k, false⟩ _ (HK.out.ord.below (below_drewN (Below.refl _ _) _)) HU1.out Hmx.out).mono ?_
                 rintro e w4 ⟨rfl, ho, hc⟩
                 have hc4 : Chg (fun k => k = p) wr w4 := ((Chg.refl (fun k => k = p) wr).drewN x3).trans hc
                 have hs4 : wr.heap.size ≤ w4.heap.size := hc4.size
                 have hbx := Box.new w4 112 #[.slice none 0 0, .int .i64 0, .int .i64 0]
                 have hxc := hbx.cell
                 have hxf := hbx.free
                 have hxl := hbx.lt
                 have H4 := Lib.hid (And.intro ho hc4)
                 have HX4 := Lib.hid hbx
                 clear ho hc hc4 hbx)
              | (go_at_call 72
                 refine (octRawD p h 0 b [] ⟨a + k, false⟩ s2 _ (H4.out.1.below ((Below.refl _ _).alloc (Nat.le_refl _) _)) HTK.out HLL.out (by omega) Hmx.out).mono ?_
                 rintro e w5 ⟨lA, lc, rfl, hl, ho, hc⟩
                 have hpw4 : p < w4.heap.size := H4.out.1.lt
                 have hx5 := HX4.out.chg hc (fun e => by have e' : w4.heap.size = p := e; omega)
                 have hsz5 : w4.heap.size < w5.heap.size := hx5.lt
                 have hc5 : Chg (fun k => k = p) wr (w5.setCell ⟨w4.heap.size, 0, none⟩ (.slice lA 0 lc)) := ((H4.out.2.alloc _).trans hc).setCell (.inr hs4) _
                 have hx5s : Box (w5.setCell ⟨w4.heap.size, 0, none⟩ (.slice lA 0 lc)) w4.heap.size 112 #[.slice lA 0 lc, .int .i64 0, .int .i64 0] := by simpa using hx5.set_ 0 (.slice lA 0 lc)
                 have hll : Rd (w5.setCell ⟨w4.heap.size, 0, none⟩ (.slice lA 0 lc)) w5.heap.size lA (bv []) ∧ (∀ ad, lA = some ad → w4.heap.size < ad.block ∧ ad.block < w5.heap.size) := by
                   have hlt := hl.lt
                   refine ⟨(ownsRow_rd hl).far ⟨w4.heap.size, 0, none⟩ (fun ad e => ?_) _, fun ad e => ?_⟩
                   · show ad.block ≠ w4.heap.size
                     have := (hlt ad.block (by simp [Value.ownBlock, e])).1; simp at this; omega
                   have := hlt ad.block (by simp [Value.ownBlock, e]); simp at this; omega
                 have hxc := hx5.cell
                 have hxf := hx5.free
                 have hxl := hx5.lt
                 have H5 := Lib.hid (And.intro (ho.chg ((Chg.refl (fun k => k = w4.heap.size) w5).set1 rfl 0 (.slice lA 0 lc)) (fun k hk => by rw [hk]; exact hpw4)) (And.intro hc5 (And.intro hx5s hll)))
                 clear hl ho hc hc5 hx5 hx5s hll)
              | (go_at_call 94
                 refine (right_zero lA lc 0 size _ (by omega) (by omega)).mono ?_
                 rintro e w6 ⟨rfl, hb6⟩
                 rw [HRT.out]
                 have hx6 := H5.out.2.2.1.below hb6 (by first | (simp [World.setCell]; omega) | omega)
                 have hxc := hx6.cell
                 have hxf := hx6.free
                 have hxl := hx6.lt
                 have hs6 : wr.heap.size ≤ w6.heap.size := Nat.le_trans H5.out.2.1.size hb6.size
                 have H6 := Lib.hid hb6
                 have HX6 := Lib.hid hx6
                 clear hb6 hx6))
            go_ret2
            refine ⟨?_, HK.out.bel.trans ((H5.out.2.1.below HK.out.bel.size (fun k hk => by rw [hk]; exact HK.out.hp)).trans (H6.out.mono (by have := HK.out.bel.size; have := H5.out.2.1.size; omega)))⟩
            rw [HE.out]
            exact ⟨20, by decide, rfl⟩
          rw [if_neg hev] at hgo
          have e2 : (u : Int) % 2 = 1 := by omega
          rw [List.drop_drop] at hgo
          cases hr2 : rdE (b.drop (a + k)) with
          | none =>
            rw [hr2] at hgo
            have HE : Hid (R = none) := hgo.symm
            have HU2 : Hid (uvS b ⟨a + k, false⟩ = (0, ⟨L, true⟩)) := by show _ = _; rw [← HL.out]; exact uvS_none hr2
            have HRT : Hid (rgt 0 0 h size = false) := by show _ = _; unfold rgt; simp
            clear hgo hr2
            go_wp2_with (first
              | (go_at_call 69
                 refine (octRestD p L a b _ _ HK.out.ord HL.out rfl (by omega)).mono ?_
                 rintro e w3 ⟨rfl, x3, rfl⟩)
              | (go_at_call 85
                 refine (octUvD p u b ⟨a, false⟩ ⟨a + k, false⟩ _ (HK.out.ord.below (below_drewN (Below.refl _ _) _)) HU1.out Hmx.out).mono ?_
                 rintro e w4 ⟨rfl, ho, hc⟩
                 have hc4 : Chg (fun k => k = p) wr w4 := ((Chg.refl (fun k => k = p) wr).drewN x3).trans hc
                 have hs4 : wr.heap.size ≤ w4.heap.size := hc4.size
                 have hbx := Box.new w4 112 #[.slice none 0 0, .int .i64 0, .int .i64 0]
                 have hxc := hbx.cell
                 have hxf := hbx.free
                 have hxl := hbx.lt
                 have H4 := Lib.hid (And.intro ho hc4)
                 have HX4 := Lib.hid hbx
                 clear ho hc hc4 hbx)
              | (go_at_call 85
                 refine (octUvD p 0 b ⟨a + k, false⟩ ⟨L, true⟩ _ (H4.out.1.below ((Below.refl _ _).alloc (Nat.le_refl _) _)) HU2.out Hmx.out).mono ?_
                 rintro e w5 ⟨rfl, ho, hc⟩
                 have hpw4 : p < w4.heap.size := H4.out.1.lt
                 have hx5 := HX4.out.chg hc (fun e => by have e' : w4.heap.size = p := e; omega)
                 have hsz5 : w4.heap.size < w5.heap.size := hx5.lt
                 have hc5 : Chg (fun k => k = p) wr ((w5.setCell ⟨w4.heap.size, 2, none⟩ (.int .i64 (h : Nat))).setCell ⟨w4.heap.size, 1, none⟩ (.int .i64 0)) := ((((H4.out.2.alloc _).trans hc).setCell (.inr hs4) _).setCell (.inr hs4) _)
                 have hx5s : Box ((w5.setCell ⟨w4.heap.size, 2, none⟩ (.int .i64 (h : Nat))).setCell ⟨w4.heap.size, 1, none⟩ (.int .i64 0)) w4.heap.size 112 #[.slice none 0 0, .int .i64 0, .int .i64 (h : Nat)] := by simpa using (hx5.set_ 2 (.int .i64 (h : Nat))).set_ 1 (.int .i64 0)
                 have hxc := hx5.cell
                 have hxf := hx5.free
                 have hxl := hx5.lt
                 have H5 := Lib.hid (And.intro (ho.chg (S := fun k => k = w4.heap.size) (((Chg.refl (fun k => k = w4.heap.size) w5).set1 rfl 2 (.int .i64 (h : Nat))).set1 rfl 1 (.int .i64 0)) (fun k hk => by rw [hk]; exact hpw4)) (And.intro hc5 (And.intro hx5s trivial)))
                 clear ho hc hc5 hx5 hx5s)
              | (go_at_call 94
                 refine (right_d0 h size _ (by omega) (by omega)).mono ?_
                 rintro e w6 ⟨rfl, hb6⟩
                 rw [HRT.out]
                 have hx6 := H5.out.2.2.1.below hb6 (by first | (simp [World.setCell]; omega) | omega)
                 have hxc := hx6.cell
                 have hxf := hx6.free
                 have hxl := hx6.lt
                 have hs6 : wr.heap.size ≤ w6.heap.size := Nat.le_trans H5.out.2.1.size hb6.size
                 have H6 := Lib.hid hb6
                 have HX6 := Lib.hid hx6
                 clear hb6 hx6))
            go_ret2
            refine ⟨?_, HK.out.bel.trans ((H5.out.2.1.below HK.out.bel.size (fun k hk => by rw [hk]; exact HK.out.hp)).trans (H6.out.mono (by have := HK.out.bel.size; have := H5.out.2.1.size; omega)))⟩
            rw [HE.out]
            exact ⟨20, by decide, rfl⟩
          | some y2 =>
            obtain ⟨d, k2⟩ := y2
            obtain ⟨hk1, hk2, hd64⟩ := rdE_bound hr2
            rw [hr2] at hgo
            simp only at hgo
            rw [List.length_drop, HL.out] at hk2
            have HU2 : Hid (uvS b ⟨a + k, false⟩ = (d, ⟨a + k + k2, false⟩)) := uvS_some hr2
            clear hr2
            by_cases hd : d ≤ 2048
            · by_cases hr : rightT ⟨[], d, h⟩ size = true
              · rw [if_pos ⟨hd, hr⟩] at hgo
                have HRT : Hid (rgt 0 d h size = true) := (rgt_tok ⟨[], d, h⟩ size).trans hr
                have hh5 : 5 ≤ h := by unfold rightT at hr; rw [if_pos rfl] at hr; exact (of_decide_eq_true hr).1
                clear hr
                by_cases hnn : n < size + h
                · rw [if_pos hnn] at hgo
                  have HE : Hid (R = none) := hgo.symm
                  have g2 : (n : Int) < (size : Int) + h := by omega
                  clear hgo
                  go_wp2_with (first
                    | (go_at_call 69
                       refine (octRestD p L a b _ _ HK.out.ord HL.out rfl (by omega)).mono ?_
                       rintro e w3 ⟨rfl, x3, rfl⟩)
                    | (go_at_call 85
                       refine (octUvD p u b ⟨a, false⟩ ⟨a + k, false⟩ _ (HK.out.ord.below (below_drewN (Below.refl _ _) _)) HU1.out Hmx.out).mono ?_
                       rintro e w4 ⟨rfl, ho, hc⟩
                       have hc4 : Chg (fun k => k = p) wr w4 := ((Chg.refl (fun k => k = p) wr).drewN x3).trans hc
                       have hs4 : wr.heap.size ≤ w4.heap.size := hc4.size
                       have hbx := Box.new w4 112 #[.slice none 0 0, .int .i64 0, .int .i64 0]
                       have hxc := hbx.cell
                       have hxf := hbx.free
                       have hxl := hbx.lt
                       have H4 := Lib.hid (And.intro ho hc4)
                       have HX4 := Lib.hid hbx
                       clear ho hc hc4 hbx)
                    | (go_at_call 85
                       refine (octUvD p d b ⟨a + k, false⟩ ⟨a + k + k2, false⟩ _ (H4.out.1.below ((Below.refl _ _).alloc (Nat.le_refl _) _)) HU2.out Hmx.out).mono ?_
                       rintro e w5 ⟨rfl, ho, hc⟩
                       have hpw4 : p < w4.heap.size := H4.out.1.lt
                       have hx5 := HX4.out.chg hc (fun e => by have e' : w4.heap.size = p := e; omega)
                       have hsz5 : w4.heap.size < w5.heap.size := hx5.lt
                       have hc5 : Chg (fun k => k = p) wr ((w5.setCell ⟨w4.heap.size, 2, none⟩ (.int .i64 (h : Nat))).setCell ⟨w4.heap.size, 1, none⟩ (.int .i64 (d : Nat))) := ((((H4.out.2.alloc _).trans hc).setCell (.inr hs4) _).setCell (.inr hs4) _)
                       have hx5s : Box ((w5.setCell ⟨w4.heap.size, 2, none⟩ (.int .i64 (h : Nat))).setCell ⟨w4.heap.size, 1, none⟩ (.int .i64 (d : Nat))) w4.heap.size 112 #[.slice none 0 0, .int .i64 (d : Nat), .int .i64 (h : Nat)] := by simpa using (hx5.set_ 2 (.int .i64 (h : Nat))).set_ 1 (.int .i64 (d : Nat))
                       have hxc := hx5.cell
                       have hxf := hx5.free
                       have hxl := hx5.lt
                       have H5 := Lib.hid (And.intro (ho.chg (S := fun k => k = w4.heap.size) (((Chg.refl (fun k => k = w4.heap.size) w5).set1 rfl 2 (.int .i64 (h : Nat))).set1 rfl 1 (.int .i64 (d : Nat))) (fun k hk => by rw [hk]; exact hpw4)) (And.intro hc5 (And.intro hx5s trivial)))
                       clear ho hc hc5 hx5 hx5s)
                    | (go_at_call 94
                       refine (right_any none 0 0 d h size _ (by omega) (by omega) (by omega) (by omega)).mono ?_
                       rintro e w6 ⟨rfl, hb6⟩
                       rw [HRT.out]
                       have hx6 := H5.out.2.2.1.below hb6 (by first | (simp [World.setCell]; omega) | omega)
                       have hxc := hx6.cell
                       have hxf := hx6.free
                       have hxl := hx6.lt
                       have hs6 : wr.heap.size ≤ w6.heap.size := Nat.le_trans H5.out.2.1.size hb6.size
                       have H6 := Lib.hid hb6
                       have HX6 := Lib.hid hx6
                       clear hb6 hx6))
                  go_ret2
                  refine ⟨?_, HK.out.bel.trans ((H5.out.2.1.below HK.out.bel.size (fun k hk => by rw [hk]; exact HK.out.hp)).trans (H6.out.mono (by have := HK.out.bel.size; have := H5.out.2.1.size; omega)))⟩
                  rw [HE.out]
                  exact ⟨20, by decide, rfl⟩
                rw [if_neg hnn] at hgo
                have HGN : Hid (goP f (b.drop (a + k + k2)) n (size + h) (ts ++ [⟨[], d, h⟩]) = R) := by show _ = _; rw [← hgo]; try simp only [List.drop_drop, Nat.add_assoc]
                have g2 : ¬ (n : Int) < (size : Int) + h := by omega
                clear hgo
                go_wp2_with (first
                  | (go_at_call 69
                     refine (octRestD p L a b _ _ HK.out.ord HL.out rfl (by omega)).mono ?_
                     rintro e w3 ⟨rfl, x3, rfl⟩)
                  | (go_at_call 85
                     refine (octUvD p u b ⟨a, false⟩ ⟨a + k, false⟩ _ (HK.out.ord.below (below_drewN (Below.refl _ _) _)) HU1.out Hmx.out).mono ?_
                     rintro e w4 ⟨rfl, ho, hc⟩
                     have hc4 : Chg (fun k => k = p) wr w4 := ((Chg.refl (fun k => k = p) wr).drewN x3).trans hc
                     have hs4 : wr.heap.size ≤ w4.heap.size := hc4.size
                     have hbx := Box.new w4 112 #[.slice none 0 0, .int .i64 0, .int .i64 0]
                     have hxc := hbx.cell
                     have hxf := hbx.free
                     have hxl := hbx.lt
                     have H4 := Lib.hid (And.intro ho hc4)
                     have HX4 := Lib.hid hbx
                     clear ho hc hc4 hbx)
                  | (go_at_call 85
                     refine (octUvD p d b ⟨a + k, false⟩ ⟨a + k + k2, false⟩ _ (H4.out.1.below ((Below.refl _ _).alloc (Nat.le_refl _) _)) HU2.out Hmx.out).mono ?_
                     rintro e w5 ⟨rfl, ho, hc⟩
                     have hpw4 : p < w4.heap.size := H4.out.1.lt
                     have hx5 := HX4.out.chg hc (fun e => by have e' : w4.heap.size = p := e; omega)
                     have hsz5 : w4.heap.size < w5.heap.size := hx5.lt
                     have hc5 : Chg (fun k => k = p) wr ((w5.setCell ⟨w4.heap.size, 2, none⟩ (.int .i64 (h : Nat))).setCell ⟨w4.heap.size, 1, none⟩ (.int .i64 (d : Nat))) := ((((H4.out.2.alloc _).trans hc).setCell (.inr hs4) _).setCell (.inr hs4) _)
                     have hx5s : Box ((w5.setCell ⟨w4.heap.size, 2, none⟩ (.int .i64 (h : Nat))).setCell ⟨w4.heap.size, 1, none⟩ (.int .i64 (d : Nat))) w4.heap.size 112 #[.slice none 0 0, .int .i64 (d : Nat), .int .i64 (h : Nat)] := by simpa using (hx5.set_ 2 (.int .i64 (h : Nat))).set_ 1 (.int .i64 (d : Nat))
                     have hxc := hx5.cell
                     have hxf := hx5.free
                     have hxl := hx5.lt
                     have H5 := Lib.hid (And.intro (ho.chg (S := fun k => k = w4.heap.size) (((Chg.refl (fun k => k = w4.heap.size) w5).set1 rfl 2 (.int .i64 (h : Nat))).set1 rfl 1 (.int .i64 (d : Nat))) (fun k hk => by rw [hk]; exact hpw4)) (And.intro hc5 (And.intro hx5s trivial)))
                     clear ho hc hc5 hx5 hx5s)
                  | (go_at_call 94
                     refine (right_any none 0 0 d h size _ (by omega) (by omega) (by omega) (by omega)).mono ?_
                     rintro e w6 ⟨rfl, hb6⟩
                     rw [HRT.out]
                     have hx6 := H5.out.2.2.1.below hb6 (by first | (simp [World.setCell]; omega) | omega)
                     have hxc := hx6.cell
                     have hxf := hx6.free
                     have hxl := hx6.lt
                     have hs6 : wr.heap.size ≤ w6.heap.size := Nat.le_trans H5.out.2.1.size hb6.size
                     have H6 := Lib.hid hb6
                     have HX6 := Lib.hid hx6
                     clear hb6 hx6)
                  | (at_builtin
                     have hc6 : Chg (fun k => k = p) wr (w6.alloc (.cells #[.slice none 0 0, .int .i64 (d : Nat), .int .i64 (h : Nat)] 112)) := (H5.out.2.1.trans (Chg.of_below H6.out _)).alloc _
                     have ho6 : ORd (w6.alloc (.cells #[.slice none 0 0, .int .i64 (d : Nat), .int .i64 (h : Nat)] 112)) p b ⟨a + k + k2, false⟩ := (H5.out.1.below H6.out).below ((Below.refl _ _).alloc (Nat.le_refl _) _)
                     obtain ⟨ms, hm1, hm2, hm3⟩ := HK.out.to_.chg hc6 (fun k hk => by rw [hk]; exact Nat.lt_succ_self p)
                     refine wpList_app _ rfl (.tmp 61) (.tmp 63) _ rfl (p + 1) 112 i0 _ 3 40 Tryz.underlying96 hi0 hz0 hs0 hy0 rfl (by omega) (.slice vb ts.length vc) ts.length (ms.flatMap tmc) rfl hm2 _ _ 1 1 _ rfl rfl (rd_newB w6 rfl _ _) (by simp [Value.oneCell']) (by unfold maxLen; omega) (by omega) (by simp <;> omega) ?_
                     intro v7 w7 hown hg hvv
                     obtain ⟨b7, c7, rfl⟩ := ownsRow_slice hown
                     have hb7 : Below w.heap.size wr w7 := (hc6.below HK.out.bel.size (fun k hk => by rw [hk]; exact HK.out.hp)).grown hg (by have := HK.out.bel.size; simp <;> omega) (fun j e => by have := (hm2.lt j e).1; have := HK.out.hp; omega)
                     have ho7 : ORd w7 p b ⟨a + k + k2, false⟩ := ho6.chg (Chg.of_grown hg) (fun k hk => (hm2.lt k hk.symm).1)
                     have hto : TO w7 (p + 1) (.slice b7 (ts.length + 1) c7) (ts ++ [⟨[], d, h⟩]) := by
                       have := TO.push hm2 hm3 ⟨none, 0, ⟨[], d, h⟩⟩ ⟨Rd.nil _ _ _, fun ad e => by cases e⟩ (by have := congrArg List.length hm1; simp at this; omega) (by exact hown) hg hvv
                       rw [hm1] at this
                       exact this
                     have H7 := Lib.hid (And.intro ho7 (And.intro hto hb7))
                     clear hc6 ho6 hm1 hm2 hm3 hown hg hvv hb7 ho7 hto))
                go_roundw
                case rel =>
                  refine ⟨a + k + k2, f, size + h, ts ++ [⟨[], d, h⟩], by go_num, by omega, HK.out.next H7.out.1 (by simpa using H7.out.2.1) H7.out.2.2 (by simp; omega), ?_, by omega⟩
                  exact HGN.out
                case measure => simp [intOf]; omega
              rw [if_neg (fun h => hr h.2)] at hgo
              have HE : Hid (R = none) := hgo.symm
              have HRT : Hid (rgt 0 d h size = false) := (rgt_tok ⟨[], d, h⟩ size).trans (by simpa using hr)
              clear hgo hr
              go_wp2_with (first
                | (go_at_call 69
                   refine (octRestD p L a b _ _ HK.out.ord HL.out rfl (by omega)).mono ?_
                   rintro e w3 ⟨rfl, x3, rfl⟩)
                | (go_at_call 85
                   refine (octUvD p u b ⟨a, false⟩ ⟨a + k, false⟩ _ (HK.out.ord.below (below_drewN (Below.refl _ _) _)) HU1.out Hmx.out).mono ?_
                   rintro e w4 ⟨rfl, ho, hc⟩
                   have hc4 : Chg (fun k => k = p) wr w4 := ((Chg.refl (fun k => k = p) wr).drewN x3).trans hc
                   have hs4 : wr.heap.size ≤ w4.heap.size := hc4.size
                   have hbx := Box.new w4 112 #[.slice none 0 0, .int .i64 0, .int .i64 0]
                   have hxc := hbx.cell
                   have hxf := hbx.free
                   have hxl := hbx.lt
                   have H4 := Lib.hid (And.intro ho hc4)
                   have HX4 := Lib.hid hbx
                   clear ho hc hc4 hbx)
                | (go_at_call 85
                   refine (octUvD p d b ⟨a + k, false⟩ ⟨a + k + k2, false⟩ _ (H4.out.1.below ((Below.refl _ _).alloc (Nat.le_refl _) _)) HU2.out Hmx.out).mono ?_
                   rintro e w5 ⟨rfl, ho, hc⟩
                   have hpw4 : p < w4.heap.size := H4.out.1.lt
                   have hx5 := HX4.out.chg hc (fun e => by have e' : w4.heap.size = p := e; omega)
                   have hsz5 : w4.heap.size < w5.heap.size := hx5.lt
                   have hc5 : Chg (fun k => k = p) wr ((w5.setCell ⟨w4.heap.size, 2, none⟩ (.int .i64 (h : Nat))).setCell ⟨w4.heap.size, 1, none⟩ (.int .i64 (d : Nat))) := ((((H4.out.2.alloc _).trans hc).setCell (.inr hs4) _).setCell (.inr hs4) _)
                   have hx5s : Box ((w5.setCell ⟨w4.heap.size, 2, none⟩ (.int .i64 (h : Nat))).setCell ⟨w4.heap.size, 1, none⟩ (.int .i64 (d : Nat))) w4.heap.size 112 #[.slice none 0 0, .int .i64 (d : Nat), .int .i64 (h : Nat)] := by simpa using (hx5.set_ 2 (.int .i64 (h : Nat))).set_ 1 (.int .i64 (d : Nat))
                   have hxc := hx5.cell
                   have hxf := hx5.free
                   have hxl := hx5.lt
                   have H5 := Lib.hid (And.intro (ho.chg (S := fun k => k = w4.heap.size) (((Chg.refl (fun k => k = w4.heap.size) w5).set1 rfl 2 (.int .i64 (h : Nat))).set1 rfl 1 (.int .i64 (d : Nat))) (fun k hk => by rw [hk]; exact hpw4)) (And.intro hc5 (And.intro hx5s trivial)))
                   clear ho hc hc5 hx5 hx5s)
                | (go_at_call 94
                   refine (right_any none 0 0 d h size _ (by omega) (by omega) (by omega) (by omega)).mono ?_
                   rintro e w6 ⟨rfl, hb6⟩
                   rw [HRT.out]
                   have hx6 := H5.out.2.2.1.below hb6 (by first | (simp [World.setCell]; omega) | omega)
                   have hxc := hx6.cell
                   have hxf := hx6.free
                   have hxl := hx6.lt
                   have hs6 : wr.heap.size ≤ w6.heap.size := Nat.le_trans H5.out.2.1.size hb6.size
                   have H6 := Lib.hid hb6
                   have HX6 := Lib.hid hx6
                   clear hb6 hx6))
              go_ret2
              refine ⟨?_, HK.out.bel.trans ((H5.out.2.1.below HK.out.bel.size (fun k hk => by rw [hk]; exact HK.out.hp)).trans (H6.out.mono (by have := HK.out.bel.size; have := H5.out.2.1.size; omega)))⟩
              rw [HE.out]
              exact ⟨20, by decide, rfl⟩
            rw [if_neg (fun h => hd h.1)] at hgo
            have HE : Hid (R = none) := hgo.symm
            have HRT : Hid (rgt 0 0 0 size = false) := by show _ = _; unfold rgt; simp
            clear hgo
            go_wp2_with (first
              | (go_at_call 69
                 refine (octRestD p L a b _ _ HK.out.ord HL.out rfl (by omega)).mono ?_
                 rintro e w3 ⟨rfl, x3, rfl⟩)
              | (go_at_call 85
                 refine (octUvD p u b ⟨a, false⟩ ⟨a + k, false⟩ _ (HK.out.ord.below (below_drewN (Below.refl _ _) _)) HU1.out Hmx.out).mono ?_
                 rintro e w4 ⟨rfl, ho, hc⟩
                 have hc4 : Chg (fun k => k = p) wr w4 := ((Chg.refl (fun k => k = p) wr).drewN x3).trans hc
                 have hs4 : wr.heap.size ≤ w4.heap.size := hc4.size
                 have hbx := Box.new w4 112 #[.slice none 0 0, .int .i64 0, .int .i64 0]
                 have hxc := hbx.cell
                 have hxf := hbx.free
                 have hxl := hbx.lt
                 have H4 := Lib.hid (And.intro ho hc4)
                 have HX4 := Lib.hid hbx
                 clear ho hc hc4 hbx)
              | (go_at_call 85
                 refine (octUvD p d b ⟨a + k, false⟩ ⟨a + k + k2, false⟩ _ (H4.out.1.below ((Below.refl _ _).alloc (Nat.le_refl _) _)) HU2.out Hmx.out).mono ?_
                 rintro e w5 ⟨rfl, ho, hc⟩
                 have hpw4 : p < w4.heap.size := H4.out.1.lt
                 have hx5 := HX4.out.chg hc (fun e => by have e' : w4.heap.size = p := e; omega)
                 have hsz5 : w4.heap.size < w5.heap.size := hx5.lt
                 have hc5 : Chg (fun k => k = p) wr w5 := ((H4.out.2.alloc _).trans hc)
                 have hx5s : Box w5 w4.heap.size 112 #[.slice none 0 0, .int .i64 0, .int .i64 0] := hx5
                 have hxc := hx5.cell
                 have hxf := hx5.free
                 have hxl := hx5.lt
                 have H5 := Lib.hid (And.intro (ho.chg (S := fun k => k = w4.heap.size) (Chg.refl _ w5) (fun k hk => by rw [hk]; exact hpw4)) (And.intro hc5 (And.intro hx5s trivial)))
                 clear ho hc hc5 hx5 hx5s)
              | (go_at_call 94
                 refine (right_zero none 0 0 size _ (by omega) (by omega)).mono ?_
                 rintro e w6 ⟨rfl, hb6⟩
                 rw [HRT.out]
                 have hx6 := H5.out.2.2.1.below hb6 (by first | (simp [World.setCell]; omega) | omega)
                 have hxc := hx6.cell
                 have hxf := hx6.free
                 have hxl := hx6.lt
                 have hs6 : wr.heap.size ≤ w6.heap.size := Nat.le_trans H5.out.2.1.size hb6.size
                 have H6 := Lib.hid hb6
                 have HX6 := Lib.hid hx6
                 clear hb6 hx6))
            go_ret2
            refine ⟨?_, HK.out.bel.trans ((H5.out.2.1.below HK.out.bel.size (fun k hk => by rw [hk]; exact HK.out.hp)).trans (H6.out.mono (by have := HK.out.bel.size; have := H5.out.2.1.size; omega)))⟩
            rw [HE.out]
            exact ⟨20, by decide, rfl⟩
      have haL2 : a = L := by omega
      have g0 : ¬ (0 : Int) < (L : Int) - a := by omega
      have hd0 : b.drop a = [] := List.drop_eq_nil_of_le (by rw [HL.out, haL2]; exact Nat.le_refl _)
      rw [hd0, goP, if_pos rfl] at hgo
      have HGE : Hid ((if size = n then some ts else none) = R) := hgo
      clear hgo
      by_cases hsn : size = n
      · have HE : Hid (R = some ts) := by show _ = _; rw [← HGE.out, if_pos hsn]
        have g5 : ((size : Int) == (n : Int)) = true := by simp [hsn]
        have g6 : (size : Int) = n := by omega
        go_wp2_with (first
          | (go_at_call 69
             refine (octRestD p L a b _ _ HK.out.ord HL.out rfl (by omega)).mono ?_
             rintro e w3 ⟨rfl, x3, rfl⟩)
          | (go_at_call 73
             refine (octEnd p b _ _ (HK.out.ord.below (below_drewN (Below.refl _ _) _))).mono ?_
             rintro e w4 ⟨x, y, rfl, hx, hb4⟩
             have H4 := Lib.hid hb4
             obtain rfl : x = 0 := hx.1 ⟨rfl, by show a = b.length; rw [HL.out]; exact haL2⟩
             clear hx hb4))
        go_ret2
        refine ⟨?_, (below_drewN HK.out.bel _).trans (H4.out.mono HK.out.bel.size)⟩
        rw [HE.out]
        exact ⟨vb, vc, rfl, ((HK.out.to_.chg ((Chg.refl (fun _ => False) wr).drewN _) (fun _ e => e.elim)).below H4.out).le (Nat.le_trans HK.out.hp (Nat.le_succ _))⟩
      have HE : Hid (R = none) := by show _ = _; rw [← HGE.out, if_neg hsn]
      have g5 : ((size : Int) == (n : Int)) = false := by simp; omega
      go_wp2_with (first
        | (go_at_call 69
           refine (octRestD p L a b _ _ HK.out.ord HL.out rfl (by omega)).mono ?_
           rintro e w3 ⟨rfl, x3, rfl⟩)
        | (go_at_call 73
           refine (octEnd p b _ _ (HK.out.ord.below (below_drewN (Below.refl _ _) _))).mono ?_
           rintro e w4 ⟨x, y, rfl, hx, hb4⟩
           have H4 := Lib.hid hb4
           obtain rfl : x = 0 := hx.1 ⟨rfl, by show a = b.length; rw [HL.out]; exact haL2⟩
           clear hx hb4))
      go_ret2
      refine ⟨?_, (below_drewN HK.out.bel _).trans (H4.out.mono HK.out.bel.size)⟩
      rw [HE.out]
      exact ⟨20, by decide, rfl⟩
end Go.Proofs.YtmhlgbpgdhhfnaaGreat
