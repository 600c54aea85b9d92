import Derived.Test.YtifimeohdgnehaaHof2
namespace Go.Proofs.Ytifimeohdgnehaa
open Go.RowKit Go.Maps
open Go.Proofs (encStr)

theorem info_int : (Try.prog.info? 3).map (fun i => (i.zero, i.size, i.bytes)) = some (some (.int .i64 0), 1, 8) := by kernel_rfl

/-- A hint that grows: its cell and its own row of entries. -/
structure HW (hb : Nat) (seg size : Int) (be : Option Addr) (m ce : Nat) (ents : List HE) (w W : World) : Prop where
  below : Below hb w W
  box : Box W hb 24 #[.int .i64 seg, .int .i64 size, .slice be m ce]
  row : W.ownsRow (hb + 1) 33 6 (.slice be m ce) m (ents.flatMap six)
  len : ents.length = m
  ord : w.heap.size = hb
section
variable {w W W' : World} {hb m ce : Nat} {seg size : Int} {be : Option Addr} {ents : List HE}
theorem HW.next (d : HW hb seg size be m ce ents w W) (h : Below W.heap.size W W') : HW hb seg size be m ce ents w W' :=
  ⟨d.below.trans (h.mono (by have := d.box.lt; omega)), d.box.next h, ownsRow_block d.row fun k hk => h.block k (d.row.lt k hk).2, d.len, d.ord⟩
theorem HW.al (d : HW hb seg size be m ce ents w W) (o : Obj) : HW hb seg size be m ce ents w (W.alloc o) := d.next (Below.al W o)
theorem HW.drewN (d : HW hb seg size be m ce ents w W) (n : Nat) : HW hb seg size be m ce ents w (W.drewN n) := d.next (below_drewN (Below.refl _ _) n)
theorem HW.drew (d : HW hb seg size be m ce ents w W) : HW hb seg size be m ce ents w W.drew := d.next (below_drew (Below.refl _ _))
theorem HW.start (w : World) (seg size : Int) : HW w.heap.size seg size none 0 0 [] w (w.alloc (.cells #[.int .i64 seg, .int .i64 size, .slice none 0 0] 24)) :=
  ⟨(Below.refl _ _).alloc (Nat.le_refl _) _, Box.new _ _ _, nil_own _ _ _ _, rfl, rfl⟩
theorem HW.grow {w8 : World} {g cap : Nat} {e : HE} (d : HW hb seg size be m ce ents w W) (hg : W.grownBy w8 (Value.slice be m ce).ownBlock)
    (hr : w8.ownsRow (hb + 1) 33 6 (.slice (some ⟨g, 0, none⟩) (m + 1) cap) (m + 1) (ents.flatMap six ++ six e)) :
    HW hb seg size (some ⟨g, 0, none⟩) (m + 1) cap (ents ++ [e]) w (w8.setCell ⟨hb, 2, none⟩ (.slice (some ⟨g, 0, none⟩) (m + 1) cap)) := by
  have hlt : ∀ k, (Value.slice be m ce).ownBlock = some k → hb + 1 ≤ k := fun k hk => (d.row.lt k hk).1
  have hbl := d.box.lt
  refine ⟨?_, ?_, ?_, by simp [d.len], d.ord⟩
  · exact (d.below.grown hg (by omega) fun k hk => by have := hlt k hk; omega).setCell (by show hb ≤ hb; omega) _
  · have := (d.box.grown hg fun e => by have := hlt _ e.symm; omega).set_ 2 (.slice (some ⟨g, 0, none⟩) (m + 1) cap)
    simpa using this
  · have hrow := append_row hr
    exact ownsRow_block hrow fun k hk => Below.heap_setCell _ _ _ _ (by show k ≠ hb; have := (hr.lt k hk).1; omega)
end
theorem wf_nat {k : Nat} (h : k ≤ 9000000000000000000) : (Lit.int .i64 (k : Int)).wf = true := by simp [Lit.wf, IntKind.min, IntKind.max, IntKind.signed, IntKind.bits]; omega

set_option maxRecDepth 100000 in
set_option maxHeartbeats 8000000 in
theorem octOf (seg size : Int) (A : Option Addr) (n c m : Nat) (l : List PL) (E : List HE) (w : World) (hE : hofE l n = E) (hm : E.length = m) (hA : Rd w w.heap.size A (l.flatMap nine)) (hn : l.length = n)
    (hmx : n ≤ 1599289640354) (hk : ∀ i, (pth l i).key.size ≤ maxLen) :
    Calls Try.prog 16 #[.int .i64 seg, .int .i64 size, .slice A n c] w fun e w' => ∃ b cap, e = .returned (hV seg size (.slice b m cap)) ∧ ER w.heap.size w'.heap.size w' b m cap E ∧ Below w.heap.size w w' := by
  have hmm := @run_makeMap Try.prog
  obtain ⟨i1, hi1, hz1, hs1, hy1⟩ := info_parts info_he
  obtain ⟨i2, hi2, hz2, hs2, hy2⟩ := info_parts info_int
  have hb0 : Below w.heap.size w (w.alloc (.cells #[.int .i64 0, .int .i64 0, .slice none 0 0] 24)) := (Below.refl _ _).alloc (Nat.le_refl _) _
  have HB0 := Lib.hid (And.intro hb0 (Box.new w 24 #[.int .i64 0, .int .i64 0, .slice none 0 0]))
  have HEE := Lib.hid (And.intro hE hm)
  have HA := Lib.hid hA
  have Hn := Lib.hid hn
  have HK := Lib.hid hk
  clear hb0 hE hm hA hn hk
  go_enter Try.func16, Try.ntmps16
  go_wp2
  go_loopw [20] (fun iv wr => ∃ (k : Nat) (D : DataW Unit), k ≤ n ∧ iv = .int .i64 k ∧ LMap Try.prog 9 3 l wr (w.heap.size + 1) k D ∧ Below w.heap.size w wr ∧ Box wr w.heap.size 24 #[.int .i64 0, .int .i64 0, .slice none 0 0])
    (fun iv _ => n - (intOf iv).toNat)
  case atStart =>
    refine ⟨0, .map [], Nat.zero_le _, rfl, ?_, HB0.out.1.alloc (by simp) _, HB0.out.2.alloc _⟩
    have := LMap.made (P := Try.prog) (K := 9) (E := 3) (l := l) (w.alloc (.cells #[.int .i64 0, .int .i64 0, .slice none 0 0] 24))
    simpa using this
  case round =>
    clear HB0
    obtain ⟨k, D, hk, rfl, hL, hb, hx⟩ := hrel
    by_cases hlt : k < n
    · have hkl : k < l.length := by rw [Hn.out]; exact hlt
      obtain ⟨ad, rfl, hadb, p0, p1, p2, p3, p4, p5, p6, p7, p8⟩ := (HA.out.below hb).nine_ hkl
      rw [← pth_eq hkl] at p0 p1 p2 p3 p4 p5 p6 p7 p8
      have hks := HK.out k
      have hkm : k < maxLen := by unfold maxLen; omega
      have hvw := wf_nat (k := k) (by omega)
      have HS : Hid (∀ o, LMap Try.prog 9 3 l (wr.alloc o) (w.heap.size + 1) k D) := fun o => hL.kept (World.grownBy_alloc wr o none) (by simp)
      have hml := hL.lt
      have HB := Lib.hid (And.intro hb hx)
      clear hL hb hx hkl
      go_wp2_with (at_mapUpdate; refine wpList_lStore _ rfl (.tmp 25) (.tmp 28) (.tmp 29) _ rfl Try.underlying9 Try.underlying3 Try.underlying71 _ k _ rfl (HS.out _) hkm rfl rfl hks hvw ?_; intro w1 D1 hL1 hg1)
      go_roundw
      case rel => exact ⟨k + 1, D1, by omega, by go_num, hL1, (HB.out.1.alloc (by omega) _).grown hg1 (by simp; omega) (fun j e => by cases e; omega), (HB.out.2.alloc _).grown hg1 (by simp)⟩
      case measure => simp [intOf]; omega
    · have hkn : k = n := by omega
      subst hkn
      have hml := hL.lt
      go_wp2_with (first
        | (at_range; refine wpList_range_own _ rfl _ 71 rfl 9 3 (string_keyed Try.underlying9) Try.underlying71 _ (w.heap.size + 1) k D rfl hL.1 ?_; intro w0 hrg0 hg0 hs0))
      go_frame
      have HL := Lib.hid hL
      clear hs0
      obtain ⟨w9, hw9⟩ : ∃ w9, w9 = wr := ⟨wr, rfl⟩
      subst hw9
      go_loopw [10] (fun v w2 => ∃ (left : Lit → Bool) (cnt : Nat) (is : List Nat), w2.ranges Try.prog 9 (plainElem Try.prog 3) (w.heap.size + 1) w9.heap.size k D left cnt ∧ (is.map Int.ofNat).length + cnt ≤ k ∧
          w2.ownsRow (w9.heap.size + 1) 3 1 v (is.map Int.ofNat).length ((is.map Int.ofNat).map (Value.int .i64)) ∧ Coll l k D left is ∧ Below w.heap.size w w2 ∧ Box w2 w.heap.size 24 #[.int .i64 0, .int .i64 0, .slice none 0 0])
        (fun _ w2 => w2.rangeLeft (w.heap.size + 1) w9.heap.size)
      case atStart => exact ⟨_, _, [], hrg0, by simpa using hL.2.2.2.1, nil_own _ _ _ _, Coll.start hL, hb.grown hg0 (by omega) (fun j e => by cases e), hx.grown hg0 (by simp)⟩
      case round =>
        clear hL hb hx hrg0 hg0
        obtain ⟨left, cnt, is, hrg, hcs, hrow, hC, hb2, hx2⟩ := hrel
        obtain ⟨pb, pc, rfl⟩ := row_slice hrow
        generalize hzz : is.map Int.ofNat = zs at hrow hcs
        have HZZ := Lib.hid hzz
        clear hzz
        have hzw := hrg.lt
        have hgs : w9.heap.size + 1 ≤ wr.heap.size := by omega
        have HH := Lib.hid (And.intro hrow (And.intro hC (And.intro hb2 hx2)))
        clear hrow hC hb2 hx2
        go_wp2_with (first
          | (at_next; refine wpList_next_ranges _ rfl _ rfl 9 (string_keyed Try.underlying9) (plainElem Try.prog 3) encStr (Value.int .i64) (fun key kl hk => by obtain ⟨x, hx, _⟩ := Maps.keyOf_str Try.underlying9 hk; exact ⟨x, hx⟩) (fun v y hv => by obtain ⟨c, rfl, _⟩ := plainElem_int_inv Try.underlying3 hv; exact ⟨c, rfl⟩) (w.heap.size + 1) w9.heap.size k _ _ _ rfl hrg ?_ ?_))
        · intro hc0 hl0
          have hdn := HH.out.2.1.done hl0
          rw [HZZ.out] at hdn
          have hzl : zs.length = m := by
            have h1 := congrArg List.length hdn
            rw [List.length_mergeSort] at h1
            rw [h1, ← HEE.out.2, ← HEE.out.1]
            simp [hofE]
          have hrs := HH.out.1
          subst hzl
          have hmk : zs.length ≤ k := by omega
          have hzi : (ixs l k k).length = zs.length := by
            have h1 := congrArg List.length hdn
            rw [List.length_mergeSort] at h1
            rw [h1]; simp
          have HZ := Lib.hid (And.intro hdn hzi)
          have HH2 := Lib.hid HH.out.2.2
          have HR := Lib.hid hrs
          have HZ62 : Hid (zs.length < 4611686018427387904) := by show _ < _; omega
          clear hrs hdn hzi HH hcs hrg hc0 hl0
          go_wp2_with (first
            | (go_at_call 46
               refine (sortRow (zs := zs) HR.out HZ62.out).mono ?_
               rintro e w5 ⟨rfl, hrow5, hg5⟩
               have h5 := And.intro (HH2.out.1.grown hg5 (by omega) (fun j e => by have := (HR.out.lt j e).1; omega)) (HH2.out.2.grown hg5 (fun e => by have := (HR.out.lt _ e.symm).1; omega))
               rw [HZ.out.1] at hrow5
               have hsz5 := hg5.size
               have hx5l := h5.2.lt
               have H5 := Lib.hid (And.intro h5 (ownsRow_rd hrow5))
               clear h5 hrow5 hg5 HR HH2))
          have HA5 := Lib.hid ((HA.out.below H5.out.1.1).mono (by omega : w.heap.size ≤ w5.heap.size))
          go_loopw [48] (fun iv w6 => ∃ (q ce : Nat) (be : Option Addr), q ≤ zs.length ∧ iv = .int .i64 q ∧ HW w5.heap.size seg size be q ce (((ixs l k k).take q).map fun i => ent (pth l i)) w5 w6)
            (fun iv _ => zs.length - (intOf iv).toNat)
          case atStart => exact ⟨0, 0, none, Nat.zero_le _, rfl, HW.start w5 seg size⟩
          case round =>
            obtain ⟨q, ce, be, hq, rfl, hW⟩ := hrel
            have hbx := hW.box.cell
            have hbl := hW.box.lt
            by_cases hqz : q < zs.length
            · have hqi : q < (ixs l k k).length := by rw [HZ.out.2]; exact hqz
              obtain ⟨i, hi⟩ : ∃ i, i = (ixs l k k)[q] := ⟨_, rfl⟩
              have him : i < k := (ixs_mem.1 (hi ▸ List.getElem_mem hqi)).1
              obtain ⟨pd, rfl, hpd, c0⟩ := (H5.out.2.below hW.below) q (.int .i64 (i : Int)) (by rw [hi]; simp [hqi])
              have hil : i < l.length := by rw [Hn.out]; exact him
              obtain ⟨ad, rfl, hadb, p0, p1, p2, p3, p4, p5, p6, p7, p8⟩ := (HA5.out.below hW.below).nine_ hil
              rw [← pth_eq hil] at p0 p1 p2 p3 p4 p5 p6 p7 p8
              have HTk := Lib.hid (show (((ixs l k k).take (q + 1)).map fun i => ent (pth l i)) = (((ixs l k k).take q).map fun i => ent (pth l i)) ++ [ent (pth l i)] by
                rw [List.take_succ_eq_append_getElem hqi, List.map_append, hi]; rfl)
              generalize pth l i = p at p0 p1 p2 p3 p4 p5 p6 p7 p8 HTk
              have DS := Lib.hid hW
              have hi0 : (0 : Int) ≤ i := by omega
              have hik : (i : Int) < k := by omega
              clear hW hi hil hqi
              go_wp2_with (at_builtin
                           have D7 := (DS.out.al (.cells (nine p).toArray 45)).al (.cells (six (ent p)).toArray 33)
                           have hrn : Rd ((wr.alloc (.cells (nine p).toArray 45)).alloc (.cells (six (ent p)).toArray 33)) (wr.heap.size + 2) (some ⟨wr.heap.size + 1, 0, none⟩) (six (ent p)) := by simpa using rd_new (wr.alloc (.cells (nine p).toArray 45)) (six (ent p)).toArray 33
                           refine wpList_app1 _ rfl (.tmp 57) (.tmp 76) _ rfl (w5.heap.size + 1) 33 i1 _ 6 56 Try.underlying22 hi1 hz1 hs1 hy1 rfl (by omega) (.slice be q ce) q _ rfl D7.row _ _ 1 1 (six (ent p)) rfl rfl hrn (one_six' _) (by unfold maxLen; omega) (by omega) (by have := DS.out.box.lt; simp; omega) (by omega) ?_
                           intro g cap w8 hO hca hcb hrow hg _
                           unfold maxLen at hcb
                           have hb8 := D7.box.grown hg (fun e => by have := (D7.row.lt _ e.symm).1; omega)
                           have hbc8 := hb8.cell
                           have hbf8 := hb8.free
                           have lb8 := hb8.lt
                           have D9 := Lib.hid (D7.grow hg hrow)
                           clear D7 hO hrow hg hb8 DS hrn)
              go_roundw
              case rel => exact ⟨q + 1, cap, some ⟨g, 0, none⟩, by omega, by go_num, by rw [HTk.out]; exact D9.out⟩
              case measure => simp [intOf]; omega
            · have hqe : q = zs.length := by omega
              subst hqe
              have hx6 := H5.out.1.2.below hW.below hx5l
              have hxc := hx6.cell
              have hxf := hx6.free
              have hxl := hx6.lt
              have HE6 := Lib.hid (show (((ixs l k k).take zs.length).map fun i => ent (pth l i)) = E by rw [← HZ.out.2, List.take_length]; exact HEE.out.1)
              have DS := Lib.hid hW
              clear hW hx6
              go_wp2
              refine bodyPost_ret (v := .agg #[.int .i64 seg, .int .i64 size, .slice be zs.length ce]) ?_ rfl ?_
              · simp [results, Try.results16, go_sem, hxc]
              have hr := DS.out.row
              have hle := DS.out.len
              rw [HE6.out] at hr hle
              refine ⟨be, ce, rfl, ER.mk' (ownsRow_le (ownsRow_block hr fun j hj => heap_set3 _ _ _ _ _ _ ?_) (by omega)) hle, ?_⟩
              · have := (hr.lt j hj).1
                omega
              · exact (((H5.out.1.1.trans (DS.out.below.mono (by omega))).setCell (Nat.le_refl _) _).setCell (Nat.le_refl _) _).setCell (Nat.le_refl _) _
        · intro x c kl yd yp w3 cnt3 hkey hlk hv hat hrg3 hlt3 hg3 hs3 hen
          obtain ⟨x', ex, rfl, _⟩ := Maps.keyOf_str Try.underlying9 hkey
          obtain rfl : x = x' := encStr_inj ex
          obtain ⟨c', ec, ey, _⟩ := plainElem_int_inv Try.underlying3 hv
          cases ec
          cases ey
          obtain ⟨j, rfl, hjn, hC2⟩ := HH.out.2.1.step HL.out hlk hat
          have hrow3 := ownsRow_block HH.out.1 fun q hq => hg3.block q (HH.out.1.lt q hq).2 (by intro e; have := (HH.out.1.lt q hq).1; simp at e; omega)
          have hsz3 := hg3.size
          have HC2 := Lib.hid hC2
          clear hs3 hC2
          go_wp2_with (at_builtin
                       refine wpList_app _ rfl (.tmp 37) (.tmp 39) _ rfl (w9.heap.size + 1) 3 i2 _ 1 8 Try.underlying72 hi2 hz2 hs2 hy2 rfl (by decide) (.slice pb zs.length pc) zs.length _ rfl (hrow3.alloc _) _ _ 1 1 [.int .i64 (j : Int)] rfl rfl (rd_new _ _ _) (by simp [Value.oneCell']) (by unfold maxLen; omega) (by omega) (by simp; omega) ?_
                       intro v' w4 hown hg4 hor
                       have HG := Lib.hid (And.intro hown hg4)
                       clear hown hg4 hor)
          have hg4 := HG.out.2
          have hrg4 := (hrg3.alloc _).kept hg4 (fun e => by have := (HH.out.1.lt _ e.symm).1; omega) (fun e => by have := (HH.out.1.lt _ e.symm).1; omega)
          go_roundw
          case rel =>
            refine ⟨_, cnt3, is ++ [j], hrg4, by rw [List.map_append, HZZ.out]; simp; omega, by have := HG.out.1; rw [List.map_append, HZZ.out]; simpa using this, HC2.out, ?_, ?_⟩
            · exact ((HH.out.2.2.1.grown hg3 (by omega) (fun j e => by cases e; omega)).alloc (by omega) _).grown hg4 (by simp; omega) (fun j e => by have := (HH.out.1.lt j e).1; omega)
            · exact ((HH.out.2.2.2.grown hg3 (by simp; omega)).alloc _).grown hg4 (fun e => by have := (HH.out.1.lt _ e.symm).1; omega)
          case measure => rw [hrg4.left_eq, hrg.left_eq]; exact hlt3
end Go.Proofs.Ytifimeohdgnehaa
