import Derived.Test.YtifimeohdgnehaaHnt12
import Derived.Test.YtifimeohdgnehaaHnt10
namespace Go.Proofs.Ytifimeohdgnehaa
open Go.RowKit Go.Maps

/-- What the loop knows of a right hint's bytes. -/
def CanO (l : List UInt8) (seg size : Int) (m nn : Nat) (s : RSt) (off en : Int) (ents : List HE) : Prop :=
  ∀ sg sz H, HintR sg sz H → l = bodyH sg sz H → sg = seg ∧ sz = size ∧ CanAt l H m s off en ents ∧ nn + m = H.length
theorem cap_id {a b : Int} (h : a ≤ b) : (if b < a then b else a) = a := if_neg (by omega)
theorem CanO.start {l : List UInt8} {sa sb sc : RSt} {va vb vc : Nat} (h1 : uvS l ⟨0, false⟩ = (va, sa)) (h2 : uvS l sa = (vb, sb)) (h3 : uvS l sb = (vc, sc)) : CanO l (bnd 1125899906842624 va) (bnd 1125899906842624 vb) 0 vc sc (-1) 21 [] := by
  intro sg sz H hr hl
  have r0 : l.drop (RSt.mk 0 false).at_ = uvar sg.toNat ++ (uvar sz.toNat ++ (uvar H.length ++ entsTail H 0)) := by rw [← bodyH_split, ← hl]; rfl
  have hlen := hint_len hr
  obtain ⟨g1, g2, g3, g4, _⟩ := hr
  have c1 := uvS_canon rfl r0 (by omega)
  rw [h1] at c1
  have c2 := uvS_canon c1.2.1 c1.2.2 (by omega)
  simp only at c2
  rw [h2] at c2
  have c3 := uvS_canon c2.2.1 c2.2.2 (by omega)
  simp only at c3
  rw [h3] at c3
  obtain ⟨e1, _⟩ := c1
  obtain ⟨e2, _⟩ := c2
  obtain ⟨e3, e4, e5⟩ := c3
  simp only at e1 e2 e3
  subst e1 e2 e3
  exact ⟨by rw [bnd_small (by omega)]; omega, by rw [bnd_small (by omega)]; omega, ⟨e4, e5, rfl, rfl, rfl, Nat.zero_le _⟩, by omega⟩
theorem CanO.next {l : List UInt8} {seg size off en : Int} {m nn : Nat} {s s1 s2 s3 s4 s5 : RSt} {ents : List HE} {v1 v2 v3 v4 : Nat} {t : List UInt8} {y1 y2 y3 y4 : Int}
    (h : CanO l seg size m nn s off en ents) (hn : 0 < nn) (h1 : uvS l s = (v1, s1)) (h2 : uvS l s1 = (v2, s2)) (h3 : uvS l s2 = (v3, s3)) (h4 : uvS l s3 = (v4, s4)) (h5 : txS 64 l s4 = (t, s5))
    (e1 : bnd 1125899906842624 v1 = y1) (e2 : bnd 1125899906842624 v2 = y2) (e3 : bnd 1125899906842624 v3 = y3) (e4 : bnd 1125899906842624 v4 = y4) :
    CanO l seg size (m + 1) (nn - 1) s5 (if 1125899906842624 < off + y1 then 1125899906842624 else off + y1) (if 1125899906842624 < en + y3 + y4 / 2 then 1125899906842624 else en + y3 + y4 / 2) (ents ++ [⟨⟨t.toArray⟩, off + y1, y2, y4 % 2 == 1, en + y3, y4 / 2⟩]) := by
  intro sg sz H hr hl
  obtain ⟨c1, c2, c3, c4⟩ := h sg sz H hr hl
  have hk : m < H.length := by omega
  obtain ⟨r1, r2, r3, r4, r5, r6, r7⟩ := CanAt.next hr c3 hk h1 h2 h3 h4 h5
  have he := hr.2.2.2.2.1 m hk
  obtain ⟨f1, f2, f3, _⟩ := hint_ends hr m (by omega)
  have hsz := hr.2.2.2.1
  have ho := c3.off_
  have hen := c3.en_
  have hents := c3.ents_
  obtain ⟨a1, a2, a3, a4, a5, a6, a7, a8, a9, a10⟩ := he
  generalize hq : nth H m = q at r1 r2 r3 r4 r5 a1 a2 a3 a4 a5 a6 a7 a8 a9 a10
  have hlo : longOf q = 2 * q.len + (if q.dead then 1 else 0) := rfl
  have hl4 : 0 ≤ longOf q ∧ longOf q < 4000 := by rw [hlo]; split <;> omega
  rw [bnd_small (by omega)] at e1 e2 e3 e4
  have x1 : off + y1 = q.off := by omega
  have x2 : y2 = q.time := by omega
  have x3 : en + y3 = q.pos := by omega
  have x4 : y4 = longOf q := by omega
  have x5 : y4 / 2 = q.len := by rw [x4, hlo]; split <;> omega
  have x6 : (y4 % 2 == 1) = q.dead := by
    rw [x4, hlo]
    cases q.dead with
    | true => simp
    | false => simp
  have x7 : (⟨t.toArray⟩ : ByteArray) = q.key := by rw [r5]
  rw [x1, x2, x3, x5, x6, x7]
  refine ⟨c1, c2, ⟨r6, r7, ?_, ?_, ?_, by omega⟩, by omega⟩
  · show _ = (nth H m).off
    rw [hq, cap_id (by omega)]
  · show _ = (nth H m).pos + (nth H m).len
    rw [hq, cap_id (by omega)]
  · rw [take_snoc H m hk, hents, ← nth_eq hk, hq]

def FinR (l : List UInt8) (s : RSt) : Prop := s.fl = true → s.at_ = l.length
theorem FinR.uv {l : List UInt8} {s : RSt} (h : FinR l s) : FinR l (uvS l s).2 := by
  unfold uvS
  split
  · exact h
  · split
    · intro e; cases e
    · intro _; rfl
theorem FinR.tx {l : List UInt8} {s : RSt} (m : Nat) (h : FinR l s) : FinR l (txS m l s).2 := by
  unfold txS
  split
  · exact h
  · split
    · intro _; rfl
    · split
      · intro e; cases e
      · intro _; rfl
theorem CanO.done {l bs : List UInt8} {seg size off en : Int} {m nn : Nat} {s : RSt} {ents : List HE} (h : CanO l seg size m nn s off en ents) (hl : bs.drop 9 = l) (hx : nn = 0 ∨ l.length ≤ s.at_) :
    ∀ sg sz K, HintR sg sz K → encH sg sz K = bs → sg = seg ∧ sz = size ∧ K = ents := by
  intro sg sz K hr he
  obtain ⟨c1, c2, c3, c4⟩ := h sg sz K hr (by rw [← hl]; exact encH_drop hr he)
  refine ⟨c1, c2, ?_⟩
  have hm : m = K.length := by
    rcases hx with hx | hx
    · omega
    · rcases Nat.lt_or_ge m K.length with h1 | h1
      · have := c3.rest
        rw [List.drop_of_length_le hx] at this
        exact absurd this.symm (entsTail_pos K h1)
      · have := c3.le; omega
  rw [c3.ents_, hm, List.take_length]
theorem heap_set3 (W : World) (b k : Nat) (u1 u2 u3 : Value) (h : k ≠ b) : (((W.setCell ⟨b, 0, none⟩ u1).setCell ⟨b, 1, none⟩ u2).setCell ⟨b, 2, none⟩ u3).heap[k]? = W.heap[k]? := by
  rw [Below.heap_setCell _ _ _ _ (by show k ≠ b; exact h), Below.heap_setCell _ _ _ _ (by show k ≠ b; exact h), Below.heap_setCell _ _ _ _ (by show k ≠ b; exact h)]
theorem append_row {W' : World} {lo g m cap : Nat} {ents : List HE} {e : HE} (h : W'.ownsRow lo 33 6 (.slice (some ⟨g, 0, none⟩) (m + 1) cap) (m + 1) (ents.flatMap six ++ six e)) : W'.ownsRow lo 33 6 (.slice (some ⟨g, 0, none⟩) (m + 1) cap) (m + 1) ((ents ++ [e]).flatMap six) := by
  rw [List.flatMap_append]
  simpa using h
theorem DL.grow {w W w8 : World} {p hb m ce g cap : Nat} {l : List UInt8} {s : RSt} {seg size : Int} {be : Option Addr} {ents : List HE} {e : HE} {o : Obj} (d : DL w p hb l s seg size be m ce ents W) (hg : (W.alloc o).grownBy w8 (Value.slice be m ce).ownBlock)
    (hr : w8.ownsRow (hb + 1) 33 6 (.slice (some ⟨g, 0, none⟩) (m + 1) cap) (m + 1) (ents.flatMap six ++ six e)) :
    DL w p hb l s seg size (some ⟨g, 0, none⟩) (m + 1) cap (ents ++ [e]) (w8.setCell ⟨hb, 2, none⟩ (.slice (some ⟨g, 0, none⟩) (m + 1) cap)) := by
  obtain ⟨o1, o2⟩ := d.ord
  have d1 := d.next ((Below.refl _ _).alloc (Nat.le_refl _) o)
  have hlt : ∀ k, (Value.slice be m ce).ownBlock = some k → hb + 1 ≤ k := fun k hk => (d.row.lt k hk).1
  have hgl := hr.lt g rfl
  have r1 : ORd w8 p l s := d1.rd.chg (Chg.of_grown hg) fun k hk => by have := hlt k hk.symm; omega
  refine ⟨r1.chg ((Chg.refl (fun k => k = hb) w8).set1 rfl _ _) fun k hk => by omega, ?_, ?_, ?_, ?_, by simp [d.len], d.ord⟩
  · exact (d1.below.grown hg d1.below.size fun k hk => by have := hlt k hk; have := d.box.lt; have := d.res.lt; omega).setCell (by show w.heap.size ≤ hb; omega) _
  · exact (d1.res.grown hg fun e => by have := hlt _ e.symm; omega).far (by show w.heap.size ≠ hb; omega) _
  · have := (d1.box.grown hg fun e => by have := hlt _ e.symm; omega).set_ 2 (.slice (some ⟨g, 0, none⟩) (m + 1) cap)
    simpa using this
  · have hrow := append_row hr
    exact ownsRow_block hrow fun k hk => Below.heap_setCell _ _ _ _ (by show k ≠ hb; have := (hr.lt k hk).1; omega)

set_option maxRecDepth 100000 in
set_option maxHeartbeats 8000000 in
theorem octDecodeX (A : Option Addr) (n c : Nat) (bs : List UInt8) (w : World) (hA : Rd w w.heap.size A (bv bs)) (hn : bs.length = n) (hnc : n ≤ c) (hmx : n ≤ 10000000) :
    Calls Try.prog 12 #[.slice A n c] w fun e w' => DAns bs w w' e ∧ Below w.heap.size w w' := by
  have hb0 : Below w.heap.size w (w.alloc (.cells #[.int .i64 0, .int .i64 0, .slice none 0 0] 24)) := (Below.refl _ _).alloc (Nat.le_refl _) _
  by_cases h9 : n < 9
  · have HN : Hid (∀ seg size H, HintR seg size H → encH seg size H ≠ bs) := fun seg size H hr e => by
      have h1 := congrArg List.length e
      rw [show encH seg size H = wrapB 177 (bodyH seg size H) from if_pos hr, wrapB_len] at h1
      omega
    have HB := Lib.hid hb0
    clear hb0 hA hn
    go_enter Try.func12, Try.ntmps12
    go_wp2
    refine bodyPost_ret (v := .tuple #[.agg #[.int .i64 0, .int .i64 0, .slice none 0 0], .int .i64 60]) ?_ rfl ?_
    · simp [results, Try.results12, go_sem]
    · refine ⟨.inr ⟨HN.out, rfl⟩, ?_⟩
      repeat (first | with_reducible exact HB.out | refine Below.setCell ?_ (by simp) _)
  obtain ⟨i1, hi1, hz1, hs1, hy1⟩ := info_parts info_he
  have hsl : ∀ W, (Instr.slice 26 (.slice A n c) (some (.int .i64 9)) none none).run Try.prog W = .ok (.slice (tailA A c 9) (n - 9) (c - 9)) W := fun _ => run_tail _ 26 Try.underlying26 sizeU8 A n c 9 (by omega)
  have hlen : (bs.drop 9).length = n - 9 := by simp [hn]
  have HAt := Lib.hid ((hA.tail_ (cap := c) 9 (by omega)).below hb0)
  generalize hl : bs.drop 9 = l at hlen HAt
  have Hl := Lib.hid hl
  have Hlen := Lib.hid hlen
  have hlx : l.length ≤ 10000000 := by omega
  have Hlx : Hid (l.length ≤ 140737488355328) := by show _ ≤ _; omega
  have HA := Lib.hid hA
  have Hn := Lib.hid hn
  have HB := Lib.hid hb0
  have HR0 := Lib.hid (Box.new w 24 #[.int .i64 0, .int .i64 0, .slice none 0 0])
  clear hA hn hb0 hl hlen
  go_enter Try.func12, Try.ntmps12
  go_wp2_with (first
    | (go_at_call 34; refine (octNewR (tailA A c 9) (n - 9) (c - 9) l _ (HAt.out.mono (by simp)) Hlen.out (by omega)).mono ?_; rintro e w1 ⟨p, rfl, hR, hp, hb1⟩; have hpl := hR.lt; rw [World.size_alloc] at hp; have K0 := Lib.hid (And.intro hR (And.intro (HB.out.trans (hb1.mono (by simp))) (HR0.out.below hb1 (by simp)))); have hzr := K0.out.2.2.cell; clear hR hb1)
    | (go_at_call 36; refine (octUv p l _ _ K0.out.1 Hlx.out).mono ?_; rintro e wa ⟨he, ha⟩; have hle := uvS_le K0.out.1.le; generalize hv : uvS l ⟨0, false⟩ = r at he ha hle; obtain ⟨va, sa⟩ := r; simp only at he ha hle; subst he; have hva := hle.2.2; have Va := Lib.hid hv; have hpla := ha.1.lt; have Ka := Lib.hid (And.intro ha.1 (And.intro (K0.out.2.1.trans (ha.2.below K0.out.2.1.size (fun k hk => by omega))) (K0.out.2.2.chg ha.2 (by omega)))); have hzra := Ka.out.2.2.cell; clear hv ha hle K0 hzr)
    | (go_at_call 35; refine (octBounded va _ hva).mono ?_; rintro e wb ⟨rfl, rfl⟩; have hy : 0 ≤ bnd 1125899906842624 va ∧ bnd 1125899906842624 va ≤ (1125899906842624 : Int) := bnd_le 1125899906842624 va; generalize hyy : bnd 1125899906842624 va = ya at hy; obtain ⟨yaa, yba⟩ := hy; have Ya := Lib.hid hyy; clear hyy hva)
    | (go_at_call 36; refine (octUv p l _ _ Ka.out.1 Hlx.out).mono ?_; rintro e wb ⟨he, ha⟩; have hle := uvS_le Ka.out.1.le; generalize hv : uvS l sa = r at he ha hle; obtain ⟨vb, sb⟩ := r; simp only at he ha hle; subst he; have hvb := hle.2.2; have Vb := Lib.hid hv; have hplb := ha.1.lt; have Kb := Lib.hid (And.intro ha.1 (And.intro (Ka.out.2.1.trans (ha.2.below Ka.out.2.1.size (fun k hk => by omega))) (Ka.out.2.2.chg ha.2 (by omega)))); have hzrb := Kb.out.2.2.cell; clear hv ha hle Ka hzra)
    | (go_at_call 35; refine (octBounded vb _ hvb).mono ?_; rintro e wb ⟨rfl, rfl⟩; have hy : 0 ≤ bnd 1125899906842624 vb ∧ bnd 1125899906842624 vb ≤ (1125899906842624 : Int) := bnd_le 1125899906842624 vb; generalize hyy : bnd 1125899906842624 vb = yb at hy; obtain ⟨yab, ybb⟩ := hy; have Yb := Lib.hid hyy; clear hyy hvb))
  have DZ := Lib.hid (show DL w p wb.heap.size l sb ya yb none 0 0 [] (wb.alloc (.cells #[.int .i64 ya, .int .i64 yb, .slice none 0 0] 24)) from
    ⟨Kb.out.1.below ((Below.refl _ _).alloc (Nat.le_refl _) _), Kb.out.2.1.alloc Kb.out.2.1.size _, Kb.out.2.2.alloc _, Box.new _ _ _, nil_own _ _ _ _, rfl, by omega, hplb⟩)
  go_wp2_with (first
    | (go_at_call 36; refine (octUv p l _ _ DZ.out.rd Hlx.out).mono ?_; rintro e wc ⟨he, ha⟩; have hle := uvS_le DZ.out.rd.le; generalize hv : uvS l sb = r at he ha hle; obtain ⟨vc, sc⟩ := r; simp only at he ha hle; subst he; have hvc := hle.2.2; have Vc := Lib.hid hv; have Lc := Lib.hid hle; have Dc := DZ.out.step ha; have hzrc := Dc.res.cell; have hzbc := Dc.box.cell; have Dc := Lib.hid Dc; clear hv ha hle DZ hzrb))
  have HC := Lib.hid (CanO.start Va.out Vb.out Vc.out)
  rw [Ya.out, Yb.out] at HC
  go_loopw [6, 7, 8] (fun o e nv wr => ∃ (off en : Int) (nn m ce : Nat) (be : Option Addr) (s : RSt) (ents : List HE), o = .int .i64 off ∧ e = .int .i64 en ∧ nv = .int .u64 nn ∧ nn < 18446744073709551616 ∧ -1 ≤ off ∧ off ≤ 1125899906842624 ∧ 0 ≤ en ∧ en ≤ 1125899906842624 ∧ m ≤ s.at_ ∧ FinR l s ∧
      DL w p wb.heap.size l s ya yb be m ce ents wr ∧ CanO l ya yb m nn s off en ents)
    (fun _ _ nv _ => (intOf nv).toNat)
  case atStart =>
    have f1 : FinR l sa := by have := FinR.uv (l := l) (s := ⟨0, false⟩) (fun e => by cases e); rw [Va.out] at this; exact this
    have f2 : FinR l sb := by have := f1.uv; rw [Vb.out] at this; exact this
    have f3 : FinR l sc := by have := f2.uv; rw [Vc.out] at this; exact this
    exact ⟨-1, 21, vc, 0, 0, none, sc, [], rfl, rfl, rfl, hvc, by omega, by omega, by omega, by omega, Nat.zero_le _, f3, Dc.out, HC.out⟩
  case round =>
    clear Dc HC hzrc hzbc hvc Vc Lc
    obtain ⟨off, en, nn, m, ce, be, s, ents, rfl, rfl, rfl, hnn, ho1, ho2, he1, he2, hms, hfin, hD, hC⟩ := hrel
    have HF := Lib.hid hfin
    clear hfin
    have hsl_ := hD.rd.le
    have hpw := hD.rd.lt
    have hz0 := hD.res.cell
    have hb0 := hD.box.cell
    have hf0 := hD.res.free
    have hlm := Lib.hid hD.len
    have hbl := hD.box.lt
    have hwl := hD.res.lt
    have DS := Lib.hid hD
    have HC := Lib.hid hC
    have hordA := hD.ord.1
    have hordB := hD.ord.2
    clear hD hC
    by_cases hgo : 0 < nn ∧ s.at_ < l.length
    · obtain ⟨hn0, hat⟩ := hgo
      have hgr := uvS_grow hat
      clear hz0 hb0 hf0
      have hn0' : (0 : Int) < nn := by omega
      have hre : (0 : Int) < (l.length : Int) - s.at_ := by omega
      go_wp2_with (first
        | (go_at_call 37; refine (octRestD p l s _ DS.out.rd Hlx.out).mono ?_; rintro e wx ⟨rfl, nd, rfl⟩; have D0 := Lib.hid (DS.out.drewN nd); clear DS)
        | (go_at_call 36; refine (octUv p l _ _ D0.out.rd Hlx.out).mono ?_; rintro e w1 ⟨he, ha⟩; have hle := uvS_le D0.out.rd.le; generalize hv : uvS l s = r at he ha hle; obtain ⟨v1, s1⟩ := r; simp only at he ha hle; subst he; have hv1 := hle.2.2; have V1 := Lib.hid hv; have L1 := Lib.hid hle; have D1 := D0.out.step ha; have D1 := Lib.hid D1; clear hv ha hle D0)
        | (go_at_call 35; refine (octBounded v1 _ hv1).mono ?_; rintro e wb ⟨rfl, rfl⟩; have hy : 0 ≤ bnd 1125899906842624 v1 ∧ bnd 1125899906842624 v1 ≤ (1125899906842624 : Int) := bnd_le 1125899906842624 v1; generalize hyy : bnd 1125899906842624 v1 = y1 at hy; obtain ⟨ya1, yb1⟩ := hy; have Y1 := Lib.hid hyy; clear hyy hv1)
        | (go_at_call 36; refine (octUv p l _ _ D1.out.rd Hlx.out).mono ?_; rintro e w2 ⟨he, ha⟩; have hle := uvS_le D1.out.rd.le; generalize hv : uvS l s1 = r at he ha hle; obtain ⟨v2, s2⟩ := r; simp only at he ha hle; subst he; have hv2 := hle.2.2; have V2 := Lib.hid hv; have L2 := Lib.hid hle; have D2 := D1.out.step ha; have D2 := Lib.hid D2; clear hv ha hle D1)
        | (go_at_call 35; refine (octBounded v2 _ hv2).mono ?_; rintro e wb ⟨rfl, rfl⟩; have hy : 0 ≤ bnd 1125899906842624 v2 ∧ bnd 1125899906842624 v2 ≤ (1125899906842624 : Int) := bnd_le 1125899906842624 v2; generalize hyy : bnd 1125899906842624 v2 = y2 at hy; obtain ⟨ya2, yb2⟩ := hy; have Y2 := Lib.hid hyy; clear hyy hv2)
        | (go_at_call 36; refine (octUv p l _ _ D2.out.rd Hlx.out).mono ?_; rintro e w3 ⟨he, ha⟩; have hle := uvS_le D2.out.rd.le; generalize hv : uvS l s2 = r at he ha hle; obtain ⟨v3, s3⟩ := r; simp only at he ha hle; subst he; have hv3 := hle.2.2; have V3 := Lib.hid hv; have L3 := Lib.hid hle; have D3 := D2.out.step ha; have hzl := D3.res.lt; have hbl3 := D3.box.lt; have D3 := Lib.hid D3; clear hv ha hle D2)
        | (go_at_call 35; refine (octBounded v3 _ hv3).mono ?_; rintro e wb ⟨rfl, rfl⟩; have hy : 0 ≤ bnd 1125899906842624 v3 ∧ bnd 1125899906842624 v3 ≤ (1125899906842624 : Int) := bnd_le 1125899906842624 v3; generalize hyy : bnd 1125899906842624 v3 = y3 at hy; obtain ⟨ya3, yb3⟩ := hy; have Y3 := Lib.hid hyy; clear hyy hv3)
        | (go_at_call 36
           have D3x := D3.out.next ((Below.refl _ _).alloc (Nat.le_refl _) (.cells #[.string ByteArray.empty, .int .i64 (off + y1), .int .i64 y2, .bool false, .int .i64 (en + y3), .int .i64 0] 33))
           refine (octUv p l s3 _ D3x.rd Hlx.out).mono ?_
           rintro e w4 ⟨he, ha⟩
           have hle := uvS_le D3x.rd.le
           generalize hv : uvS l s3 = r at he ha hle
           obtain ⟨v4, s4⟩ := r
           simp only at he ha hle
           subst he
           have hv4 := hle.2.2
           have V4 := Lib.hid hv
           have L4 := Lib.hid hle
           have D4 := D3x.step ha
           have hrx : Hid (∀ k, (Value.slice be m ce).ownBlock = some k → k < w3.heap.size) := fun k hk => (D3.out.row.lt k hk).2
           have X4 := (Box.new w3 33 #[.string ByteArray.empty, .int .i64 (off + y1), .int .i64 y2, .bool false, .int .i64 (en + y3), .int .i64 0]).chg ha.2 (by omega)
           have hx4 := X4.cell
           have fx4 := X4.free
           have lx4 := X4.lt
           have X4 := Lib.hid X4
           have D4 := Lib.hid D4
           clear hv ha hle D3x D3)
        | (go_at_call 35; refine (octBounded v4 _ hv4).mono ?_; rintro e wb ⟨rfl, rfl⟩; have hy : 0 ≤ bnd 1125899906842624 v4 ∧ bnd 1125899906842624 v4 ≤ (1125899906842624 : Int) := bnd_le 1125899906842624 v4; generalize hyy : bnd 1125899906842624 v4 = y4 at hy; obtain ⟨ya4, yb4⟩ := hy; have Y4 := Lib.hid hyy; clear hyy hv4)
        | (go_at_call 38
           have hc5 : Chg (fun k => k = w3.heap.size) w4 ((w4.setCell ⟨w3.heap.size, 5, none⟩ (.int .i64 (y4 / 2))).setCell ⟨w3.heap.size, 3, none⟩ (.bool (y4 % 2 == 1))) := ((Chg.refl (fun k => k = w3.heap.size) w4).set1 rfl _ _).set1 rfl _ _
           have D5 := D4.out.chg hc5 (fun k hk => by subst hk; exact ⟨hbl3, fun e => by have := hrx.out _ e; omega⟩)
           have X5 := (X4.out.set_ 5 (.int .i64 (y4 / 2))).set_ 3 (.bool (y4 % 2 == 1))
           simp only [List.setIfInBounds_toArray, List.set_cons_succ, List.set_cons_zero] at X5
           refine (octTx p 64 l s4 _ D5.rd Hlx.out (by omega)).mono ?_
           rintro e w6 ⟨he, ha⟩
           have hle := txS_le (most := 64) D5.rd.le
           generalize hv : txS 64 l s4 = r at he ha hle
           obtain ⟨tx, s5⟩ := r
           simp only at he ha hle
           subst he
           unfold strV
           have V5 := Lib.hid hv
           have L5 := Lib.hid hle
           have D6 := D5.step ha
           have X6 := X5.chg ha.2 (by omega)
           have hx6 := X6.cell
           have fx6 := X6.free
           have hb6 := D6.box.cell
           have lx6 := X6.lt
           have lb6 := D6.box.lt
           have X6 := Lib.hid X6
           have D6 := Lib.hid D6
           clear hv ha hle X4 D4 D5 X5 hc5 hx4 fx4)
        | (at_builtin
           have hc7 : Chg (fun k => k = w3.heap.size) w6 (w6.setCell ⟨w3.heap.size, 0, none⟩ (.string ⟨tx.toArray⟩)) := (Chg.refl (fun k => k = w3.heap.size) w6).set1 rfl _ _
           have D7 := D6.out.chg hc7 (fun k hk => by subst hk; exact ⟨hbl3, fun e => by have := hrx.out _ e; omega⟩)
           have X7 := X6.out.set_ 0 (.string ⟨tx.toArray⟩)
           simp only [List.setIfInBounds_toArray, List.set_cons_zero] at X7
           have hrn : Rd ((w6.setCell ⟨w3.heap.size, 0, none⟩ (.string ⟨tx.toArray⟩)).alloc (.cells (six ⟨⟨tx.toArray⟩, off + y1, y2, y4 % 2 == 1, en + y3, y4 / 2⟩).toArray 33)) (w6.heap.size + 1) (some ⟨w6.heap.size, 0, none⟩) (six ⟨⟨tx.toArray⟩, off + y1, y2, y4 % 2 == 1, en + y3, y4 / 2⟩) := by simpa using rd_new (w6.setCell ⟨w3.heap.size, 0, none⟩ (.string ⟨tx.toArray⟩)) (six ⟨⟨tx.toArray⟩, off + y1, y2, y4 % 2 == 1, en + y3, y4 / 2⟩).toArray 33
           refine wpList_app1 _ rfl (.tmp 66) (.tmp 68) _ rfl (wb.heap.size + 1) 33 i1 _ 6 56 Try.underlying22 hi1 hz1 hs1 hy1 rfl (by omega) (.slice be m ce) m (ents.flatMap six) rfl (D7.row.alloc _) _ _ 1 1 (six ⟨⟨tx.toArray⟩, off + y1, y2, y4 % 2 == 1, en + y3, y4 / 2⟩) rfl rfl hrn (by simp [six, Value.oneCell']) (by unfold maxLen; omega) (by omega) (by have := D7.box.lt; simp; omega) (by omega) ?_
           intro g cap w8 hO hca hcb hrow hg _
           unfold maxLen at hcb
           have D9 := D7.grow hg hrow
           have X8 := (X7.alloc (.cells (six ⟨⟨tx.toArray⟩, off + y1, y2, y4 % 2 == 1, en + y3, y4 / 2⟩).toArray 33)).grown hg (fun e => by have := hrx.out _ e.symm; omega)
           have hb8 := (D7.box.alloc (.cells (six ⟨⟨tx.toArray⟩, off + y1, y2, y4 % 2 == 1, en + y3, y4 / 2⟩).toArray 33)).grown hg (fun e => by have := (D7.row.lt _ e.symm).1; omega)
           have hx8 := X8.cell
           have lx8 := X8.lt
           have hbc8 := hb8.cell
           have hbf8 := hb8.free
           have lb8 := hb8.lt
           have D9 := Lib.hid D9
           clear hrn D7 X7 hO hrow hg hc7 X8 hb8 X6 D6 hx6 fx6 hb6))
      go_quiet (fail)
      go_wp2
      go_roundw
      case rel =>
        have c1 := CanO.next HC.out hn0 V1.out V2.out V3.out V4.out V5.out Y1.out Y2.out Y3.out Y4.out
        have f1 : FinR l s1 := by have := HF.out.uv; rw [V1.out] at this; exact this
        have f2 : FinR l s2 := by have := f1.uv; rw [V2.out] at this; exact this
        have f3 : FinR l s3 := by have := f2.uv; rw [V3.out] at this; exact this
        have f4 : FinR l s4 := by have := f3.uv; rw [V4.out] at this; exact this
        have f5 : FinR l s5 := by have := f4.tx 64; rw [V5.out] at this; exact this
        have hgr2 : s.at_ < s1.at_ := by
          rcases hgr with h | h
          · rw [V1.out] at h; exact h
          · have := HF.out h; omega
        have h2 := L2.out; have h3 := L3.out; have h4 := L4.out; have h5 := L5.out
        exact ⟨_, _, nn - 1, m + 1, cap, some ⟨g, 0, none⟩, s5, _, rfl, rfl, by congr 1; omega, by omega, by omega, by omega, by omega, by omega, by omega, f5, D9.out.drewN _, c1⟩
      case measure => simp [intOf]; omega
    · have Hdone := Lib.hid (HC.out.done Hl.out (show nn = 0 ∨ l.length ≤ s.at_ by omega))
      have hle := encH_len ya yb ents
      generalize hse : encH ya yb ents = cs at hle
      generalize hsn : cs.length = nc at hle
      generalize hsr : errH ya yb ents = er
      have Hcs := Lib.hid (And.intro hse (And.intro hsn hsr))
      clear hse hsn hsr
      by_cases hn0 : 0 < nn
      · have hn0' : (0 : Int) < nn := by omega
        have hre : ¬ (0 : Int) < (l.length : Int) - s.at_ := by omega
        by_cases hr : HintR ya yb ents
        · have HR := Lib.hid hr
          obtain rfl : er = 0 := by rw [← Hcs.out.2.2]; exact if_pos hr
          by_cases heq : bs = cs
          · have HD : Hid (decide (bs = cs) = true) := decide_eq_true heq
            have HEq := Lib.hid heq
            clear heq hr
            go_wp2_with (first
              | (go_at_call 37; refine (octRestD p l s _ DS.out.rd Hlx.out).mono ?_; rintro e wx ⟨rfl, nd, rfl⟩; have DE := Lib.hid (DS.out.drewN nd); clear DS)
              | (go_at_call 8
                 refine (octEncG ya yb be ce m nc _ cs ents _ hlm.out Hcs.out.2.2 Hcs.out.1 Hcs.out.2.1 (ownsRow_rd DE.out.row) (by omega)).mono ?_
                 rintro e w10 ⟨bx, cx, rfl, hbr, hb10⟩
                 have D10 := Lib.hid (DE.out.next hb10)
                 have BX := Lib.hid hbr
                 have hzt := D10.out.res.cell
                 have hzf := D10.out.res.free
                 have hzl := D10.out.res.lt
                 have hbt := D10.out.box.cell
                 have hbtl := D10.out.box.lt
                 clear hb10 hbr)
              | (go_at_call 39
                 refine (octEqual A bx n nc c cx bs cs _ Hn.out Hcs.out.2.1 ((HA.out.below D10.out.below).mono D10.out.below.size) BX.out.rd (by omega) (by omega)).mono ?_
                 rintro e w11 ⟨he, hb11⟩
                 rw [HD.out] at he
                 subst he
                 have D11 := Lib.hid (D10.out.next hb11)
                 have hut := D11.out.res.cell
                 have huf := D11.out.res.free
                 have hul := D11.out.res.lt
                 have hub := D11.out.box.cell
                 have hubl := D11.out.box.lt
                 clear hb11))
            refine bodyPost_ret (v := .tuple #[.agg #[.int .i64 ya, .int .i64 yb, .slice be m ce], .int .i64 0]) ?_ rfl ?_
            · simp [results, Try.results12, go_sem, hut]
            have hm := hlm.out
            subst hm
            refine ⟨.inl ⟨ya, yb, ents, be, ce, HR.out, Hcs.out.1.trans HEq.out.symm, Hdone.out, rfl, ?_⟩, ?_⟩
            · refine ownsRow_le (ownsRow_block D11.out.row fun k hk => heap_set3 _ _ _ _ _ _ ?_) (by omega)
              have := (D11.out.row.lt k hk).1
              omega
            · exact ((D11.out.below.setCell (Nat.le_refl _) _).setCell (Nat.le_refl _) _).setCell (Nat.le_refl _) _
          · have HD : Hid (decide (bs = cs) = false) := decide_eq_false heq
            have HNo : Hid (∀ sg sz K, HintR sg sz K → encH sg sz K ≠ bs) := fun sg sz K h1 h2 => by obtain ⟨x1, x2, x3⟩ := Hdone.out sg sz K h1 h2; subst x1 x2 x3; exact heq (h2.symm.trans Hcs.out.1)
            clear heq hr
            go_wp2_with (first
              | (go_at_call 37; refine (octRestD p l s _ DS.out.rd Hlx.out).mono ?_; rintro e wx ⟨rfl, nd, rfl⟩; have DE := Lib.hid (DS.out.drewN nd); clear DS)
              | (go_at_call 8
                 refine (octEncG ya yb be ce m nc _ cs ents _ hlm.out Hcs.out.2.2 Hcs.out.1 Hcs.out.2.1 (ownsRow_rd DE.out.row) (by omega)).mono ?_
                 rintro e w10 ⟨bx, cx, rfl, hbr, hb10⟩
                 have D10 := Lib.hid (DE.out.next hb10)
                 have BX := Lib.hid hbr
                 have hzt := D10.out.res.cell
                 have hzf := D10.out.res.free
                 have hzl := D10.out.res.lt
                 have hbt := D10.out.box.cell
                 have hbtl := D10.out.box.lt
                 clear hb10 hbr)
              | (go_at_call 39
                 refine (octEqual A bx n nc c cx bs cs _ Hn.out Hcs.out.2.1 ((HA.out.below D10.out.below).mono D10.out.below.size) BX.out.rd (by omega) (by omega)).mono ?_
                 rintro e w11 ⟨he, hb11⟩
                 rw [HD.out] at he
                 subst he
                 have D11 := Lib.hid (D10.out.next hb11)
                 have hut := D11.out.res.cell
                 have huf := D11.out.res.free
                 have hul := D11.out.res.lt
                 have hub := D11.out.box.cell
                 have hubl := D11.out.box.lt
                 clear hb11))
            refine bodyPost_ret (v := .tuple #[.agg #[.int .i64 0, .int .i64 0, .slice none 0 0], .int .i64 60]) ?_ rfl ?_
            · simp [results, Try.results12, go_sem, hut]
            refine ⟨.inr ⟨HNo.out, rfl⟩, ?_⟩
            exact ((D11.out.below.setCell (Nat.le_refl _) _).setCell (Nat.le_refl _) _).setCell (Nat.le_refl _) _
        · obtain rfl : er = 60 := by rw [← Hcs.out.2.2]; exact if_neg hr
          have HNo : Hid (∀ sg sz K, HintR sg sz K → encH sg sz K ≠ bs) := fun sg sz K h1 h2 => by obtain ⟨x1, x2, x3⟩ := Hdone.out sg sz K h1 h2; subst x1 x2 x3; exact hr h1
          clear hr
          go_wp2_with (first
            | (go_at_call 37; refine (octRestD p l s _ DS.out.rd Hlx.out).mono ?_; rintro e wx ⟨rfl, nd, rfl⟩; have DE := Lib.hid (DS.out.drewN nd); clear DS)
            | (go_at_call 8
               refine (octEncG ya yb be ce m nc _ cs ents _ hlm.out Hcs.out.2.2 Hcs.out.1 Hcs.out.2.1 (ownsRow_rd DE.out.row) (by omega)).mono ?_
               rintro e w10 ⟨bx, cx, rfl, hbr, hb10⟩
               have D10 := Lib.hid (DE.out.next hb10)
               have BX := Lib.hid hbr
               have hzt := D10.out.res.cell
               have hzf := D10.out.res.free
               have hzl := D10.out.res.lt
               have hbt := D10.out.box.cell
               have hbtl := D10.out.box.lt
               clear hb10 hbr))
          refine bodyPost_ret (v := .tuple #[.agg #[.int .i64 0, .int .i64 0, .slice none 0 0], .int .i64 60]) ?_ rfl ?_
          · simp [results, Try.results12, go_sem, hzt]
          refine ⟨.inr ⟨HNo.out, rfl⟩, ?_⟩
          exact ((D10.out.below.setCell (Nat.le_refl _) _).setCell (Nat.le_refl _) _).setCell (Nat.le_refl _) _
      · have hn0' : ¬ (0 : Int) < nn := by omega
        have DE := DS
        by_cases hr : HintR ya yb ents
        · have HR := Lib.hid hr
          obtain rfl : er = 0 := by rw [← Hcs.out.2.2]; exact if_pos hr
          by_cases heq : bs = cs
          · have HD : Hid (decide (bs = cs) = true) := decide_eq_true heq
            have HEq := Lib.hid heq
            clear heq hr
            go_wp2_with (first
              | (go_at_call 8
                 refine (octEncG ya yb be ce m nc _ cs ents _ hlm.out Hcs.out.2.2 Hcs.out.1 Hcs.out.2.1 (ownsRow_rd DE.out.row) (by omega)).mono ?_
                 rintro e w10 ⟨bx, cx, rfl, hbr, hb10⟩
                 have D10 := Lib.hid (DE.out.next hb10)
                 have BX := Lib.hid hbr
                 have hzt := D10.out.res.cell
                 have hzf := D10.out.res.free
                 have hzl := D10.out.res.lt
                 have hbt := D10.out.box.cell
                 have hbtl := D10.out.box.lt
                 clear hb10 hbr)
              | (go_at_call 39
                 refine (octEqual A bx n nc c cx bs cs _ Hn.out Hcs.out.2.1 ((HA.out.below D10.out.below).mono D10.out.below.size) BX.out.rd (by omega) (by omega)).mono ?_
                 rintro e w11 ⟨he, hb11⟩
                 rw [HD.out] at he
                 subst he
                 have D11 := Lib.hid (D10.out.next hb11)
                 have hut := D11.out.res.cell
                 have huf := D11.out.res.free
                 have hul := D11.out.res.lt
                 have hub := D11.out.box.cell
                 have hubl := D11.out.box.lt
                 clear hb11))
            refine bodyPost_ret (v := .tuple #[.agg #[.int .i64 ya, .int .i64 yb, .slice be m ce], .int .i64 0]) ?_ rfl ?_
            · simp [results, Try.results12, go_sem, hut]
            have hm := hlm.out
            subst hm
            refine ⟨.inl ⟨ya, yb, ents, be, ce, HR.out, Hcs.out.1.trans HEq.out.symm, Hdone.out, rfl, ?_⟩, ?_⟩
            · refine ownsRow_le (ownsRow_block D11.out.row fun k hk => heap_set3 _ _ _ _ _ _ ?_) (by omega)
              have := (D11.out.row.lt k hk).1
              omega
            · exact ((D11.out.below.setCell (Nat.le_refl _) _).setCell (Nat.le_refl _) _).setCell (Nat.le_refl _) _
          · have HD : Hid (decide (bs = cs) = false) := decide_eq_false heq
            have HNo : Hid (∀ sg sz K, HintR sg sz K → encH sg sz K ≠ bs) := fun sg sz K h1 h2 => by obtain ⟨x1, x2, x3⟩ := Hdone.out sg sz K h1 h2; subst x1 x2 x3; exact heq (h2.symm.trans Hcs.out.1)
            clear heq hr
            go_wp2_with (first
              | (go_at_call 8
                 refine (octEncG ya yb be ce m nc _ cs ents _ hlm.out Hcs.out.2.2 Hcs.out.1 Hcs.out.2.1 (ownsRow_rd DE.out.row) (by omega)).mono ?_
                 rintro e w10 ⟨bx, cx, rfl, hbr, hb10⟩
                 have D10 := Lib.hid (DE.out.next hb10)
                 have BX := Lib.hid hbr
                 have hzt := D10.out.res.cell
                 have hzf := D10.out.res.free
                 have hzl := D10.out.res.lt
                 have hbt := D10.out.box.cell
                 have hbtl := D10.out.box.lt
                 clear hb10 hbr)
              | (go_at_call 39
                 refine (octEqual A bx n nc c cx bs cs _ Hn.out Hcs.out.2.1 ((HA.out.below D10.out.below).mono D10.out.below.size) BX.out.rd (by omega) (by omega)).mono ?_
                 rintro e w11 ⟨he, hb11⟩
                 rw [HD.out] at he
                 subst he
                 have D11 := Lib.hid (D10.out.next hb11)
                 have hut := D11.out.res.cell
                 have huf := D11.out.res.free
                 have hul := D11.out.res.lt
                 have hub := D11.out.box.cell
                 have hubl := D11.out.box.lt
                 clear hb11))
            refine bodyPost_ret (v := .tuple #[.agg #[.int .i64 0, .int .i64 0, .slice none 0 0], .int .i64 60]) ?_ rfl ?_
            · simp [results, Try.results12, go_sem, hut]
            refine ⟨.inr ⟨HNo.out, rfl⟩, ?_⟩
            exact ((D11.out.below.setCell (Nat.le_refl _) _).setCell (Nat.le_refl _) _).setCell (Nat.le_refl _) _
        · obtain rfl : er = 60 := by rw [← Hcs.out.2.2]; exact if_neg hr
          have HNo : Hid (∀ sg sz K, HintR sg sz K → encH sg sz K ≠ bs) := fun sg sz K h1 h2 => by obtain ⟨x1, x2, x3⟩ := Hdone.out sg sz K h1 h2; subst x1 x2 x3; exact hr h1
          clear hr
          go_wp2_with (first
            | (go_at_call 8
               refine (octEncG ya yb be ce m nc _ cs ents _ hlm.out Hcs.out.2.2 Hcs.out.1 Hcs.out.2.1 (ownsRow_rd DE.out.row) (by omega)).mono ?_
               rintro e w10 ⟨bx, cx, rfl, hbr, hb10⟩
               have D10 := Lib.hid (DE.out.next hb10)
               have BX := Lib.hid hbr
               have hzt := D10.out.res.cell
               have hzf := D10.out.res.free
               have hzl := D10.out.res.lt
               have hbt := D10.out.box.cell
               have hbtl := D10.out.box.lt
               clear hb10 hbr))
          refine bodyPost_ret (v := .tuple #[.agg #[.int .i64 0, .int .i64 0, .slice none 0 0], .int .i64 60]) ?_ rfl ?_
          · simp [results, Try.results12, go_sem, hzt]
          refine ⟨.inr ⟨HNo.out, rfl⟩, ?_⟩
          exact ((D10.out.below.setCell (Nat.le_refl _) _).setCell (Nat.le_refl _) _).setCell (Nat.le_refl _) _
end Go.Proofs.Ytifimeohdgnehaa
