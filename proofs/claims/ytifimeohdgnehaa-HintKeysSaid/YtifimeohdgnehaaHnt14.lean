import Derived.Test.YtifimeohdgnehaaHnt13
namespace Go.Proofs.Ytifimeohdgnehaa
open Go.RowKit Go.Maps

/-- Between the calls of the document's Decode: the reader, the answer's place, the hint and its entries. -/
structure DR (w : World) (p hb : Nat) (l : List UInt8) (s : RSt) (seg size : Int) (be : Option Addr) (m ce : Nat) (ents : List HE) (W : World) : Prop where
  rd : RRd W p l s
  below : Below w.heap.size w W
  res : Box W w.heap.size 24 #[.int .i64 0, .int .i64 0, .slice none 0 0]
  box : Box W hb 24 #[.int .i64 seg, .int .i64 size, .slice be m ce]
  row : W.ownsRow (hb + 1) 33 6 (.slice be m ce) m (ents.flatMap six)
  len : ents.length = m
  ord : w.heap.size < p ∧ p < hb
section
variable {w W W' : World} {p hb m ce : Nat} {l : List UInt8} {s s' : RSt} {seg size : Int} {be : Option Addr} {ents : List HE}
theorem DR.chg {S : Nat → Prop} (d : DR w p hb l s seg size be m ce ents W) (hc : Chg S W W') (hS : ∀ k, S k → hb < k ∧ (Value.slice be m ce).ownBlock ≠ some k) : DR w p hb l s seg size be m ce ents W' := by
  obtain ⟨o1, o2⟩ := d.ord
  refine ⟨d.rd.chg hc fun k hk => by have := hS k hk; omega, d.below.trans (hc.below d.below.size fun k hk => by have := hS k hk; omega), d.res.chg hc fun e => by have := hS _ e; omega, d.box.chg hc fun e => by have := hS _ e; omega,
    ownsRow_block d.row fun k hk => hc.block k (d.row.lt k hk).2 fun e => (hS k e).2 hk, d.len, d.ord⟩
theorem DR.next (d : DR w p hb l s seg size be m ce ents W) (hb' : Below W.heap.size W W') : DR w p hb l s seg size be m ce ents W' :=
  d.chg (Chg.of_below hb' fun _ => False) fun _ e => e.elim
theorem DR.drewN (d : DR w p hb l s seg size be m ce ents W) (n : Nat) : DR w p hb l s seg size be m ce ents (W.drewN n) :=
  d.next (below_drewN (Below.refl _ _) n)
theorem DR.step (d : DR w p hb l s seg size be m ce ents W) (h : SAft p l s' W W') : DR w p hb l s' seg size be m ce ents W' := by
  obtain ⟨o1, o2⟩ := d.ord
  obtain ⟨h1, hc⟩ := h
  refine ⟨h1, d.below.trans (hc.below d.below.size fun k hk => by omega), d.res.chg hc (by omega), d.box.chg hc (by omega),
    ownsRow_block d.row fun k hk => hc.block k (d.row.lt k hk).2 (by have := (d.row.lt k hk).1; omega), d.len, d.ord⟩
end
theorem DR.grow {w W w8 : World} {p hb m ce g cap : Nat} {l : List UInt8} {s : RSt} {seg size : Int} {be : Option Addr} {ents : List HE} {e : HE} {o : Obj} (d : DR w p hb l s seg size be m ce ents W) (hg : (W.alloc o).grownBy w8 (Value.slice be m ce).ownBlock)
    (hr : w8.ownsRow (hb + 1) 33 6 (.slice (some ⟨g, 0, none⟩) (m + 1) cap) (m + 1) (ents.flatMap six ++ six e)) :
    DR w p hb l s seg size (some ⟨g, 0, none⟩) (m + 1) cap (ents ++ [e]) (w8.setCell ⟨hb, 2, none⟩ (.slice (some ⟨g, 0, none⟩) (m + 1) cap)) := by
  obtain ⟨o1, o2⟩ := d.ord
  have d1 := d.next ((Below.refl _ _).alloc (Nat.le_refl _) o)
  have hlt : ∀ k, (Value.slice be m ce).ownBlock = some k → hb + 1 ≤ k := fun k hk => (d.row.lt k hk).1
  have hgl := hr.lt g rfl
  have r1 : RRd w8 p l s := d1.rd.chg (Chg.of_grown hg) fun k hk => by have := hlt k hk.symm; omega
  refine ⟨r1.chg ((Chg.refl (fun k => k = hb) w8).set1 rfl _ _) fun k hk => by omega, ?_, ?_, ?_, ?_, by simp [d.len], d.ord⟩
  · exact (d1.below.grown hg d1.below.size fun k hk => by have := hlt k hk; have := d.box.lt; have := d.res.lt; omega).setCell (by show w.heap.size ≤ hb; omega) _
  · exact (d1.res.grown hg fun e => by have := hlt _ e.symm; omega).far (by show w.heap.size ≠ hb; omega) _
  · have := (d1.box.grown hg fun e => by have := hlt _ e.symm; omega).set_ 2 (.slice (some ⟨g, 0, none⟩) (m + 1) cap)
    simpa using this
  · have hrow := append_row hr
    exact ownsRow_block hrow fun k hk => Below.heap_setCell _ _ _ _ (by show k ≠ hb; have := (hr.lt k hk).1; omega)


theorem refFewI (x : Int) (w : World) (h0 : 0 ≤ x) (hv : x < 18446744073709551616) :
    Calls Try.prog 42 #[.int .u64 x] w fun e w' => e = .returned (.int .i64 (bnd 1099511627776 x.toNat)) ∧ w = w' := by
  obtain ⟨n, rfl⟩ := Int.eq_ofNat_of_zero_le h0
  exact refFew n w (by omega)
/-- What the loop knows of a right hint's bytes. -/
def CanR (l : List UInt8) (seg size : Int) (m N : Nat) (s : RSt) (off en : Int) (ents : List HE) : Prop :=
  ∀ sg sz H, HintR sg sz H → l = bodyH sg sz H → sg = seg ∧ sz = size ∧ CanAt l H m s off en ents ∧ N = H.length
theorem CanR.start {l : List UInt8} {sa sb sc : RSt} {va vb vc : Nat} (h1 : uvS l ⟨0, false⟩ = (va, sa)) (h2 : uvS l sa = (vb, sb)) (h3 : uvS l sb = (vc, sc)) : CanR l (bnd 1099511627776 va) (bnd 1099511627776 vb) 0 vc sc (-1) 21 [] := by
  intro sg sz H hr hl
  have r0 : l.drop (RSt.mk 0 false).at_ = uvar sg.toNat ++ (uvar sz.toNat ++ (uvar H.length ++ entsTail H 0)) := by rw [← bodyH_split, ← hl]; rfl
  have hlen := hint_len hr
  obtain ⟨g1, g2, g3, g4, _⟩ := hr
  have c1 := uvS_canon rfl r0 (by omega)
  rw [h1] at c1
  have c2 := uvS_canon c1.2.1 c1.2.2 (by omega)
  simp only at c2
  rw [h2] at c2
  have c3 := uvS_canon c2.2.1 c2.2.2 (by omega)
  simp only at c3
  rw [h3] at c3
  obtain ⟨e1, _⟩ := c1
  obtain ⟨e2, _⟩ := c2
  obtain ⟨e3, e4, e5⟩ := c3
  simp only at e1 e2 e3
  subst e1 e2 e3
  exact ⟨by rw [bnd_small (by omega)]; omega, by rw [bnd_small (by omega)]; omega, ⟨e4, e5, rfl, rfl, rfl, Nat.zero_le _⟩, rfl⟩
theorem CanR.next {l : List UInt8} {seg size off en : Int} {m N : Nat} {s s1 s2 s3 s4 s5 : RSt} {ents : List HE} {v1 v2 v3 v4 : Nat} {t : List UInt8} {y1 T y3 y4 : Int}
    (h : CanR l seg size m N s off en ents) (hn : m < N) (h1 : uvS l s = (v1, s1)) (h2 : uvS l s1 = (v2, s2)) (h3 : uvS l s2 = (v3, s3)) (h4 : uvS l s3 = (v4, s4)) (h5 : txS 64 l s4 = (t, s5))
    (e1 : bnd 1099511627776 v1 = y1) (e2 : v2 < 1125899906842624 → T = v2) (e3 : bnd 1099511627776 v3 = y3) (e4 : bnd 1099511627776 ((v4 : Int) / 2).toNat = y4) :
    CanR l seg size (m + 1) N s5 (off + y1) (en + y3 + y4) (ents ++ [⟨⟨t.toArray⟩, off + y1, T, (v4 : Int) % 2 == 1, en + y3, y4⟩]) := by
  intro sg sz H hr hl
  obtain ⟨c1, c2, c3, c4⟩ := h sg sz H hr hl
  have hk : m < H.length := by omega
  obtain ⟨r1, r2, r3, r4, r5, r6, r7⟩ := CanAt.next hr c3 hk h1 h2 h3 h4 h5
  have he := hr.2.2.2.2.1 m hk
  obtain ⟨f1, f2, f3, _⟩ := hint_ends hr m (by omega)
  have hsz := hr.2.2.2.1
  have ho := c3.off_
  have hen := c3.en_
  have hents := c3.ents_
  obtain ⟨a1, a2, a3, a4, a5, a6, a7, a8, a9, a10⟩ := he
  generalize hq : nth H m = q at r1 r2 r3 r4 r5 a1 a2 a3 a4 a5 a6 a7 a8 a9 a10
  have hlo : longOf q = 2 * q.len + (if q.dead then 1 else 0) := rfl
  have hl4 : 0 ≤ longOf q ∧ longOf q < 4000 := by rw [hlo]; split <;> omega
  rw [bnd_small (by omega)] at e1 e3 e4
  have x1 : off + y1 = q.off := by omega
  have x2 : T = q.time := by rw [e2 (by omega)]; omega
  have x3 : en + y3 = q.pos := by omega
  have x4 : (v4 : Int) = longOf q := by omega
  have x5 : y4 = q.len := by
    have : y4 = longOf q / 2 := by omega
    rw [this, hlo]; split <;> omega
  have x6 : ((v4 : Int) % 2 == 1) = q.dead := by
    rw [x4, hlo]
    cases q.dead with
    | true => simp
    | false => simp
  have x7 : (⟨t.toArray⟩ : ByteArray) = q.key := by rw [r5]
  rw [x1, x2, x3, x5, x6, x7]
  refine ⟨c1, c2, ⟨r6, r7, ?_, ?_, ?_, by omega⟩, c4⟩
  · show _ = (nth H m).off
    rw [hq]
  · show _ = (nth H m).pos + (nth H m).len
    rw [hq]
  · rw [take_snoc H m hk, hents, ← nth_eq hk, hq]
theorem CanR.done {l bs : List UInt8} {seg size off en : Int} {m N : Nat} {s : RSt} {ents : List HE} (h : CanR l seg size m N s off en ents) (hl : bs.drop 9 = l) (hx : N ≤ m ∨ l.length ≤ s.at_) :
    ∀ sg sz K, HintR sg sz K → encH sg sz K = bs → sg = seg ∧ sz = size ∧ K = ents := by
  intro sg sz K hr he
  obtain ⟨c1, c2, c3, c4⟩ := h sg sz K hr (by rw [← hl]; exact encH_drop hr he)
  refine ⟨c1, c2, ?_⟩
  have hle := c3.le
  have hm : m = K.length := by
    rcases hx with hx | hx
    · omega
    · rcases Nat.lt_or_ge m K.length with h1 | h1
      · have := c3.rest
        rw [List.drop_of_length_le hx] at this
        exact absurd this.symm (entsTail_pos K h1)
      · omega
  rw [c3.ents_, hm, List.take_length]
set_option maxRecDepth 100000 in
set_option maxHeartbeats 8000000 in
theorem refDecodeX (A : Option Addr) (n c : Nat) (bs : List UInt8) (w : World) (hA : Rd w w.heap.size A (bv bs)) (hn : bs.length = n) (hnc : n ≤ c) (hmx : n ≤ 2000000) :
    Calls Try.prog 13 #[.slice A n c] w fun e w' => DAns bs w w' e ∧ Below w.heap.size w w' := by
  have hb0 : Below w.heap.size w (w.alloc (.cells #[.int .i64 0, .int .i64 0, .slice none 0 0] 24)) := (Below.refl _ _).alloc (Nat.le_refl _) _
  by_cases h9 : n < 9
  · have HN : Hid (∀ seg size H, HintR seg size H → encH seg size H ≠ bs) := fun seg size H hr e => by
      have h1 := congrArg List.length e
      rw [show encH seg size H = wrapB 177 (bodyH seg size H) from if_pos hr, wrapB_len] at h1
      omega
    have HB := Lib.hid hb0
    clear hb0 hA hn
    go_enter Try.func13, Try.ntmps13
    go_wp2
    refine bodyPost_ret (v := .tuple #[.agg #[.int .i64 0, .int .i64 0, .slice none 0 0], .int .i64 60]) ?_ rfl ?_
    · simp [results, Try.results13, go_sem]
    · refine ⟨.inr ⟨HN.out, rfl⟩, ?_⟩
      repeat (first | with_reducible exact HB.out | refine Below.setCell ?_ (by simp) _)
  obtain ⟨i1, hi1, hz1, hs1, hy1⟩ := info_parts info_he
  have hsl : ∀ W, (Instr.slice 26 (.slice A n c) (some (.int .i64 9)) none none).run Try.prog W = .ok (.slice (tailA A c 9) (n - 9) (c - 9)) W := fun _ => run_tail _ 26 Try.underlying26 sizeU8 A n c 9 (by omega)
  have hlen : (bs.drop 9).length = n - 9 := by simp [hn]
  have HAt := Lib.hid ((hA.tail_ (cap := c) 9 (by omega)).below hb0)
  generalize hl : bs.drop 9 = l at hlen HAt
  have Hl := Lib.hid hl
  have Hlen := Lib.hid hlen
  have hlx : l.length ≤ 2000000 := by omega
  have Hlx : Hid (l.length ≤ 140737488355328) := by show _ ≤ _; omega
  have HA := Lib.hid hA
  have Hn := Lib.hid hn
  have HB := Lib.hid hb0
  have HR0 := Lib.hid (Box.new w 24 #[.int .i64 0, .int .i64 0, .slice none 0 0])
  clear hA hn hb0 hl hlen
  go_enter Try.func13, Try.ntmps13
  go_wp2_with (first
    | (go_at_call 40; refine (refNewR (tailA A c 9) (n - 9) (c - 9) l _ (HAt.out.mono (by simp)) Hlen.out (by omega)).mono ?_; rintro e w1 ⟨p, rfl, hR, hp, hb1⟩; have hpl := hR.lt; rw [World.size_alloc] at hp; have K0 := Lib.hid (And.intro hR (And.intro (HB.out.trans (hb1.mono (by simp))) (HR0.out.below hb1 (by simp)))); have hzr := K0.out.2.2.cell; clear hR hb1)
    | (go_at_call 41; refine (refUv p l _ _ K0.out.1 Hlx.out).mono ?_; rintro e wa ⟨he, ha⟩; have hle := uvS_le K0.out.1.le; generalize hv : uvS l ⟨0, false⟩ = r at he ha hle; obtain ⟨va, sa⟩ := r; simp only at he ha hle; subst he; have hva := hle.2.2; have Va := Lib.hid hv; have hpla := ha.1.lt; have Ka := Lib.hid (And.intro ha.1 (And.intro (K0.out.2.1.trans (ha.2.below K0.out.2.1.size (fun k hk => by omega))) (K0.out.2.2.chg ha.2 (by omega)))); have hzra := Ka.out.2.2.cell; clear hv ha hle K0 hzr)
    | (go_at_call 41; refine (refUv p l _ _ Ka.out.1 Hlx.out).mono ?_; rintro e wb ⟨he, ha⟩; have hle := uvS_le Ka.out.1.le; generalize hv : uvS l sa = r at he ha hle; obtain ⟨vb, sb⟩ := r; simp only at he ha hle; subst he; have hvb := hle.2.2; have Vb := Lib.hid hv; have hplb := ha.1.lt; have Kb := Lib.hid (And.intro ha.1 (And.intro (Ka.out.2.1.trans (ha.2.below Ka.out.2.1.size (fun k hk => by omega))) (Ka.out.2.2.chg ha.2 (by omega)))); have hzrb := Kb.out.2.2.cell; clear hv ha hle Ka hzra)
    | (go_at_call 41; refine (refUv p l _ _ Kb.out.1 Hlx.out).mono ?_; rintro e wc ⟨he, ha⟩; have hle := uvS_le Kb.out.1.le; generalize hv : uvS l sb = r at he ha hle; obtain ⟨vc, sc⟩ := r; simp only at he ha hle; subst he; have hvc := hle.2.2; have hvc_ : True := trivial; have Vc := Lib.hid hv; have hplc := ha.1.lt; have Kc := Lib.hid (And.intro ha.1 (And.intro (Kb.out.2.1.trans (ha.2.below Kb.out.2.1.size (fun k hk => by omega))) (Kb.out.2.2.chg ha.2 (by omega)))); have hzrc := Kc.out.2.2.cell; clear hv ha hle Kb hzrb)
    | (go_at_call 42; refine (refFew va _ hva).mono ?_; rintro e wz ⟨rfl, rfl⟩; have hy : 0 ≤ bnd 1099511627776 va ∧ bnd 1099511627776 va ≤ (1099511627776 : Int) := bnd_le 1099511627776 va; generalize hyy : bnd 1099511627776 va = ya at hy; obtain ⟨yaa, yab⟩ := hy; have Yya := Lib.hid hyy; clear hyy hva)
    | (go_at_call 42; refine (refFew vb _ hvb).mono ?_; rintro e wz ⟨rfl, rfl⟩; have hy : 0 ≤ bnd 1099511627776 vb ∧ bnd 1099511627776 vb ≤ (1099511627776 : Int) := bnd_le 1099511627776 vb; generalize hyy : bnd 1099511627776 vb = yb at hy; obtain ⟨yba, ybb⟩ := hy; have Yyb := Lib.hid hyy; clear hyy hvb))
  have DZ := Lib.hid (show DR w p wc.heap.size l sc ya yb none 0 0 [] (wc.alloc (.cells #[.int .i64 ya, .int .i64 yb, .slice none 0 0] 24)) from
    ⟨Kc.out.1.below ((Below.refl _ _).alloc (Nat.le_refl _) _), Kc.out.2.1.alloc Kc.out.2.1.size _, Kc.out.2.2.alloc _, Box.new _ _ _, nil_own _ _ _ _, rfl, by omega, hplc⟩)
  have HC := Lib.hid (CanR.start Va.out Vb.out Vc.out)
  rw [Yya.out, Yyb.out] at HC
  go_loopw [9, 10, 11] (fun o e nv wr => ∃ (off en : Int) (m ce : Nat) (be : Option Addr) (s : RSt) (ents : List HE), o = .int .i64 off ∧ e = .int .i64 en ∧ nv = .int .u64 m ∧ -1 ≤ off ∧ off ≤ 1099511627776 * m ∧ 0 ≤ en ∧ en ≤ 21 + 2199023255552 * m ∧ m ≤ s.at_ ∧ m ≤ vc ∧ FinR l s ∧
      DR w p wc.heap.size l s ya yb be m ce ents wr ∧ CanR l ya yb m vc s off en ents)
    (fun _ _ nv _ => vc - (intOf nv).toNat)
  case atStart =>
    have f1 : FinR l sa := by have := FinR.uv (l := l) (s := ⟨0, false⟩) (fun e => by cases e); rw [Va.out] at this; exact this
    have f2 : FinR l sb := by have := f1.uv; rw [Vb.out] at this; exact this
    have f3 : FinR l sc := by have := f2.uv; rw [Vc.out] at this; exact this
    exact ⟨-1, 21, 0, 0, none, sc, [], rfl, rfl, rfl, by omega, by omega, by omega, by omega, Nat.zero_le _, Nat.zero_le _, f3, DZ.out, HC.out⟩
  case round =>
    clear DZ HC hzrc Vc Kc
    obtain ⟨off, en, m, ce, be, s, ents, rfl, rfl, rfl, ho1, ho2, he1, he2, hms, hmv, hfin, hD, hC⟩ := hrel
    have HF := Lib.hid hfin
    clear hfin
    have hsl_ := hD.rd.le
    have hpw := hD.rd.lt
    have hz0 := hD.res.cell
    have hb0 := hD.box.cell
    have hf0 := hD.res.free
    have hlm := Lib.hid hD.len
    have hbl := hD.box.lt
    have hwl := hD.res.lt
    have DS := Lib.hid hD
    have HC := Lib.hid hC
    have hordA := hD.ord.1
    have hordB := hD.ord.2
    clear hD hC
    by_cases hgo : m < vc ∧ s.at_ < l.length
    · obtain ⟨hn0, hat⟩ := hgo
      have hgr := uvS_grow hat
      clear hz0 hb0 hf0
      have hn0' : decide (m < vc) = true := decide_eq_true hn0
      have hre : (0 : Int) < (l.length : Int) - s.at_ := by omega
      have q1 := uvS_le hsl_
      generalize hv1 : uvS l s = r1 at q1 hgr
      obtain ⟨v1, s1⟩ := r1
      have V1 := Lib.hid hv1
      have q2 := uvS_le q1.1
      simp only at q1 q2 hgr
      generalize hv2 : uvS l s1 = r2 at q2
      obtain ⟨v2, s2⟩ := r2
      have V2 := Lib.hid hv2
      have q3 := uvS_le q2.1
      simp only at q2 q3
      generalize hv3 : uvS l s2 = r3 at q3
      obtain ⟨v3, s3⟩ := r3
      have V3 := Lib.hid hv3
      have q4 := uvS_le q3.1
      simp only at q3 q4
      generalize hv4 : uvS l s3 = r4 at q4
      obtain ⟨v4, s4⟩ := r4
      have V4 := Lib.hid hv4
      have q5 := txS_le (most := 64) q4.1
      simp only at q4 q5
      generalize hv5 : txS 64 l s4 = r5 at q5
      obtain ⟨tx, s5⟩ := r5
      have V5 := Lib.hid hv5
      simp only at q5
      have hb1v := q1.2.2
      have hb2v := q2.2.2
      have hb3v := q3.2.2
      have hb4v := q4.2.2
      have Q := Lib.hid (And.intro q1 (And.intro q2 (And.intro q3 (And.intro q4 q5))))
      clear q1 q2 q3 q4 q5 hv1 hv2 hv3 hv4 hv5
      obtain ⟨y1a, y1b⟩ : 0 ≤ bnd 1099511627776 v1 ∧ bnd 1099511627776 v1 ≤ (1099511627776 : Int) := bnd_le 1099511627776 v1
      obtain ⟨y2a, y2b⟩ : 0 ≤ bnd 1099511627776 v2 ∧ bnd 1099511627776 v2 ≤ (1099511627776 : Int) := bnd_le 1099511627776 v2
      obtain ⟨y3a, y3b⟩ : 0 ≤ bnd 1099511627776 v3 ∧ bnd 1099511627776 v3 ≤ (1099511627776 : Int) := bnd_le 1099511627776 v3
      obtain ⟨y4a, y4b⟩ : 0 ≤ bnd 1099511627776 ((v4 : Int) / 2).toNat ∧ bnd 1099511627776 ((v4 : Int) / 2).toNat ≤ (1099511627776 : Int) := bnd_le 1099511627776 _
      generalize he1' : bnd 1099511627776 v1 = y1 at y1a y1b
      generalize he2' : bnd 1099511627776 v2 = y2 at y2a y2b
      generalize he3' : bnd 1099511627776 v3 = y3 at y3a y3b
      generalize he4' : bnd 1099511627776 ((v4 : Int) / 2).toNat = y4 at y4a y4b
      have Y1 := Lib.hid he1'
      have Y2 := Lib.hid he2'
      have Y3 := Lib.hid he3'
      have Y4 := Lib.hid he4'
      clear he1' he2' he3' he4'
      by_cases htm : v2 ≤ 1099511627776
      · have HT : Hid (v2 < 1125899906842624 → y2 = v2) := fun _ => by rw [← Y2.out]; exact bnd_small htm
        have htd : ¬ (1099511627776 : Int) < v2 := by omega
        go_wp2_with (first
          | (go_at_call 43; refine (refRestD p l s _ DS.out.rd Hlx.out).mono ?_; rintro e wx ⟨rfl, nd, rfl⟩; have D0 := Lib.hid (DS.out.drewN nd); clear DS)
          | (go_at_call 41; refine (refUv p l _ _ D0.out.rd Hlx.out).mono ?_; rintro e w1 ⟨he, ha⟩; rw [V1.out] at he ha; simp only at he ha; subst he; have D1n := Lib.hid (D0.out.step ha); clear ha D0; have D1 := D1n; clear D1n)
          | (go_at_call 41; refine (refUv p l _ _ D1.out.rd Hlx.out).mono ?_; rintro e w2 ⟨he, ha⟩; rw [V2.out] at he ha; simp only at he ha; subst he; have D2n := Lib.hid (D1.out.step ha); clear ha D1; have D2 := D2n; clear D2n)
          | (go_at_call 41; refine (refUv p l _ _ D2.out.rd Hlx.out).mono ?_; rintro e w3 ⟨he, ha⟩; rw [V3.out] at he ha; simp only at he ha; subst he; have D3n := Lib.hid (D2.out.step ha); clear ha D2; have D3 := D3n; clear D3n)
          | (go_at_call 41; refine (refUv p l _ _ D3.out.rd Hlx.out).mono ?_; rintro e w4 ⟨he, ha⟩; rw [V4.out] at he ha; simp only at he ha; subst he; have D4n := Lib.hid (D3.out.step ha); clear ha D3; have D4 := D4n; clear D4n)
          | (go_at_call 44; refine (refTx p 64 l s4 _ D4.out.rd Hlx.out (by omega)).mono ?_; rintro e w5 ⟨he, ha⟩; rw [V5.out] at he ha; simp only at he ha; subst he; unfold strV; have D5 := Lib.hid (D4.out.step ha); have hbl3 := D5.out.box.lt; have hbw := D5.out.box.cell; clear ha D4)
          | (go_at_call 42; refine (refFew v1 _ hb1v).mono ?_; rintro e wz ⟨rfl, rfl⟩; rw [Y1.out])
          | (go_at_call 42; refine (refFew v2 _ hb2v).mono ?_; rintro e wz ⟨rfl, rfl⟩; rw [Y2.out])
          | (go_at_call 42; refine (refFew v3 _ hb3v).mono ?_; rintro e wz ⟨rfl, rfl⟩; rw [Y3.out])
          | (go_at_call 42; refine (refFewI ((v4 : Int) / 2) _ (by omega) (by omega)).mono ?_; rintro e wz ⟨rfl, rfl⟩; rw [Y4.out])
          | (at_builtin
             have D7 := D5.out.next ((Below.refl _ _).alloc (Nat.le_refl _) (.cells (six ⟨⟨tx.toArray⟩, off + y1, y2, (v4 : Int) % 2 == 1, en + y3, y4⟩).toArray 33))
             have hrx : ∀ k, (Value.slice be m ce).ownBlock = some k → k < w5.heap.size := fun k hk => (D5.out.row.lt k hk).2
             have hrn : Rd ((w5.alloc (.cells (six ⟨⟨tx.toArray⟩, off + y1, y2, (v4 : Int) % 2 == 1, en + y3, y4⟩).toArray 33)).alloc (.cells (six ⟨⟨tx.toArray⟩, off + y1, y2, (v4 : Int) % 2 == 1, en + y3, y4⟩).toArray 33)) (w5.heap.size + 2) (some ⟨w5.heap.size + 1, 0, none⟩) (six ⟨⟨tx.toArray⟩, off + y1, y2, (v4 : Int) % 2 == 1, en + y3, y4⟩) := by simpa using rd_new (w5.alloc (.cells (six ⟨⟨tx.toArray⟩, off + y1, y2, (v4 : Int) % 2 == 1, en + y3, y4⟩).toArray 33)) (six ⟨⟨tx.toArray⟩, off + y1, y2, (v4 : Int) % 2 == 1, en + y3, y4⟩).toArray 33
             have X7 : Box (w5.alloc (.cells (six ⟨⟨tx.toArray⟩, off + y1, y2, (v4 : Int) % 2 == 1, en + y3, y4⟩).toArray 33)) w5.heap.size 33 (six ⟨⟨tx.toArray⟩, off + y1, y2, (v4 : Int) % 2 == 1, en + y3, y4⟩).toArray := Box.new w5 _ _
             refine wpList_app1 _ rfl (.tmp 82) (.tmp 84) _ rfl (wc.heap.size + 1) 33 i1 _ 6 56 Try.underlying22 hi1 hz1 hs1 hy1 rfl (by omega) (.slice be m ce) m (ents.flatMap six) rfl (D7.row.alloc _) _ _ 1 1 (six ⟨⟨tx.toArray⟩, off + y1, y2, (v4 : Int) % 2 == 1, en + y3, y4⟩) rfl rfl hrn (by simp [six, Value.oneCell']) (by unfold maxLen; omega) (by omega) (by have := D7.box.lt; simp; omega) (by omega) ?_
             intro g cap w8 hO hca hcb hrow hg _
             unfold maxLen at hcb
             have D9 := D7.grow hg hrow
             have X8 := (X7.alloc (.cells (six ⟨⟨tx.toArray⟩, off + y1, y2, (v4 : Int) % 2 == 1, en + y3, y4⟩).toArray 33)).grown hg (fun e => by have := hrx _ e.symm; omega)
             have hb8 := (D7.box.alloc (.cells (six ⟨⟨tx.toArray⟩, off + y1, y2, (v4 : Int) % 2 == 1, en + y3, y4⟩).toArray 33)).grown hg (fun e => by have := (D7.row.lt _ e.symm).1; omega)
             have hx8 : ∀ i, w8.cell? ⟨w5.heap.size, i, none⟩ = (#[.string ⟨tx.toArray⟩, .int .i64 (off + y1), .int .i64 y2, .bool ((v4 : Int) % 2 == 1), .int .i64 (en + y3), .int .i64 y4] : Array Value)[i]? := X8.cell
             have lx8 := X8.lt
             have hbc8 := hb8.cell
             have hbf8 := hb8.free
             have lb8 := hb8.lt
             have D9 := Lib.hid D9
             clear D7 X7 hO hrow hg X8 hb8 D5 hrn hrx))
        go_wp2
        go_roundw
        case rel =>
          have c1 := CanR.next HC.out hn0 V1.out V2.out V3.out V4.out V5.out Y1.out HT.out Y3.out Y4.out
          have f1 : FinR l s1 := by have := HF.out.uv; rw [V1.out] at this; exact this
          have f2 : FinR l s2 := by have := f1.uv; rw [V2.out] at this; exact this
          have f3 : FinR l s3 := by have := f2.uv; rw [V3.out] at this; exact this
          have f4 : FinR l s4 := by have := f3.uv; rw [V4.out] at this; exact this
          have f5 : FinR l s5 := by have := f4.tx 64; rw [V5.out] at this; exact this
          have hgr2 : s.at_ < s1.at_ := by
            rcases hgr with h | h
            · exact h
            · have := HF.out h; omega
          obtain ⟨h1, h2, h3, h4, h5⟩ := Q.out
          exact ⟨_, _, m + 1, cap, some ⟨g, 0, none⟩, s5, _, rfl, rfl, by congr 1, by omega, by omega, by omega, by omega, by omega, by omega, f5, D9.out, c1⟩
        case measure => simp [intOf]; omega
      · have HT : Hid (v2 < 1125899906842624 → wrap64 (v2 : Int) = v2) := fun h => by unfold wrap64; omega
        have htd : (1099511627776 : Int) < v2 := by omega
        go_wp2_with (first
          | (go_at_call 43; refine (refRestD p l s _ DS.out.rd Hlx.out).mono ?_; rintro e wx ⟨rfl, nd, rfl⟩; have D0 := Lib.hid (DS.out.drewN nd); clear DS)
          | (go_at_call 41; refine (refUv p l _ _ D0.out.rd Hlx.out).mono ?_; rintro e w1 ⟨he, ha⟩; rw [V1.out] at he ha; simp only at he ha; subst he; have D1n := Lib.hid (D0.out.step ha); clear ha D0; have D1 := D1n; clear D1n)
          | (go_at_call 41; refine (refUv p l _ _ D1.out.rd Hlx.out).mono ?_; rintro e w2 ⟨he, ha⟩; rw [V2.out] at he ha; simp only at he ha; subst he; have D2n := Lib.hid (D1.out.step ha); clear ha D1; have D2 := D2n; clear D2n)
          | (go_at_call 41; refine (refUv p l _ _ D2.out.rd Hlx.out).mono ?_; rintro e w3 ⟨he, ha⟩; rw [V3.out] at he ha; simp only at he ha; subst he; have D3n := Lib.hid (D2.out.step ha); clear ha D2; have D3 := D3n; clear D3n)
          | (go_at_call 41; refine (refUv p l _ _ D3.out.rd Hlx.out).mono ?_; rintro e w4 ⟨he, ha⟩; rw [V4.out] at he ha; simp only at he ha; subst he; have D4n := Lib.hid (D3.out.step ha); clear ha D3; have D4 := D4n; clear D4n)
          | (go_at_call 44; refine (refTx p 64 l s4 _ D4.out.rd Hlx.out (by omega)).mono ?_; rintro e w5 ⟨he, ha⟩; rw [V5.out] at he ha; simp only at he ha; subst he; unfold strV; have D5 := Lib.hid (D4.out.step ha); have hbl3 := D5.out.box.lt; have hbw := D5.out.box.cell; clear ha D4)
          | (go_at_call 42; refine (refFew v1 _ hb1v).mono ?_; rintro e wz ⟨rfl, rfl⟩; rw [Y1.out])
          | (go_at_call 42; refine (refFew v2 _ hb2v).mono ?_; rintro e wz ⟨rfl, rfl⟩; rw [Y2.out])
          | (go_at_call 42; refine (refFew v3 _ hb3v).mono ?_; rintro e wz ⟨rfl, rfl⟩; rw [Y3.out])
          | (go_at_call 42; refine (refFewI ((v4 : Int) / 2) _ (by omega) (by omega)).mono ?_; rintro e wz ⟨rfl, rfl⟩; rw [Y4.out])
          | (at_builtin
             have D7 := D5.out.next ((Below.refl _ _).alloc (Nat.le_refl _) (.cells (six ⟨⟨tx.toArray⟩, off + y1, (wrap64 (v2 : Int)), (v4 : Int) % 2 == 1, en + y3, y4⟩).toArray 33))
             have hrx : ∀ k, (Value.slice be m ce).ownBlock = some k → k < w5.heap.size := fun k hk => (D5.out.row.lt k hk).2
             have hrn : Rd ((w5.alloc (.cells (six ⟨⟨tx.toArray⟩, off + y1, (wrap64 (v2 : Int)), (v4 : Int) % 2 == 1, en + y3, y4⟩).toArray 33)).alloc (.cells (six ⟨⟨tx.toArray⟩, off + y1, (wrap64 (v2 : Int)), (v4 : Int) % 2 == 1, en + y3, y4⟩).toArray 33)) (w5.heap.size + 2) (some ⟨w5.heap.size + 1, 0, none⟩) (six ⟨⟨tx.toArray⟩, off + y1, (wrap64 (v2 : Int)), (v4 : Int) % 2 == 1, en + y3, y4⟩) := by simpa using rd_new (w5.alloc (.cells (six ⟨⟨tx.toArray⟩, off + y1, (wrap64 (v2 : Int)), (v4 : Int) % 2 == 1, en + y3, y4⟩).toArray 33)) (six ⟨⟨tx.toArray⟩, off + y1, (wrap64 (v2 : Int)), (v4 : Int) % 2 == 1, en + y3, y4⟩).toArray 33
             have X7 : Box (w5.alloc (.cells (six ⟨⟨tx.toArray⟩, off + y1, (wrap64 (v2 : Int)), (v4 : Int) % 2 == 1, en + y3, y4⟩).toArray 33)) w5.heap.size 33 (six ⟨⟨tx.toArray⟩, off + y1, (wrap64 (v2 : Int)), (v4 : Int) % 2 == 1, en + y3, y4⟩).toArray := Box.new w5 _ _
             refine wpList_app1 _ rfl (.tmp 82) (.tmp 84) _ rfl (wc.heap.size + 1) 33 i1 _ 6 56 Try.underlying22 hi1 hz1 hs1 hy1 rfl (by omega) (.slice be m ce) m (ents.flatMap six) rfl (D7.row.alloc _) _ _ 1 1 (six ⟨⟨tx.toArray⟩, off + y1, (wrap64 (v2 : Int)), (v4 : Int) % 2 == 1, en + y3, y4⟩) rfl rfl hrn (by simp [six, Value.oneCell']) (by unfold maxLen; omega) (by omega) (by have := D7.box.lt; simp; omega) (by omega) ?_
             intro g cap w8 hO hca hcb hrow hg _
             unfold maxLen at hcb
             have D9 := D7.grow hg hrow
             have X8 := (X7.alloc (.cells (six ⟨⟨tx.toArray⟩, off + y1, (wrap64 (v2 : Int)), (v4 : Int) % 2 == 1, en + y3, y4⟩).toArray 33)).grown hg (fun e => by have := hrx _ e.symm; omega)
             have hb8 := (D7.box.alloc (.cells (six ⟨⟨tx.toArray⟩, off + y1, (wrap64 (v2 : Int)), (v4 : Int) % 2 == 1, en + y3, y4⟩).toArray 33)).grown hg (fun e => by have := (D7.row.lt _ e.symm).1; omega)
             have hx8 : ∀ i, w8.cell? ⟨w5.heap.size, i, none⟩ = (#[.string ⟨tx.toArray⟩, .int .i64 (off + y1), .int .i64 (wrap64 (v2 : Int)), .bool ((v4 : Int) % 2 == 1), .int .i64 (en + y3), .int .i64 y4] : Array Value)[i]? := X8.cell
             have lx8 := X8.lt
             have hbc8 := hb8.cell
             have hbf8 := hb8.free
             have lb8 := hb8.lt
             have D9 := Lib.hid D9
             clear D7 X7 hO hrow hg X8 hb8 D5 hrn hrx))
        go_wp2
        go_roundw
        case rel =>
          have c1 := CanR.next HC.out hn0 V1.out V2.out V3.out V4.out V5.out Y1.out HT.out Y3.out Y4.out
          have f1 : FinR l s1 := by have := HF.out.uv; rw [V1.out] at this; exact this
          have f2 : FinR l s2 := by have := f1.uv; rw [V2.out] at this; exact this
          have f3 : FinR l s3 := by have := f2.uv; rw [V3.out] at this; exact this
          have f4 : FinR l s4 := by have := f3.uv; rw [V4.out] at this; exact this
          have f5 : FinR l s5 := by have := f4.tx 64; rw [V5.out] at this; exact this
          have hgr2 : s.at_ < s1.at_ := by
            rcases hgr with h | h
            · exact h
            · have := HF.out h; omega
          obtain ⟨h1, h2, h3, h4, h5⟩ := Q.out
          exact ⟨_, _, m + 1, cap, some ⟨g, 0, none⟩, s5, _, rfl, rfl, by congr 1, by omega, by omega, by omega, by omega, by omega, by omega, f5, D9.out, c1⟩
        case measure => simp [intOf]; omega
    · have Hdone := Lib.hid (HC.out.done Hl.out (show vc ≤ m ∨ l.length ≤ s.at_ by omega))
      have hle := encH_len ya yb ents
      generalize hse : encH ya yb ents = cs at hle
      generalize hsn : cs.length = nc at hle
      generalize hsr : errH ya yb ents = er
      have Hcs := Lib.hid (And.intro hse (And.intro hsn hsr))
      clear hse hsn hsr
      by_cases hn0 : m < vc
      · have hn0' : decide (m < vc) = true := decide_eq_true hn0
        have hre : ¬ (0 : Int) < (l.length : Int) - s.at_ := by omega
        by_cases hr : HintR ya yb ents
        · have HR := Lib.hid hr
          obtain rfl : er = 0 := by rw [← Hcs.out.2.2]; exact if_pos hr
          by_cases heq : bs = cs
          · have HD : Hid (decide (cs = bs) = true) := decide_eq_true heq.symm
            have HEq := Lib.hid heq
            clear heq hr
            go_wp2_with (first
              | (go_at_call 43; refine (refRestD p l s _ DS.out.rd Hlx.out).mono ?_; rintro e wx ⟨rfl, nd, rfl⟩; have DE := Lib.hid (DS.out.drewN nd); clear DS)
              | (go_at_call 9
                 refine (refEncG ya yb be ce m nc _ cs ents _ hlm.out Hcs.out.2.2 Hcs.out.1 Hcs.out.2.1 (ownsRow_rd DE.out.row) (by omega)).mono ?_
                 rintro e w10 ⟨bx, cx, rfl, hbr, hb10⟩
                 have D10 := Lib.hid (DE.out.next hb10)
                 have BX := Lib.hid hbr
                 have hzt := D10.out.res.cell
                 have hzf := D10.out.res.free
                 have hzl := D10.out.res.lt
                 have hbt := D10.out.box.cell
                 have hbtl := D10.out.box.lt
                 clear hb10 hbr)
              | (go_at_call 45
                 refine (refSame bx A nc n cx c cs bs _ Hcs.out.2.1 Hn.out BX.out.rd ((HA.out.below D10.out.below).mono D10.out.below.size) (by omega) (by omega)).mono ?_
                 rintro e w11 ⟨he, hb11⟩
                 rw [HD.out] at he
                 subst he
                 have D11 := Lib.hid (D10.out.next hb11)
                 have hut := D11.out.res.cell
                 have huf := D11.out.res.free
                 have hul := D11.out.res.lt
                 have hub := D11.out.box.cell
                 have hubl := D11.out.box.lt
                 clear hb11))
            refine bodyPost_ret (v := .tuple #[.agg #[.int .i64 ya, .int .i64 yb, .slice be m ce], .int .i64 0]) ?_ rfl ?_
            · simp [results, Try.results13, go_sem, hut]
            have hm := hlm.out
            subst hm
            refine ⟨.inl ⟨ya, yb, ents, be, ce, HR.out, Hcs.out.1.trans HEq.out.symm, Hdone.out, rfl, ?_⟩, ?_⟩
            · refine ownsRow_le (ownsRow_block D11.out.row fun k hk => heap_set3 _ _ _ _ _ _ ?_) (by omega)
              have := (D11.out.row.lt k hk).1
              omega
            · exact ((D11.out.below.setCell (Nat.le_refl _) _).setCell (Nat.le_refl _) _).setCell (Nat.le_refl _) _
          · have HD : Hid (decide (cs = bs) = false) := decide_eq_false fun x => heq x.symm
            have HNo : Hid (∀ sg sz K, HintR sg sz K → encH sg sz K ≠ bs) := fun sg sz K h1 h2 => by obtain ⟨x1, x2, x3⟩ := Hdone.out sg sz K h1 h2; subst x1 x2 x3; exact heq (h2.symm.trans Hcs.out.1)
            clear heq hr
            go_wp2_with (first
              | (go_at_call 43; refine (refRestD p l s _ DS.out.rd Hlx.out).mono ?_; rintro e wx ⟨rfl, nd, rfl⟩; have DE := Lib.hid (DS.out.drewN nd); clear DS)
              | (go_at_call 9
                 refine (refEncG ya yb be ce m nc _ cs ents _ hlm.out Hcs.out.2.2 Hcs.out.1 Hcs.out.2.1 (ownsRow_rd DE.out.row) (by omega)).mono ?_
                 rintro e w10 ⟨bx, cx, rfl, hbr, hb10⟩
                 have D10 := Lib.hid (DE.out.next hb10)
                 have BX := Lib.hid hbr
                 have hzt := D10.out.res.cell
                 have hzf := D10.out.res.free
                 have hzl := D10.out.res.lt
                 have hbt := D10.out.box.cell
                 have hbtl := D10.out.box.lt
                 clear hb10 hbr)
              | (go_at_call 45
                 refine (refSame bx A nc n cx c cs bs _ Hcs.out.2.1 Hn.out BX.out.rd ((HA.out.below D10.out.below).mono D10.out.below.size) (by omega) (by omega)).mono ?_
                 rintro e w11 ⟨he, hb11⟩
                 rw [HD.out] at he
                 subst he
                 have D11 := Lib.hid (D10.out.next hb11)
                 have hut := D11.out.res.cell
                 have huf := D11.out.res.free
                 have hul := D11.out.res.lt
                 have hub := D11.out.box.cell
                 have hubl := D11.out.box.lt
                 clear hb11))
            refine bodyPost_ret (v := .tuple #[.agg #[.int .i64 0, .int .i64 0, .slice none 0 0], .int .i64 60]) ?_ rfl ?_
            · simp [results, Try.results13, go_sem, hut]
            refine ⟨.inr ⟨HNo.out, rfl⟩, ?_⟩
            exact ((D11.out.below.setCell (Nat.le_refl _) _).setCell (Nat.le_refl _) _).setCell (Nat.le_refl _) _
        · obtain rfl : er = 60 := by rw [← Hcs.out.2.2]; exact if_neg hr
          have HNo : Hid (∀ sg sz K, HintR sg sz K → encH sg sz K ≠ bs) := fun sg sz K h1 h2 => by obtain ⟨x1, x2, x3⟩ := Hdone.out sg sz K h1 h2; subst x1 x2 x3; exact hr h1
          clear hr
          go_wp2_with (first
            | (go_at_call 43; refine (refRestD p l s _ DS.out.rd Hlx.out).mono ?_; rintro e wx ⟨rfl, nd, rfl⟩; have DE := Lib.hid (DS.out.drewN nd); clear DS)
            | (go_at_call 9
               refine (refEncG ya yb be ce m nc _ cs ents _ hlm.out Hcs.out.2.2 Hcs.out.1 Hcs.out.2.1 (ownsRow_rd DE.out.row) (by omega)).mono ?_
               rintro e w10 ⟨bx, cx, rfl, hbr, hb10⟩
               have D10 := Lib.hid (DE.out.next hb10)
               have BX := Lib.hid hbr
               have hzt := D10.out.res.cell
               have hzf := D10.out.res.free
               have hzl := D10.out.res.lt
               have hbt := D10.out.box.cell
               have hbtl := D10.out.box.lt
               clear hb10 hbr))
          refine bodyPost_ret (v := .tuple #[.agg #[.int .i64 0, .int .i64 0, .slice none 0 0], .int .i64 60]) ?_ rfl ?_
          · simp [results, Try.results13, go_sem, hzt]
          refine ⟨.inr ⟨HNo.out, rfl⟩, ?_⟩
          exact ((D10.out.below.setCell (Nat.le_refl _) _).setCell (Nat.le_refl _) _).setCell (Nat.le_refl _) _
      · have hn0' : decide (m < vc) = false := decide_eq_false hn0
        have DE := DS
        by_cases hr : HintR ya yb ents
        · have HR := Lib.hid hr
          obtain rfl : er = 0 := by rw [← Hcs.out.2.2]; exact if_pos hr
          by_cases heq : bs = cs
          · have HD : Hid (decide (cs = bs) = true) := decide_eq_true heq.symm
            have HEq := Lib.hid heq
            clear heq hr
            go_wp2_with (first
              | (go_at_call 9
                 refine (refEncG ya yb be ce m nc _ cs ents _ hlm.out Hcs.out.2.2 Hcs.out.1 Hcs.out.2.1 (ownsRow_rd DE.out.row) (by omega)).mono ?_
                 rintro e w10 ⟨bx, cx, rfl, hbr, hb10⟩
                 have D10 := Lib.hid (DE.out.next hb10)
                 have BX := Lib.hid hbr
                 have hzt := D10.out.res.cell
                 have hzf := D10.out.res.free
                 have hzl := D10.out.res.lt
                 have hbt := D10.out.box.cell
                 have hbtl := D10.out.box.lt
                 clear hb10 hbr)
              | (go_at_call 45
                 refine (refSame bx A nc n cx c cs bs _ Hcs.out.2.1 Hn.out BX.out.rd ((HA.out.below D10.out.below).mono D10.out.below.size) (by omega) (by omega)).mono ?_
                 rintro e w11 ⟨he, hb11⟩
                 rw [HD.out] at he
                 subst he
                 have D11 := Lib.hid (D10.out.next hb11)
                 have hut := D11.out.res.cell
                 have huf := D11.out.res.free
                 have hul := D11.out.res.lt
                 have hub := D11.out.box.cell
                 have hubl := D11.out.box.lt
                 clear hb11))
            refine bodyPost_ret (v := .tuple #[.agg #[.int .i64 ya, .int .i64 yb, .slice be m ce], .int .i64 0]) ?_ rfl ?_
            · simp [results, Try.results13, go_sem, hut]
            have hm := hlm.out
            subst hm
            refine ⟨.inl ⟨ya, yb, ents, be, ce, HR.out, Hcs.out.1.trans HEq.out.symm, Hdone.out, rfl, ?_⟩, ?_⟩
            · refine ownsRow_le (ownsRow_block D11.out.row fun k hk => heap_set3 _ _ _ _ _ _ ?_) (by omega)
              have := (D11.out.row.lt k hk).1
              omega
            · exact ((D11.out.below.setCell (Nat.le_refl _) _).setCell (Nat.le_refl _) _).setCell (Nat.le_refl _) _
          · have HD : Hid (decide (cs = bs) = false) := decide_eq_false fun x => heq x.symm
            have HNo : Hid (∀ sg sz K, HintR sg sz K → encH sg sz K ≠ bs) := fun sg sz K h1 h2 => by obtain ⟨x1, x2, x3⟩ := Hdone.out sg sz K h1 h2; subst x1 x2 x3; exact heq (h2.symm.trans Hcs.out.1)
            clear heq hr
            go_wp2_with (first
              | (go_at_call 9
                 refine (refEncG ya yb be ce m nc _ cs ents _ hlm.out Hcs.out.2.2 Hcs.out.1 Hcs.out.2.1 (ownsRow_rd DE.out.row) (by omega)).mono ?_
                 rintro e w10 ⟨bx, cx, rfl, hbr, hb10⟩
                 have D10 := Lib.hid (DE.out.next hb10)
                 have BX := Lib.hid hbr
                 have hzt := D10.out.res.cell
                 have hzf := D10.out.res.free
                 have hzl := D10.out.res.lt
                 have hbt := D10.out.box.cell
                 have hbtl := D10.out.box.lt
                 clear hb10 hbr)
              | (go_at_call 45
                 refine (refSame bx A nc n cx c cs bs _ Hcs.out.2.1 Hn.out BX.out.rd ((HA.out.below D10.out.below).mono D10.out.below.size) (by omega) (by omega)).mono ?_
                 rintro e w11 ⟨he, hb11⟩
                 rw [HD.out] at he
                 subst he
                 have D11 := Lib.hid (D10.out.next hb11)
                 have hut := D11.out.res.cell
                 have huf := D11.out.res.free
                 have hul := D11.out.res.lt
                 have hub := D11.out.box.cell
                 have hubl := D11.out.box.lt
                 clear hb11))
            refine bodyPost_ret (v := .tuple #[.agg #[.int .i64 0, .int .i64 0, .slice none 0 0], .int .i64 60]) ?_ rfl ?_
            · simp [results, Try.results13, go_sem, hut]
            refine ⟨.inr ⟨HNo.out, rfl⟩, ?_⟩
            exact ((D11.out.below.setCell (Nat.le_refl _) _).setCell (Nat.le_refl _) _).setCell (Nat.le_refl _) _
        · obtain rfl : er = 60 := by rw [← Hcs.out.2.2]; exact if_neg hr
          have HNo : Hid (∀ sg sz K, HintR sg sz K → encH sg sz K ≠ bs) := fun sg sz K h1 h2 => by obtain ⟨x1, x2, x3⟩ := Hdone.out sg sz K h1 h2; subst x1 x2 x3; exact hr h1
          clear hr
          go_wp2_with (first
            | (go_at_call 9
               refine (refEncG ya yb be ce m nc _ cs ents _ hlm.out Hcs.out.2.2 Hcs.out.1 Hcs.out.2.1 (ownsRow_rd DE.out.row) (by omega)).mono ?_
               rintro e w10 ⟨bx, cx, rfl, hbr, hb10⟩
               have D10 := Lib.hid (DE.out.next hb10)
               have BX := Lib.hid hbr
               have hzt := D10.out.res.cell
               have hzf := D10.out.res.free
               have hzl := D10.out.res.lt
               have hbt := D10.out.box.cell
               have hbtl := D10.out.box.lt
               clear hb10 hbr))
          refine bodyPost_ret (v := .tuple #[.agg #[.int .i64 0, .int .i64 0, .slice none 0 0], .int .i64 60]) ?_ rfl ?_
          · simp [results, Try.results13, go_sem, hzt]
          refine ⟨.inr ⟨HNo.out, rfl⟩, ?_⟩
          exact ((D10.out.below.setCell (Nat.le_refl _) _).setCell (Nat.le_refl _) _).setCell (Nat.le_refl _) _
end Go.Proofs.Ytifimeohdgnehaa
