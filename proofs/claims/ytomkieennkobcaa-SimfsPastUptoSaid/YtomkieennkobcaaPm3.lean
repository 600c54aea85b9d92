import Derived.Test.YtomkieennkobcaaPm2
/- SimfsPast: the row of directories grows; two operations that may come in either order. -/
namespace Go.Proofs.Ytomkieennkobcaa
open Go.RowKit Go.Maps

theorem WT.both {P : Program} {md : Region.Mode} {ops : Array Oper} {Q : Exit → Act → World → Prop} {S : World → Prop} {m : Nat} (i j : Nat) {oi oj : Oper} {f : Nat} {done : Array Bool} {a : Act} {w : World} (hi' : ops.toList[i]? = some oi) (hj' : ops.toList[j]? = some oj) (hr : Region.ready md ops done = [i, j]) (hni : i ≠ m) (hnj : j ≠ m)
    (h1 : ∀ K : Act → World → Prop, Hid (∀ a w, S w → WT P md ops Q S m f (done.setIfInBounds i true) a w → K a w) → if Region.wanted oi (yielded ops a.tmps) = true then Oper.wp P oi a w K Q else K (a.put oi.dst undef) w)
    (h2 : ∀ K : Act → World → Prop, Hid (∀ a w, S w → WT P md ops Q S m f (done.setIfInBounds j true) a w → K a w) → if Region.wanted oj (yielded ops a.tmps) = true then Oper.wp P oj a w K Q else K (a.put oj.dst undef) w) : WT P md ops Q S m (f + 1) done a w := by
  have hi : ops[i]? = some oi := by rw [← hi', Array.getElem?_toList]
  have hj : ops[j]? = some oj := by rw [← hj', Array.getElem?_toList]
  refine ⟨fun e => (by rw [hr] at e; cases e), fun k hk => ?_⟩
  rw [hr] at hk
  rcases List.mem_cons.1 hk with rfl | hk
  · exact wpOp_step hi fun K hK => h1 K (Lib.hid fun a w g1 g2 => hK a w ⟨fun _ => g1, g2⟩)
  · obtain rfl : k = j := by simpa using hk
    exact wpOp_step hj fun K hK => h2 K (Lib.hid fun a w g1 g2 => hK a w ⟨fun _ => g1, g2⟩)
section
variable {w w' wz w4 w7 : World} {L L' : Nat → Nat} {pp n g c : Nat} {v4 v7 vF vG vD : Value} {uF uG uD : List Value} {fs : VS} {gs : GS} {ds : List (List KE)} {l m : List KE}
/-- The row of directories grows. -/
theorem PsM.growD (h : PsM wz L pp vF uF vG uG vD uD fs gs ds) (hb : Below wz.heap.size wz w4) (hr4 : w4.ownsRow wz.heap.size 113 2 v4 m.length (m.flatMap ncell))
    (hr7 : w7.ownsRow 0 108 1 v7 (ds.length + 1) (uD ++ [v4])) (hg : (w4.alloc (.cells #[v4] 108)).grownBy w7 vD.ownBlock) (hor : v7.ownBlock = vD.ownBlock ∨ v7.ownBlock = some (w4.alloc (.cells #[v4] 108)).heap.size) :
    ∃ L', PsM (w7.setCell ⟨pp, 2, none⟩ v7) L' pp vF uF vG uG v7 (uD ++ [v4]) fs gs (ds ++ [m]) ∧ Ex wz (w7.setCell ⟨pp, 2, none⟩ v7) L L' := by
  obtain ⟨h4, hx4, e4⟩ := h.fresh (a := 6) hb (fun b hb => hr4.lt b hb) (by decide)
  have ha := Below.al w4 (.cells #[v4] 108)
  have h5 := h4.next ha
  have hr5 : (w4.alloc (.cells #[v4] 108)).ownsRow 0 113 2 v4 m.length (m.flatMap ncell) := row_zero (hr4.alloc _)
  have hW : Where (w4.alloc (.cells #[v4] 108)) (relab L v4 6) v7 4 := fun b hb => by
    rcases hor with e | e
    · exact .inl (h5.D.l b (e ▸ hb))
    · rw [e] at hb
      injection hb with hb
      exact .inr (by omega)
  obtain ⟨t1, t2⟩ := h5.turnD (ds' := ds ++ [m]) (uD' := uD ++ [v4]) ((Chg.refl _ _).grown hg fun k hk => .inl hk) (by rw [List.length_append]; exact hr7) hW fun j l' u hj hu => by
    have hus : uD.length = ds.length := by have := h.D.r.1; simpa using this
    rcases Nat.lt_trichotomy j ds.length with hl | hl | hl
    · rw [List.getElem?_append_left hl] at hj
      rw [List.getElem?_append_left (by omega)] at hu
      exact h5.D.f j l' u hj hu
    · subst hl
      rw [List.getElem?_append_right (Nat.le_refl _), Nat.sub_self] at hj
      rw [List.getElem?_append_right (by omega), hus, Nat.sub_self] at hu
      simp at hj hu
      subst hj hu
      exact ⟨hr5, hx4⟩
    · rw [List.getElem?_eq_none (by simp; omega)] at hj
      cases hj
  exact ⟨_, t1, (e4.trans (Ex.below ha _)).trans t2⟩
/-- The directories' row where there is one. -/
theorem PsM.dirs_ (h : PsM w L pp vF uF vG uG vD uD fs gs ds) (hn : 0 < ds.length) : ∃ g c, vD = .slice (some ⟨g, 0, none⟩) ds.length c ∧ L g = 4 ∧ w.cell? ⟨pp, 2, none⟩ = some vD ∧ RdD w w.heap.size (some ⟨g, 0, none⟩) ds := by
  obtain ⟨D, c, hv, hc, hr⟩ := h.rdD
  obtain ⟨g, c', hv', _, _, _⟩ := Own.of_row h.D.r hn
  rw [hv] at hv'
  injection hv' with e1 _ e2
  subst e1 e2
  exact ⟨g, c, hv, h.D.l g (by rw [hv]; rfl), hc, hr⟩
theorem rdN_own {B c : Nat} {b : Option Addr} (h : w.ownsRow B 113 2 (.slice b l.length c) l.length (l.flatMap ncell)) : RdN w w.heap.size b l := by
  intro i p hp
  obtain ⟨h1, h2⟩ := ncell_get l i p hp
  obtain ⟨ad, rfl, hb, c1⟩ := row_rd h _ _ h1
  obtain ⟨ad', e, _, c2⟩ := row_rd h _ _ h2
  cases e
  rw [← add_add'] at c2
  exact ⟨ad, rfl, hb, c1, c2⟩
theorem RdD.next {D : Option Addr} (h : RdD w w.heap.size D ds) (hb : Below w.heap.size w w') : RdD w' w'.heap.size D ds := by
  intro i l hl
  obtain ⟨ad, x, c, h1, h2, h3, h4⟩ := h i l hl
  refine ⟨ad, x, c, h1, Nat.lt_of_lt_of_le h2 hb.size, cell_kept h3 hb, fun k p hp => ?_⟩
  obtain ⟨ad2, g1, g2, g3, g4⟩ := h4 k p hp
  exact ⟨ad2, g1, Nat.lt_of_lt_of_le g2 hb.size, cell_kept g3 hb, cell_kept g4 hb⟩
end
end Go.Proofs.Ytomkieennkobcaa
/- SimfsPast: note: what is written down of a name that goes. -/
namespace Go.Proofs.Ytomkieennkobcaa
open Go.RowKit Go.Maps

set_option maxRecDepth 100000 in
set_option maxHeartbeats 8000000 in
theorem note7_any (pp : Nat) (L : Nat → Nat) (vF vG vD : Value) (uF uG uD : List Value) (fs : VS) (gs : GS) (ds : List (List KE)) (l : List KE) (nm nt : ByteArray) (x y : Int) (A A2 : Option Addr) (nb c np c2 : Nat) (w : World) (h : PsM w L pp vF uF vG uG vD uD fs gs ds) (hl : ds[ds.length - 1]? = some l) (hmx : ds.length ≤ 999999999999) (hlm : l.length ≤ 999999999999) (f : Nat) (vs : List (List UInt8)) (now : List UInt8) (hld : leadP nm l = some f) (hv : fs[f]? = some vs) (hn : vs[vs.length - 1]? = some now) (hfm : f ≤ 999999999999) (hvm : vs.length ≤ 999999999999) :
    Calls Try.prog 28 #[.pointer (some ⟨pp, 0, none⟩), .agg #[.int .i64 7, .string nm, .string nt, .int .i64 x, .int .i64 y, .slice A nb c, .slice A2 np c2]] w fun e w' => e = .returned (.bool true) ∧ Noted w w' L pp fs gs (ds ++ [leftP nm l]) := by
  have HX := Lib.hid (Box.new w 44 #[.int .i64 7, .string nm, .string nt, .int .i64 x, .int .i64 y, .slice A nb c, .slice A2 np c2])
  have HB := Lib.hid (Below.al w (.cells #[.int .i64 7, .string nm, .string nt, .int .i64 x, .int .i64 y, .slice A nb c, .slice A2 np c2] 44))
  have H := Lib.hid (h.next (Below.al w (.cells #[.int .i64 7, .string nm, .string nt, .int .i64 x, .int .i64 y, .slice A nb c, .slice A2 np c2] 44)))
  have HL := Lib.hid h.lt
  clear h
  obtain ⟨i1, hi1, hz1, hs1, hy1⟩ := info_parts info_nms
  go_enter Try.func28, Try.ntmps28
  go_upto_region 16 with (first
    | (go_at_call 58
       obtain ⟨D, cD, hvD, hcD, hrD⟩ := H.out.rdD
       rw [hvD] at hcD
       refine (lead_any pp D ds.length cD ds l nm _ hcD hrD hl (by have := (List.getElem?_eq_some_iff.1 hl).1; omega) hmx hlm).mono ?_
       rintro e wl ⟨rfl, kl, hwl⟩
       rw [show leadV nm l = ((f : Nat) : Int) from leadV_some hld]
       have hbl : Below (w.alloc (.cells #[.int .i64 7, .string nm, .string nt, .int .i64 x, .int .i64 y, .slice A nb c, .slice A2 np c2] 44)).heap.size (w.alloc (.cells #[.int .i64 7, .string nm, .string nt, .int .i64 x, .int .i64 y, .slice A nb c, .slice A2 np c2] 44)) wl := by rw [hwl]; exact below_drewN (Below.refl _ _) kl
       have hbw : Below w.heap.size w wl := HB.out.trans (hbl.mono (by simp))
       have HX2 := Lib.hid (show Box wl w.heap.size 44 #[.int .i64 7, .string nm, .string nt, .int .i64 x, .int .i64 y, .slice A nb c, .slice A2 np c2] from by rw [hwl]; exact HX.out)
       have H2 := Lib.hid (And.intro (H.out.next hbl) hbw)
       have hxc := HX2.out.cell
       clear hvD hcD hrD hwl hbl hbw))
  obtain ⟨gF, nF, cF, gu, m, j, cu, us, xn, cn, rfl, hnF, hfn, hLF, huf, hvm2, hmj, hVU, hus, hc0, hcf, hcj, hro, hlb, hfr⟩ := H2.out.1.now_ hv hn
  have HU := Lib.hid (And.intro hnF (And.intro hLF (And.intro huf (And.intro hvm2 (And.intro hmj (And.intro hVU (And.intro hus (And.intro hro hlb))))))))
  rw [hvm2] at hvm
  have hf0 : (0 : Int) ≤ f := by omega
  have hf1 : (f : Int) < nF := by omega
  have hii : (m : Int) - 1 = (j : Int) := by omega
  have hi0 : (0 : Int) ≤ j := by omega
  have hi1 : (j : Int) < m := by omega
  have hwr : IntKind.i64.wrap ((m : Int) - 1) = (j : Int) := by rw [hii]; exact IntWalk.i64_in _ (by omega)
  have hwi : IntKind.i64.wrap (j : Int) = (j : Int) := IntWalk.i64_in _ (by omega)
  clear hnF hLF huf hvm2 hmj hVU hus hro hlb
  go_quiet (fail)
  generalize hw2 : wl.drewN _ = w2
  have hb2 : Below wl.heap.size wl w2 := by rw [← hw2]; exact below_drewN (Below.refl _ _) _
  have HX3 := Lib.hid (HX2.out.next hb2)
  have H3 := Lib.hid (And.intro (H2.out.1.next hb2) (And.intro (H2.out.2.trans (hb2.mono H2.out.2.size)) (And.intro (HU.out.2.2.2.2.2.1.keep (by omega) hb2 (fun _ _ => rfl)) (And.intro (show w2.ownsRow 0 5 1 (.slice xn now.length cn) now.length (bv now) from row_block HU.out.2.2.2.2.2.2.2.1 fun k hk => hb2.block k (HU.out.2.2.2.2.2.2.2.1.lt k hk).2) (cell_kept hc0 hb2)))))
  have hd0 := cell_kept hc0 hb2
  have hdf := cell_kept hcf hb2
  have hdr : w2.frozen? ⟨gF, f, none⟩ = false := by rw [← hw2]; exact hfr
  have hxd := HX3.out.cell
  clear hc0 hcf hcj hfr hw2 hb2 hxc hii hwr hwi hi0 hi1
  clear hd0 hdf hdr
  go_upto_region 39 with fail
  clear hxd
  obtain ⟨wz, hwz⟩ : ∃ wz, w2.drew = wz := ⟨_, rfl⟩
  have hbz : Below w2.heap.size w2 wz := by rw [← hwz]; exact below_drew (Below.refl _ _)
  have hPz := H3.out.1.next hbz
  have hXz := HX3.out.next hbz
  obtain ⟨gD, cD2, rfl, hLD, hc2, hRD⟩ := hPz.dirs_ (by have := (List.getElem?_eq_some_iff.1 hl).1; omega)
  obtain ⟨n, hn⟩ : ∃ n, ds.length = n := ⟨_, rfl⟩
  rw [hn] at hPz hc2
  have hnm := hn ▸ hmx
  have hc1 : wz.cell? ⟨w.heap.size, 1, none⟩ = some (.string nm) := hXz.cell 1
  have hS0 : wz.cell? ⟨pp, 2, none⟩ = some (.slice (some ⟨gD, 0, none⟩) n cD2) ∧ wz.cell? ⟨w.heap.size, 1, none⟩ = some (.string nm) := ⟨hc2, hc1⟩
  have hlp := hPz.lp
  have hl0 : L w.heap.size = 0 := Classical.byContradiction fun e => absurd (HL.out _ e) (Nat.lt_irrefl _)
  have hne1 : some pp ≠ (Value.slice (some ⟨gD, 0, none⟩) n cD2).ownBlock := fun e => by have := hPz.D.l _ e.symm; omega
  have hne2 : some w.heap.size ≠ (Value.slice (some ⟨gD, 0, none⟩) n cD2).ownBlock := fun e => by have := hPz.D.l _ e.symm; omega
  have HC := Lib.hid hS0
  have HN := Lib.hid (And.intro hne1 hne2)
  have HZ := Lib.hid (And.intro hbz (And.intro hPz (And.intro hRD (And.intro hn (And.intro hnm H3.out.2.1)))))
  clear hbz hPz hXz hLD hc2 hRD hn hnm hc1 hlp hl0 hne1 hne2
  refine WT.start (fun w' : World => w'.cell? ⟨pp, 2, none⟩ = some (.slice (some ⟨gD, 0, none⟩) n cD2) ∧ w'.cell? ⟨w.heap.size, 1, none⟩ = some (.string nm)) 13 (by kernel_rfl) ?_
  rw [hwz]
  clear hwz
  refine WT.take 0 (v := ?_) rfl (by kernel_rfl) (by kernel_rfl) (by kernel_rfl) (by kernel_rfl) (fun _ _ _ h => h) (Or.inl ⟨by rfl, ?hy⟩) hS0 ?_
  case hy => first | (intro w hSw; go_simp; done) | (intro w hSw; go_simp; with_reducible rfl)
  simp only [Act.put, List.setIfInBounds_toArray, List.set_cons_zero, List.set_cons_succ]
  refine WT.take 1 (v := ?_) rfl (by kernel_rfl) (by kernel_rfl) (by kernel_rfl) (by kernel_rfl) (fun _ _ _ h => h) (Or.inl ⟨by rfl, ?hy⟩) hS0 ?_
  case hy => first | (intro w hSw; go_simp; done) | (intro w hSw; go_simp; with_reducible rfl)
  simp only [Act.put, List.setIfInBounds_toArray, List.set_cons_zero, List.set_cons_succ]
  refine WT.take 2 (v := ?_) rfl (by kernel_rfl) (by kernel_rfl) (by kernel_rfl) (by kernel_rfl) (fun _ _ _ h => h) (Or.inl ⟨by rfl, ?hy⟩) hS0 ?_
  case hy => first | (intro w hSw; go_simp; done) | (intro w hSw; go_simp; with_reducible rfl)
  simp only [Act.put, List.setIfInBounds_toArray, List.set_cons_zero, List.set_cons_succ]
  refine WT.take 3 (v := ?_) rfl (by kernel_rfl) (by kernel_rfl) (by kernel_rfl) (by kernel_rfl) (fun _ _ _ h => h) (Or.inl ⟨by rfl, ?hy⟩) hS0 ?_
  case hy => first | (intro w hSw; go_simp; done) | (intro w hSw; go_simp; with_reducible rfl)
  simp only [Act.put, List.setIfInBounds_toArray, List.set_cons_zero, List.set_cons_succ]
  refine WT.take 4 (v := ?_) rfl (by kernel_rfl) (by kernel_rfl) (by kernel_rfl) (by kernel_rfl) (fun _ _ _ h => h) (Or.inl ⟨by rfl, ?hy⟩) hS0 ?_
  case hy => first | (intro w hSw; go_simp; done) | (intro w hSw; go_simp; with_reducible rfl)
  simp only [Act.put, List.setIfInBounds_toArray, List.set_cons_zero, List.set_cons_succ]
  refine WT.take 5 (v := ?_) rfl (by kernel_rfl) (by kernel_rfl) (by kernel_rfl) (by kernel_rfl) (fun _ _ _ h => h) (Or.inl ⟨by rfl, ?hy⟩) hS0 ?_
  case hy => first | (intro w hSw; go_simp; done) | (intro w hSw; go_simp; with_reducible rfl)
  simp only [Act.put, List.setIfInBounds_toArray, List.set_cons_zero, List.set_cons_succ]
  refine WT.take 6 (v := ?_) rfl (by kernel_rfl) (by kernel_rfl) (by kernel_rfl) (by kernel_rfl) (fun _ _ _ h => h) (Or.inl ⟨by rfl, ?hy⟩) hS0 ?_
  case hy => first | (intro w hSw; go_simp; done) | (intro w hSw; go_simp; with_reducible rfl)
  simp only [Act.put, List.setIfInBounds_toArray, List.set_cons_zero, List.set_cons_succ]
  refine WT.take 7 (v := ?_) rfl (by kernel_rfl) (by kernel_rfl) (by kernel_rfl) (by kernel_rfl) (fun _ _ _ h => h) (Or.inl ⟨by rfl, ?hy⟩) hS0 ?_
  case hy => first | (intro w hSw; go_simp; done) | (intro w hSw; go_simp; with_reducible rfl)
  simp only [Act.put, List.setIfInBounds_toArray, List.set_cons_zero, List.set_cons_succ]
  refine WT.step 8 rfl (by kernel_rfl) (by decide) fun K hK => ?_
  go_simp
  go_at_call 59
  refine (left_any pp (some ⟨gD, 0, none⟩) n cD2 ds l nm wz HC.out.1 HZ.out.2.2.1 (by rw [← HZ.out.2.2.2.1]; exact hl) (by have := (List.getElem?_eq_some_iff.1 hl).1; have := HZ.out.2.2.2.1; omega) HZ.out.2.2.2.2.1 hlm).mono ?_
  rintro e w4 ⟨b4, c4, rfl, hr4, hb4⟩
  obtain ⟨q4, hq4⟩ : ∃ q4, (leftP nm l).length = q4 := ⟨_, rfl⟩
  rw [hq4]
  have hS4 := And.intro (cell_kept HC.out.1 hb4) (cell_kept HC.out.2 hb4)
  rw [hq4] at hr4
  have H4 := Lib.hid (And.intro hb4 (And.intro hr4 hq4))
  clear hS0 hr4 hb4 hq4
  go_simp
  refine hK.out _ _ hS4 ?_
  clear hK K
  refine WT.step 9 rfl (by kernel_rfl) (by decide) fun K hK => ?_
  go_simp
  have hS6 := And.intro (cell_al hS4.1 (.cells #[.slice b4 q4 c4] 108)) (cell_al hS4.2 (.cells #[.slice b4 q4 c4] 108))
  clear hS4
  refine hK.out _ _ hS6 ?_
  clear hK K
  refine WT.step 10 rfl (by kernel_rfl) (by decide) fun K hK => ?_
  refine step_app _ (by rfl) (.tmp 260) (.tmp 265) 102 (by rfl) 0 108 i1 _ 1 24 Try.underlying102 hi1 hz1 hs1 hy1 rfl (by omega) (.slice (some ⟨gD, 0, none⟩) n cD2) n uD (by rfl) (by have := (HZ.out.2.1.next (H4.out.1.trans ((Below.al w4 (.cells #[.slice b4 q4 c4] 108)).mono H4.out.1.size))).D.r; rw [HZ.out.2.2.2.1] at this; exact this) (w4.heap.size + 1) (some ⟨w4.heap.size, 0, none⟩) 1 1 [.slice b4 q4 c4] (by rfl) (by rfl) (rd_new _ _ _) (by simp [Value.oneCell']) (by have := HZ.out.2.2.2.2.1; unfold maxLen; omega) (by have := HZ.out.2.2.2.2.1; omega) (Nat.zero_le _) ?_
  intro v7 w7 hown7 hg7 hor7
  obtain ⟨b7, c7, hv7⟩ := row_slice hown7
  subst hv7
  have hb6 : Below wz.heap.size wz (w4.alloc (.cells #[.slice b4 q4 c4] 108)) := H4.out.1.trans ((Below.al w4 _).mono H4.out.1.size)
  have hS7 := And.intro (cell_grow HC.out.1 hb6 hg7 HN.out.1) (cell_grow HC.out.2 hb6 hg7 HN.out.2)
  have hfz : w7.frozen? ⟨pp, 2, none⟩ = false := ((HZ.out.2.1.box.below hb6 HZ.out.2.1.box.lt).grown hg7 HN.out.1).free 2
  have H7 := Lib.hid (HZ.out.2.1.growD (m := leftP nm l) H4.out.1 (by rw [H4.out.2.2]; exact H4.out.2.1) (by rw [HZ.out.2.2.2.1]; exact hown7) hg7 hor7)
  clear hS6 hown7 hg7 hor7 hb6
  go_simp
  refine hK.out _ _ hS7 ?_
  clear hK K
  refine WT.step 11 rfl (by kernel_rfl) (by decide) fun K hK => ?_
  go_simp
  refine hK.out _ _ hS7 ?_
  clear hK K
  refine WT.take 12 (v := ?_) rfl (by kernel_rfl) (by kernel_rfl) (by kernel_rfl) (by kernel_rfl) (fun _ _ _ h => h) (Or.inl ⟨by rfl, ?hy⟩) hS7 ?_
  case hy => first | (intro w hSw; go_simp; done) | (intro w hSw; go_simp; with_reducible rfl)
  simp only [Act.put, List.setIfInBounds_toArray, List.set_cons_zero, List.set_cons_succ]
  refine WT.last 13 rfl (by kernel_rfl) rfl fun K hK => ?_
  go_simp
  refine hK.out _ _ ?_
  clear hK K
  refine WT.done (by kernel_rfl) ?_
  have hdo := hS7.1
  go_wp2_with fail
  go_ret
  obtain ⟨L7, q1, q2⟩ := H7.out
  exact ⟨rfl, L7, ⟨_, _, _, _, _, _, q1⟩, (Ex.below (HZ.out.2.2.2.2.2.trans (HZ.out.1.mono HZ.out.2.2.2.2.2.size)) L).trans q2⟩
end Go.Proofs.Ytomkieennkobcaa
/- SimfsPast: note: what is written down of a new name. -/
namespace Go.Proofs.Ytomkieennkobcaa
open Go.RowKit Go.Maps

set_option maxRecDepth 100000 in
set_option maxHeartbeats 8000000 in
theorem note6_any (pp : Nat) (L : Nat → Nat) (vF vG vD : Value) (uF uG uD : List Value) (fs : VS) (gs : GS) (ds : List (List KE)) (l : List KE) (nm nt : ByteArray) (x y : Int) (A A2 : Option Addr) (nb c np c2 : Nat) (w : World) (h : PsM w L pp vF uF vG uG vD uD fs gs ds) (hl : ds[ds.length - 1]? = some l) (hmx : ds.length ≤ 999999999999) (hlm : l.length ≤ 999999999999) (f : Nat) (vs : List (List UInt8)) (now : List UInt8) (hld : leadP nm l = some f) (hv : fs[f]? = some vs) (hn : vs[vs.length - 1]? = some now) (hfm : f ≤ 999999999999) (hvm : vs.length ≤ 999999999999) :
    Calls Try.prog 28 #[.pointer (some ⟨pp, 0, none⟩), .agg #[.int .i64 6, .string nm, .string nt, .int .i64 x, .int .i64 y, .slice A nb c, .slice A2 np c2]] w fun e w' => e = .returned (.bool true) ∧ Noted w w' L pp fs gs (ds ++ [leftP nt (leftP nm l) ++ [(nt, f)]]) := by
  have HX := Lib.hid (Box.new w 44 #[.int .i64 6, .string nm, .string nt, .int .i64 x, .int .i64 y, .slice A nb c, .slice A2 np c2])
  have HB := Lib.hid (Below.al w (.cells #[.int .i64 6, .string nm, .string nt, .int .i64 x, .int .i64 y, .slice A nb c, .slice A2 np c2] 44))
  have H := Lib.hid (h.next (Below.al w (.cells #[.int .i64 6, .string nm, .string nt, .int .i64 x, .int .i64 y, .slice A nb c, .slice A2 np c2] 44)))
  have HL := Lib.hid h.lt
  clear h
  obtain ⟨i1, hi1, hz1, hs1, hy1⟩ := info_parts info_nms
  obtain ⟨j1, hj1, kz1, ks1, ky1⟩ := info_parts info_name
  go_enter Try.func28, Try.ntmps28
  go_upto_region 16 with (first
    | (go_at_call 58
       obtain ⟨D, cD, hvD, hcD, hrD⟩ := H.out.rdD
       rw [hvD] at hcD
       refine (lead_any pp D ds.length cD ds l nm _ hcD hrD hl (by have := (List.getElem?_eq_some_iff.1 hl).1; omega) hmx hlm).mono ?_
       rintro e wl ⟨rfl, kl, hwl⟩
       rw [show leadV nm l = ((f : Nat) : Int) from leadV_some hld]
       have hbl : Below (w.alloc (.cells #[.int .i64 6, .string nm, .string nt, .int .i64 x, .int .i64 y, .slice A nb c, .slice A2 np c2] 44)).heap.size (w.alloc (.cells #[.int .i64 6, .string nm, .string nt, .int .i64 x, .int .i64 y, .slice A nb c, .slice A2 np c2] 44)) wl := by rw [hwl]; exact below_drewN (Below.refl _ _) kl
       have hbw : Below w.heap.size w wl := HB.out.trans (hbl.mono (by simp))
       have HX2 := Lib.hid (show Box wl w.heap.size 44 #[.int .i64 6, .string nm, .string nt, .int .i64 x, .int .i64 y, .slice A nb c, .slice A2 np c2] from by rw [hwl]; exact HX.out)
       have H2 := Lib.hid (And.intro (H.out.next hbl) hbw)
       have hxc := HX2.out.cell
       clear hvD hcD hrD hwl hbl hbw))
  obtain ⟨gF, nF, cF, gu, m, j, cu, us, xn, cn, rfl, hnF, hfn, hLF, huf, hvm2, hmj, hVU, hus, hc0, hcf, hcj, hro, hlb, hfr⟩ := H2.out.1.now_ hv hn
  have HU := Lib.hid (And.intro hnF (And.intro hLF (And.intro huf (And.intro hvm2 (And.intro hmj (And.intro hVU (And.intro hus (And.intro hro hlb))))))))
  rw [hvm2] at hvm
  have hf0 : (0 : Int) ≤ f := by omega
  have hf1 : (f : Int) < nF := by omega
  have hii : (m : Int) - 1 = (j : Int) := by omega
  have hi0 : (0 : Int) ≤ j := by omega
  have hi1 : (j : Int) < m := by omega
  have hwr : IntKind.i64.wrap ((m : Int) - 1) = (j : Int) := by rw [hii]; exact IntWalk.i64_in _ (by omega)
  have hwi : IntKind.i64.wrap (j : Int) = (j : Int) := IntWalk.i64_in _ (by omega)
  clear hnF hLF huf hvm2 hmj hVU hus hro hlb
  go_quiet (fail)
  generalize hw2 : wl.drewN _ = w2
  have hb2 : Below wl.heap.size wl w2 := by rw [← hw2]; exact below_drewN (Below.refl _ _) _
  have HX3 := Lib.hid (HX2.out.next hb2)
  have H3 := Lib.hid (And.intro (H2.out.1.next hb2) (And.intro (H2.out.2.trans (hb2.mono H2.out.2.size)) (And.intro (HU.out.2.2.2.2.2.1.keep (by omega) hb2 (fun _ _ => rfl)) (And.intro (show w2.ownsRow 0 5 1 (.slice xn now.length cn) now.length (bv now) from row_block HU.out.2.2.2.2.2.2.2.1 fun k hk => hb2.block k (HU.out.2.2.2.2.2.2.2.1.lt k hk).2) (cell_kept hc0 hb2)))))
  have hd0 := cell_kept hc0 hb2
  have hdf := cell_kept hcf hb2
  have hdr : w2.frozen? ⟨gF, f, none⟩ = false := by rw [← hw2]; exact hfr
  have hxd := HX3.out.cell
  clear hc0 hcf hcj hfr hw2 hb2 hxc hii hwr hwi hi0 hi1
  clear hd0 hdf hdr
  have hPz := H3.out.1
  obtain ⟨gD, cD2, rfl, hLD, hc2, hRD⟩ := hPz.dirs_ (by have := (List.getElem?_eq_some_iff.1 hl).1; omega)
  obtain ⟨n, hn⟩ : ∃ n, ds.length = n := ⟨_, rfl⟩
  rw [hn] at hPz hc2
  have hnm := hn ▸ hmx
  have hc1 : w2.cell? ⟨w.heap.size, 2, none⟩ = some (.string nt) := hxd 2
  have hlp := hPz.lp
  have hl0 : L w.heap.size = 0 := Classical.byContradiction fun e => absurd (HL.out _ e) (Nat.lt_irrefl _)
  have hne1 : some pp ≠ (Value.slice (some ⟨gD, 0, none⟩) n cD2).ownBlock := fun e => by have := hPz.D.l _ e.symm; omega
  have hne2 : some w.heap.size ≠ (Value.slice (some ⟨gD, 0, none⟩) n cD2).ownBlock := fun e => by have := hPz.D.l _ e.symm; omega
  have HC := Lib.hid (And.intro hc2 hc1)
  have HN := Lib.hid (And.intro hne1 hne2)
  have HZ := Lib.hid (And.intro H3.out.2.1 (And.intro hPz (And.intro hRD (And.intro hn (And.intro hnm True.intro)))))
  clear hPz hLD hc2 hRD hn hnm hc1 hlp hl0 hne1 hne2
  go_upto_region 31 with (first
    | (go_at_call 59
       refine (left_any pp (some ⟨gD, 0, none⟩) n cD2 ds l nm w2 HC.out.1 HZ.out.2.2.1 (by rw [← HZ.out.2.2.2.1]; exact hl) (by have := (List.getElem?_eq_some_iff.1 hl).1; have := HZ.out.2.2.2.1; omega) HZ.out.2.2.2.2.1 hlm).mono ?_
       rintro e wl2 ⟨b4, c4, rfl, hr4, hb4⟩
       obtain ⟨q4, hq4⟩ : ∃ q4, (leftP nm l).length = q4 := ⟨_, rfl⟩
       have hrn := rdN_own hr4
       rw [hq4]
       have hq5 : q4 ≤ 999999999999 := by rw [← hq4]; exact Nat.le_trans (List.length_filter_le _ _) hlm
       have H5 := Lib.hid (And.intro hb4 (And.intro hrn hq4))
       clear hr4 hb4 hrn hq4))
  clear hxd
  go_wp2
  go_loopw [8, 9] (fun v8 v9 wr => ∃ k : Nat, k ≤ q4 ∧ v9 = .int .i64 k ∧ wr.ownsRow wl2.heap.size 113 2 v8 (leftP nt ((leftP nm l).take k)).length ((leftP nt ((leftP nm l).take k)).flatMap ncell) ∧ Below wl2.heap.size wl2 wr) (fun _ v9 _ => q4 - (intOf v9).toNat)
  case atStart => exact ⟨0, Nat.zero_le _, rfl, nil_own _ _ _ _, Below.refl _ _⟩
  case round =>
    obtain ⟨k, hk, rfl, hr, hb⟩ := hrel
    obtain ⟨rb, rc, rfl⟩ := row_slice hr
    have hkl2 := leftP_len nt (leftP nm l) k
    obtain ⟨g, hg⟩ : ∃ g, (leftP nt ((leftP nm l).take k)).length = g := ⟨_, rfl⟩
    rw [hg] at hr hkl2 ⊢
    have hbr : Below w2.heap.size w2 wr := H5.out.1.trans (hb.mono H5.out.1.size)
    by_cases hlt : k < q4
    · have hk0 : (0 : Int) ≤ k := by omega
      have hk1 : (k : Int) < q4 := by omega
      obtain ⟨p, hp⟩ : ∃ p, (leftP nm l)[k]? = some p := ⟨_, List.getElem?_eq_getElem (by rw [H5.out.2.2]; exact hlt)⟩
      obtain ⟨a2, rfl, _, d0, d1⟩ := (H5.out.2.1.below hb) k p hp
      have hx2 := cell_kept HC.out.2 hbr
      have hsz := hbr.size
      have HR := Lib.hid (And.intro hr (And.intro hb (And.intro hg (leftP_take (n := nt) hp))))
      clear hp hr hb hg hbr
      go_upto_region 35 with fail
      by_cases hx : p.1 = nt
      · have hself : (p.1.toList == nt.toList) = true := by rw [hx]; simp
        have HX := Lib.hid hx
        clear hx
        go_quiet (fail)
        generalize hw9 : wr.drewN _ = w9
        have HW := Lib.hid hw9
        clear hw9
        go_wp2
        go_roundw
        case rel =>
          refine ⟨k + 1, by omega, by go_num, ?_, by rw [← HW.out]; exact below_drewN HR.out.2.1 _⟩
          rw [HR.out.2.2.2, if_pos HX.out, HR.out.2.2.1, ← HW.out]
          exact HR.out.1
        case measure => simp [intOf]; omega
      · have hne := key_ne hx
        have HX := Lib.hid hx
        clear hx
        go_quiet (fail)
        generalize hw9 : wr.drewN _ = w9
        have hrow9 : w9.ownsRow wl2.heap.size 113 2 (.slice rb g rc) g ((leftP nt ((leftP nm l).take k)).flatMap ncell) := by rw [← hw9]; exact HR.out.1
        have hb9 : Below wl2.heap.size wl2 w9 := by rw [← hw9]; exact below_drewN HR.out.2.1 _
        have e0 : w9.cell? (a2.add (k * 2)) = some (.string p.1) := by rw [← hw9]; exact d0
        have e1 : w9.cell? ⟨(a2.add (k * 2)).block, (a2.add (k * 2)).off + 1, none⟩ = some (.int .i64 (p.2 : Nat)) := by rw [← hw9]; exact d1
        have hs9 : wl2.heap.size ≤ w9.heap.size := hb9.size
        have H9 := Lib.hid (And.intro hrow9 (And.intro hb9 hs9))
        clear hw9 hrow9 hb9 hs9 d0 d1 hsz hx2
        go_wp2_with (first
          | (at_builtin
             refine wpList_app _ rfl (.tmp 231) (.tmp 236) _ rfl wl2.heap.size 113 j1 _ 2 24 Try.underlying108 hj1 kz1 ks1 ky1 rfl (by omega) (.slice rb g rc) g _ rfl (H9.out.1.alloc _) _ _ 1 1 [.string p.1, .int .i64 (p.2 : Nat)] rfl rfl (rd_new _ _ _) (by simp [Value.oneCell']) (by unfold maxLen; omega) (by omega) (by have := H9.out.2.2; simp <;> omega) ?_
             intro v' w8 hown hg8 _
             have hb8 := (H9.out.2.1.alloc H9.out.2.1.size (.cells #[.string p.1, .int .i64 (p.2 : Nat)] 113)).grown hg8 (by have := H9.out.2.1.size; simp <;> omega) (fun j e => (H9.out.1.lt j e).1)
             have H8 := Lib.hid (And.intro hown hb8)
             clear hown hg8 hb8))
        go_roundw
        case rel =>
          refine ⟨k + 1, by omega, by go_num, ?_, H8.out.2⟩
          rw [HR.out.2.2.2, if_neg HX.out, List.length_append, HR.out.2.2.1, List.flatMap_append]
          exact H8.out.1
        case measure => simp [intOf]; omega
    · have hkm : q4 = k := by omega
      subst hkm
      have hlk : (leftP nm l).take q4 = leftP nm l := by rw [← H5.out.2.2]; exact List.take_length
      rw [hlk] at hr hg
      have hx2 := cell_kept HC.out.2 hbr
      have HR := Lib.hid (And.intro hr (And.intro hb (And.intro hg hbr)))
      clear hr hb hg hlk hbr
      go_upto_region 37 with fail
      obtain ⟨wz, hwz⟩ : ∃ wz, wr.drew = wz := ⟨_, rfl⟩
      have hbz : Below w2.heap.size w2 wz := by rw [← hwz]; exact below_drew HR.out.2.2.2
      have hS0 : wz.cell? ⟨pp, 2, none⟩ = some (.slice (some ⟨gD, 0, none⟩) n cD2) ∧ wz.cell? ⟨w.heap.size, 2, none⟩ = some (.string nt) := ⟨cell_kept HC.out.1 hbz, cell_kept HC.out.2 hbz⟩
      have hrz : wz.ownsRow w2.heap.size 113 2 (.slice rb g rc) g ((leftP nt (leftP nm l)).flatMap ncell) := by rw [← hwz]; exact row_le HR.out.1 H5.out.1.size
      have HZ2 := Lib.hid (And.intro hbz (And.intro hrz hS0))
      clear hbz hrz hx2
      refine WT.start (fun w' : World => w'.cell? ⟨pp, 2, none⟩ = some (.slice (some ⟨gD, 0, none⟩) n cD2) ∧ w'.cell? ⟨w.heap.size, 2, none⟩ = some (.string nt)) 16 (by kernel_rfl) ?_
      rw [hwz]
      clear hwz
      refine WT.take 0 (v := ?_) rfl (by kernel_rfl) (by kernel_rfl) (by kernel_rfl) (by kernel_rfl) (fun _ _ _ h => h) (Or.inl ⟨by rfl, ?hy⟩) hS0 ?_
      case hy => first | (intro w hSw; go_simp; done) | (intro w hSw; go_simp; with_reducible rfl)
      simp only [Act.put, List.setIfInBounds_toArray, List.set_cons_zero, List.set_cons_succ]
      refine WT.take 1 (v := ?_) rfl (by kernel_rfl) (by kernel_rfl) (by kernel_rfl) (by kernel_rfl) (fun _ _ _ h => h) (Or.inl ⟨by rfl, ?hy⟩) hS0 ?_
      case hy => first | (intro w hSw; go_simp; done) | (intro w hSw; go_simp; with_reducible rfl)
      simp only [Act.put, List.setIfInBounds_toArray, List.set_cons_zero, List.set_cons_succ]
      refine WT.take 2 (v := ?_) rfl (by kernel_rfl) (by kernel_rfl) (by kernel_rfl) (by kernel_rfl) (fun _ _ _ h => h) (Or.inl ⟨by rfl, ?hy⟩) hS0 ?_
      case hy => first | (intro w hSw; go_simp; done) | (intro w hSw; go_simp; with_reducible rfl)
      simp only [Act.put, List.setIfInBounds_toArray, List.set_cons_zero, List.set_cons_succ]
      refine WT.take 3 (v := ?_) rfl (by kernel_rfl) (by kernel_rfl) (by kernel_rfl) (by kernel_rfl) (fun _ _ _ h => h) (Or.inl ⟨by rfl, ?hy⟩) hS0 ?_
      case hy => first | (intro w hSw; go_simp; done) | (intro w hSw; go_simp; with_reducible rfl)
      simp only [Act.put, List.setIfInBounds_toArray, List.set_cons_zero, List.set_cons_succ]
      refine WT.take 4 (v := ?_) rfl (by kernel_rfl) (by kernel_rfl) (by kernel_rfl) (by kernel_rfl) (fun _ _ _ h => h) (Or.inl ⟨by rfl, ?hy⟩) hS0 ?_
      case hy => first | (intro w hSw; go_simp; done) | (intro w hSw; go_simp; with_reducible rfl)
      simp only [Act.put, List.setIfInBounds_toArray, List.set_cons_zero, List.set_cons_succ]
      refine WT.take 5 (v := ?_) rfl (by kernel_rfl) (by kernel_rfl) (by kernel_rfl) (by kernel_rfl) (fun _ _ _ h => h) (Or.inl ⟨by rfl, ?hy⟩) hS0 ?_
      case hy => first | (intro w hSw; go_simp; done) | (intro w hSw; go_simp; with_reducible rfl)
      simp only [Act.put, List.setIfInBounds_toArray, List.set_cons_zero, List.set_cons_succ]
      refine WT.take 6 (v := ?_) rfl (by kernel_rfl) (by kernel_rfl) (by kernel_rfl) (by kernel_rfl) (fun _ _ _ h => h) (Or.inl ⟨by rfl, ?hy⟩) hS0 ?_
      case hy => first | (intro w hSw; go_simp; done) | (intro w hSw; go_simp; with_reducible rfl)
      simp only [Act.put, List.setIfInBounds_toArray, List.set_cons_zero, List.set_cons_succ]
      refine WT.take 7 (v := ?_) rfl (by kernel_rfl) (by kernel_rfl) (by kernel_rfl) (by kernel_rfl) (fun _ _ _ h => h) (Or.inl ⟨by rfl, ?hy⟩) hS0 ?_
      case hy => first | (intro w hSw; go_simp; done) | (intro w hSw; go_simp; with_reducible rfl)
      simp only [Act.put, List.setIfInBounds_toArray, List.set_cons_zero, List.set_cons_succ]
      refine WT.take 8 (v := ?_) rfl (by kernel_rfl) (by kernel_rfl) (by kernel_rfl) (by kernel_rfl) (fun _ _ _ h => h) (Or.inl ⟨by rfl, ?hy⟩) hS0 ?_
      case hy => first | (intro w hSw; go_simp; done) | (intro w hSw; go_simp; with_reducible rfl)
      simp only [Act.put, List.setIfInBounds_toArray, List.set_cons_zero, List.set_cons_succ]
      refine WT.take 9 (v := ?_) rfl (by kernel_rfl) (by kernel_rfl) (by kernel_rfl) (by kernel_rfl) (fun _ _ _ h => h) (Or.inl ⟨by rfl, ?hy⟩) hS0 ?_
      case hy => first | (intro w hSw; go_simp; done) | (intro w hSw; go_simp; with_reducible rfl)
      simp only [Act.put, List.setIfInBounds_toArray, List.set_cons_zero, List.set_cons_succ]
      refine WT.step 10 rfl (by kernel_rfl) (by decide) fun K hK => ?_
      go_simp
      have hS3 := And.intro (cell_al HZ2.out.2.2.1 (.cells #[.string nt, .int .i64 (f : Nat)] 113)) (cell_al HZ2.out.2.2.2 (.cells #[.string nt, .int .i64 (f : Nat)] 113))
      clear hS0
      refine hK.out _ _ hS3 ?_
      clear hK K
      refine WT.step 11 rfl (by kernel_rfl) (by decide) fun K hK => ?_
      refine step_app _ (by rfl) (.tmp 243) (.tmp 248) 108 (by rfl) w2.heap.size 113 j1 _ 2 24 Try.underlying108 hj1 kz1 ks1 ky1 rfl (by omega) (.slice rb g rc) g _ (by rfl) (HZ2.out.2.1.alloc _) (wz.heap.size + 1) (some ⟨wz.heap.size, 0, none⟩) 1 1 [.string nt, .int .i64 (f : Nat)] (by rfl) (by rfl) (rd_new _ _ _) (by simp [Value.oneCell']) (by unfold maxLen; omega) (by omega) (by have := HZ2.out.1.size; simp <;> omega) ?_
      intro v5 w5 hown5 hg5 _
      obtain ⟨b5, c5, hv5⟩ := row_slice hown5
      subst hv5
      have hb5 : Below w2.heap.size w2 w5 := (HZ2.out.1.alloc HZ2.out.1.size (.cells #[.string nt, .int .i64 (f : Nat)] 113)).grown hg5 (by have := HZ2.out.1.size; simp <;> omega) (fun j e => (HZ2.out.2.1.lt j e).1)
      have hS4 := And.intro (cell_kept HC.out.1 hb5) (cell_kept HC.out.2 hb5)
      have H4 := Lib.hid (And.intro hb5 (And.intro (show w5.ownsRow w2.heap.size 113 2 (.slice b5 (g + 1) c5) (g + 1) ((leftP nt (leftP nm l) ++ [(nt, f)]).flatMap ncell) by rw [List.flatMap_append]; exact hown5) (show (leftP nt (leftP nm l) ++ [(nt, f)]).length = g + 1 by rw [List.length_append, HR.out.2.2.1]; rfl)))
      clear hS3 hown5 hg5 hb5
      go_simp
      refine hK.out _ _ hS4 ?_
      clear hK K
      refine WT.step 12 rfl (by kernel_rfl) (by decide) fun K hK => ?_
      go_simp
      have hS6 := And.intro (cell_al hS4.1 (.cells #[.slice b5 (g + 1) c5] 108)) (cell_al hS4.2 (.cells #[.slice b5 (g + 1) c5] 108))
      clear hS4
      refine hK.out _ _ hS6 ?_
      clear hK K
      refine WT.step 13 rfl (by kernel_rfl) (by decide) fun K hK => ?_
      refine step_app _ (by rfl) (.tmp 242) (.tmp 250) 102 (by rfl) 0 108 i1 _ 1 24 Try.underlying102 hi1 hz1 hs1 hy1 rfl (by omega) (.slice (some ⟨gD, 0, none⟩) n cD2) n uD (by rfl) (by have := (HZ.out.2.1.next (H4.out.1.trans ((Below.al w5 (.cells #[.slice b5 (g + 1) c5] 108)).mono H4.out.1.size))).D.r; rw [HZ.out.2.2.2.1] at this; exact this) (w5.heap.size + 1) (some ⟨w5.heap.size, 0, none⟩) 1 1 [.slice b5 (g + 1) c5] (by rfl) (by rfl) (rd_new _ _ _) (by simp [Value.oneCell']) (by have := HZ.out.2.2.2.2.1; unfold maxLen; omega) (by have := HZ.out.2.2.2.2.1; omega) (Nat.zero_le _) ?_
      intro v7 w7 hown7 hg7 hor7
      obtain ⟨b7, c7, hv7⟩ := row_slice hown7
      subst hv7
      have hb6 : Below w2.heap.size w2 (w5.alloc (.cells #[.slice b5 (g + 1) c5] 108)) := H4.out.1.trans ((Below.al w5 _).mono H4.out.1.size)
      have hS7 := And.intro (cell_grow HC.out.1 hb6 hg7 HN.out.1) (cell_grow HC.out.2 hb6 hg7 HN.out.2)
      have hfz : w7.frozen? ⟨pp, 2, none⟩ = false := ((HZ.out.2.1.box.below hb6 HZ.out.2.1.box.lt).grown hg7 HN.out.1).free 2
      have H7 := Lib.hid (HZ.out.2.1.growD (m := leftP nt (leftP nm l) ++ [(nt, f)]) H4.out.1 (by rw [H4.out.2.2]; exact H4.out.2.1) (by rw [HZ.out.2.2.2.1]; exact hown7) hg7 hor7)
      clear hS6 hown7 hg7 hor7 hb6
      go_simp
      refine hK.out _ _ hS7 ?_
      clear hK K
      refine WT.step 14 rfl (by kernel_rfl) (by decide) fun K hK => ?_
      go_simp
      refine hK.out _ _ hS7 ?_
      clear hK K
      refine WT.take 15 (v := ?_) rfl (by kernel_rfl) (by kernel_rfl) (by kernel_rfl) (by kernel_rfl) (fun _ _ _ h => h) (Or.inl ⟨by rfl, ?hy⟩) hS7 ?_
      case hy => first | (intro w hSw; go_simp; done) | (intro w hSw; go_simp; with_reducible rfl)
      simp only [Act.put, List.setIfInBounds_toArray, List.set_cons_zero, List.set_cons_succ]
      refine WT.last 16 rfl (by kernel_rfl) rfl fun K hK => ?_
      go_simp
      refine hK.out _ _ ?_
      clear hK K
      refine WT.done (by kernel_rfl) ?_
      have hdo := hS7.1
      go_wp2_with fail
      go_ret
      obtain ⟨L7, q1, q2⟩ := H7.out
      exact ⟨rfl, L7, ⟨_, _, _, _, _, _, q1⟩, (Ex.below HZ.out.1 L).trans q2⟩
end Go.Proofs.Ytomkieennkobcaa
/- SimfsPast: a file that is made: its rows. -/
namespace Go.Proofs.Ytomkieennkobcaa
open Go.RowKit Go.Maps

theorem rd_new2 (w : World) (o : Obj) (ar : Array Value) (t : TypeId) : Rd ((w.alloc o).alloc (.cells ar t)) (w.heap.size + 1 + 1) (some ⟨w.heap.size + 1, 0, none⟩) ar.toList := by
  have h := rd_new (w.alloc o) ar t
  rw [show (w.alloc o).heap.size = w.heap.size + 1 from by simp] at h
  exact h
section
variable {w w' wz w4 w7 : World} {L L' : Nat → Nat} {pp n g c : Nat} {v4 v7 vF vG vD : Value} {uF uG uD : List Value} {fs : VS} {gs : GS} {ds : List (List KE)} {l m : List KE}
theorem PsM.createF (h : PsM w L pp vF uF vG uG vD uD fs gs ds) (hr7 : w7.ownsRow 0 110 1 v7 (fs.length + 1) (uF ++ [.slice (some ⟨w.heap.size, 0, none⟩) 1 1]))
    (hg : ((w.alloc (.cells #[.slice none 0 0] 22)).alloc (.cells #[.slice (some ⟨w.heap.size, 0, none⟩) 1 1] 110)).grownBy w7 vF.ownBlock) (hor : v7.ownBlock = vF.ownBlock ∨ v7.ownBlock = some ((w.alloc (.cells #[.slice none 0 0] 22)).alloc (.cells #[.slice (some ⟨w.heap.size, 0, none⟩) 1 1] 110)).heap.size) :
    ∃ L', PsM (w7.setCell ⟨pp, 0, none⟩ v7) L' pp v7 (uF ++ [.slice (some ⟨w.heap.size, 0, none⟩) 1 1]) vG uG vD uD (fs ++ [[[]]]) gs ds ∧ Ex w (w7.setCell ⟨pp, 0, none⟩ v7) L L' := by
  have hR := own_one w 22 (.slice none 0 0)
  obtain ⟨h4, hx4, e4⟩ := h.fresh (a := 8 + 2 * fs.length) (x := .slice (some ⟨w.heap.size, 0, none⟩) 1 1) (Below.al w (.cells #[.slice none 0 0] 22)) (fun b hb => hR.lt b hb) (by omega)
  have ha := Below.al (w.alloc (.cells #[.slice none 0 0] 22)) (.cells #[.slice (some ⟨w.heap.size, 0, none⟩) 1 1] 110)
  have h5 := h4.next ha
  have hR5 := hR.alloc (.cells #[.slice (some ⟨w.heap.size, 0, none⟩) 1 1] 110)
  have hW : Where ((w.alloc (.cells #[.slice none 0 0] 22)).alloc (.cells #[.slice (some ⟨w.heap.size, 0, none⟩) 1 1] 110)) (relab L (.slice (some ⟨w.heap.size, 0, none⟩) 1 1) (8 + 2 * fs.length)) v7 2 := fun b hb => by
    rcases hor with e | e
    · exact .inl (h5.F.l b (e ▸ hb))
    · rw [e] at hb
      injection hb with hb
      exact .inr (by omega)
  obtain ⟨t1, t2⟩ := h5.turnF (fs' := fs ++ [[[]]]) (uF' := uF ++ [.slice (some ⟨w.heap.size, 0, none⟩) 1 1]) ((Chg.refl _ _).grown hg fun k hk => .inl hk) (by rw [List.length_append]; exact hr7) hW fun j l' u hj hu => by
    have hus : uF.length = fs.length := by have := h.F.r.1; simpa using this
    rcases Nat.lt_trichotomy j fs.length with hl | hl | hl
    · rw [List.getElem?_append_left hl] at hj
      rw [List.getElem?_append_left (by omega)] at hu
      exact h5.F.f j l' u hj hu
    · subst hl
      rw [List.getElem?_append_right (Nat.le_refl _), Nat.sub_self] at hj
      rw [List.getElem?_append_right (by omega), hus, Nat.sub_self] at hu
      simp at hj hu
      subst hj hu
      refine ⟨[.slice none 0 0], row_zero hR5, hx4, fun i x v hx hv => ?_⟩
      cases i with
      | zero =>
        simp at hx hv
        subst hx hv
        exact ⟨nil_own _ _ _ _, fun b hb => by simp [Value.ownBlock] at hb⟩
      | succ i => simp at hx
    · rw [List.getElem?_eq_none (by simp; omega)] at hj
      cases hj
  exact ⟨_, t1, (e4.trans (Ex.below ha _)).trans t2⟩
theorem PsM.createG (h : PsM w L pp vF uF vG uG vD uD fs gs ds) (hr7 : w7.ownsRow 0 23 1 v7 (gs.length + 1) (uG ++ [.slice (some ⟨w.heap.size, 0, none⟩) 1 1]))
    (hg : ((w.alloc (.cells #[.int .i64 (-1)] 3)).alloc (.cells #[.slice (some ⟨w.heap.size, 0, none⟩) 1 1] 23)).grownBy w7 vG.ownBlock) (hor : v7.ownBlock = vG.ownBlock ∨ v7.ownBlock = some ((w.alloc (.cells #[.int .i64 (-1)] 3)).alloc (.cells #[.slice (some ⟨w.heap.size, 0, none⟩) 1 1] 23)).heap.size) :
    ∃ L', PsM (w7.setCell ⟨pp, 1, none⟩ v7) L' pp vF uF v7 (uG ++ [.slice (some ⟨w.heap.size, 0, none⟩) 1 1]) vD uD fs (gs ++ [[-1]]) ds ∧ Ex w (w7.setCell ⟨pp, 1, none⟩ v7) L L' := by
  have hR := own_one w 3 (.int .i64 (-1))
  obtain ⟨h4, hx4, e4⟩ := h.fresh (a := 9 + 2 * gs.length) (x := .slice (some ⟨w.heap.size, 0, none⟩) 1 1) (Below.al w (.cells #[.int .i64 (-1)] 3)) (fun b hb => hR.lt b hb) (by omega)
  have ha := Below.al (w.alloc (.cells #[.int .i64 (-1)] 3)) (.cells #[.slice (some ⟨w.heap.size, 0, none⟩) 1 1] 23)
  have h5 := h4.next ha
  have hR5 := hR.alloc (.cells #[.slice (some ⟨w.heap.size, 0, none⟩) 1 1] 23)
  have hW : Where ((w.alloc (.cells #[.int .i64 (-1)] 3)).alloc (.cells #[.slice (some ⟨w.heap.size, 0, none⟩) 1 1] 23)) (relab L (.slice (some ⟨w.heap.size, 0, none⟩) 1 1) (9 + 2 * gs.length)) v7 3 := fun b hb => by
    rcases hor with e | e
    · exact .inl (h5.G.l b (e ▸ hb))
    · rw [e] at hb
      injection hb with hb
      exact .inr (by omega)
  obtain ⟨t1, t2⟩ := h5.turnG (gs' := gs ++ [[-1]]) (uG' := uG ++ [.slice (some ⟨w.heap.size, 0, none⟩) 1 1]) ((Chg.refl _ _).grown hg fun k hk => .inl hk) (by rw [List.length_append]; exact hr7) hW fun j l' u hj hu => by
    have hus : uG.length = gs.length := by have := h.G.r.1; simpa using this
    rcases Nat.lt_trichotomy j gs.length with hl | hl | hl
    · rw [List.getElem?_append_left hl] at hj
      rw [List.getElem?_append_left (by omega)] at hu
      exact h5.G.f j l' u hj hu
    · subst hl
      rw [List.getElem?_append_right (Nat.le_refl _), Nat.sub_self] at hj
      rw [List.getElem?_append_right (by omega), hus, Nat.sub_self] at hu
      simp at hj hu
      subst hj hu
      exact ⟨row_zero hR5, hx4⟩
    · rw [List.getElem?_eq_none (by simp; omega)] at hj
      cases hj
  exact ⟨_, t1, (e4.trans (Ex.below ha _)).trans t2⟩
end
end Go.Proofs.Ytomkieennkobcaa
/- SimfsPast: note: what is written down of a new file. -/
namespace Go.Proofs.Ytomkieennkobcaa
open Go.RowKit Go.Maps

set_option maxRecDepth 100000 in
set_option maxHeartbeats 8000000 in
theorem note1_any (pp : Nat) (L : Nat → Nat) (vF vG vD : Value) (uF uG uD : List Value) (fs : VS) (gs : GS) (ds : List (List KE)) (l : List KE) (nm nt : ByteArray) (x y : Int) (A A2 : Option Addr) (nb c np c2 : Nat) (w : World) (h : PsM w L pp vF uF vG uG vD uD fs gs ds) (hl : ds[ds.length - 1]? = some l) (hmx : ds.length ≤ 999999999999) (hlm : l.length ≤ 999999999999) (hld : leadP nm l = none) (hfm : fs.length ≤ 999999999998) (hgm : gs.length ≤ 999999999998) :
    Calls Try.prog 28 #[.pointer (some ⟨pp, 0, none⟩), .agg #[.int .i64 1, .string nm, .string nt, .int .i64 x, .int .i64 y, .slice A nb c, .slice A2 np c2]] w fun e w' => e = .returned (.bool true) ∧ Noted w w' L pp (fs ++ [[[]]]) (gs ++ [[-1]]) (ds ++ [leftP ByteArray.empty l ++ [(nm, fs.length)]]) := by
  have HX := Lib.hid (Box.new w 44 #[.int .i64 1, .string nm, .string nt, .int .i64 x, .int .i64 y, .slice A nb c, .slice A2 np c2])
  have HB := Lib.hid (Below.al w (.cells #[.int .i64 1, .string nm, .string nt, .int .i64 x, .int .i64 y, .slice A nb c, .slice A2 np c2] 44))
  have H := Lib.hid (h.next (Below.al w (.cells #[.int .i64 1, .string nm, .string nt, .int .i64 x, .int .i64 y, .slice A nb c, .slice A2 np c2] 44)))
  have HL := Lib.hid h.lt
  clear h
  obtain ⟨i1, hi1, hz1, hs1, hy1⟩ := info_parts info_nms
  obtain ⟨j1, hj1, kz1, ks1, ky1⟩ := info_parts info_name
  obtain ⟨k1, hk1, lz1, ls1, ly1⟩ := info_parts info_bss
  obtain ⟨o1, ho1, oz1, os1, oy1⟩ := info_parts info_ints
  go_enter Try.func28, Try.ntmps28
  go_upto_region 7 with (first
    | (go_at_call 58
       obtain ⟨D, cD, hvD, hcD, hrD⟩ := H.out.rdD
       rw [hvD] at hcD
       refine (lead_any pp D ds.length cD ds l nm _ hcD hrD hl (by have := (List.getElem?_eq_some_iff.1 hl).1; omega) hmx hlm).mono ?_
       rintro e wl ⟨rfl, kl, hwl⟩
       rw [show leadV nm l = (-1) from leadV_none hld]
       have hbl : Below (w.alloc (.cells #[.int .i64 1, .string nm, .string nt, .int .i64 x, .int .i64 y, .slice A nb c, .slice A2 np c2] 44)).heap.size (w.alloc (.cells #[.int .i64 1, .string nm, .string nt, .int .i64 x, .int .i64 y, .slice A nb c, .slice A2 np c2] 44)) wl := by rw [hwl]; exact below_drewN (Below.refl _ _) kl
       have hbw : Below w.heap.size w wl := HB.out.trans (hbl.mono (by simp))
       have HX2 := Lib.hid (show Box wl w.heap.size 44 #[.int .i64 1, .string nm, .string nt, .int .i64 x, .int .i64 y, .slice A nb c, .slice A2 np c2] from by rw [hwl]; exact HX.out)
       have H2 := Lib.hid (And.intro (H.out.next hbl) hbw)
       have hxc := HX2.out.cell
       clear hvD hcD hrD hwl hbl hbw))
  obtain ⟨vfb, cF, hvF⟩ := row_slice H2.out.1.F.r
  subst hvF
  obtain ⟨vgb, cG, hvG⟩ := row_slice H2.out.1.G.r
  subst hvG
  obtain ⟨nF, hnF⟩ : ∃ nF, fs.length = nF := ⟨_, rfl⟩
  obtain ⟨nG, hnG⟩ : ∃ nG, gs.length = nG := ⟨_, rfl⟩
  rw [hnF] at hfm H2
  rw [hnG] at hgm H2
  have hc0 := H2.out.1.box.cell 0
  have hcf0 : ∀ o1 o2 : Obj, ((wl.alloc o1).alloc o2).cell? ⟨pp, 0, none⟩ = some (.slice vfb nF cF) := fun o1 o2 => cell_al (cell_al hc0 o1) o2
  have HNF := Lib.hid (And.intro hnF hnG)
  clear hnF hnG
  go_cut [4] (fun s4 wy => s4 = .bool false ∧ ∃ L' b7 c7 uF', PsM wy L' pp (.slice b7 (nF + 1) c7) uF' (.slice vgb nG cG) uG vD uD (fs ++ [[[]]]) gs ds ∧ Ex wl wy L L')
  case first =>
    go_wp2_with (first
      | (at_builtin
         refine wpList_app _ rfl (.tmp 26) (.tmp 28) _ rfl 0 110 k1 _ 1 24 Try.underlying103 hk1 lz1 ls1 ly1 rfl (by omega) (.slice vfb nF cF) nF uF rfl (by have := (H2.out.1.next ((Below.al wl (.cells #[.slice none 0 0] 22)).trans ((Below.al _ (.cells #[.slice (some ⟨wl.heap.size, 0, none⟩) 1 1] 110)).mono (by simp)))).F.r; rw [HNF.out.1] at this; exact this) _ _ 1 1 [.slice (some ⟨wl.heap.size, 0, none⟩) 1 1] rfl rfl (rd_new2 _ _ _ _) (by simp [Value.oneCell']) (by unfold maxLen; omega) (by omega) (Nat.zero_le _) ?_
         intro v7 w7 hown7 hg7 hor7
         obtain ⟨b7, c7, hv7⟩ := row_slice hown7
         subst hv7
         have hcp : w7.cell? ⟨pp, 0, none⟩ = some (.slice vfb nF cF) := cell_grow hc0 ((Below.al wl (.cells #[.slice none 0 0] 22)).trans ((Below.al _ (.cells #[.slice (some ⟨wl.heap.size, 0, none⟩) 1 1] 110)).mono (by simp))) hg7 (fun e => by have h1 := H2.out.1.F.l pp e.symm; have h2 := H2.out.1.lp; omega)
         have hcz : w7.frozen? ⟨pp, 0, none⟩ = false := ((H2.out.1.box.below ((Below.al wl (.cells #[.slice none 0 0] 22)).trans ((Below.al _ (.cells #[.slice (some ⟨wl.heap.size, 0, none⟩) 1 1] 110)).mono (by simp))) H2.out.1.box.lt).grown hg7 (fun e => by have h1 := H2.out.1.F.l pp e.symm; have h2 := H2.out.1.lp; omega)).free 0
         have H7 := Lib.hid (H2.out.1.createF (by rw [HNF.out.1]; exact hown7) hg7 hor7)
         clear hown7 hg7 hor7))
    go_meet
    case rel =>
      obtain ⟨L7, q1, q2⟩ := H7.out
      exact ⟨rfl, L7, b7, c7, _, q1, q2⟩
  case rest =>
    obtain ⟨rfl, L3, b3, c3, uF3, hP3, hE3⟩ := hcut
    clear hxc hc0 hcf0
    have hd0 := hP3.box.cell 1
    have H3 := Lib.hid (And.intro hP3 hE3)
    clear hP3 hE3
    obtain ⟨wk, hwk⟩ : ∃ wk, wc = wk := ⟨_, rfl⟩
    rw [hwk] at H3 hd0 ⊢
    clear hwk
    go_upto_region 8 with fail
    go_cut [4] (fun s4 wy => s4 = .bool false ∧ ∃ L' b7 c7 uG', PsM wy L' pp (.slice b3 (nF + 1) c3) uF3 (.slice b7 (nG + 1) c7) uG' vD uD (fs ++ [[[]]]) (gs ++ [[-1]]) ds ∧ Ex wk wy L3 L')
    case first =>
      go_wp2_with (first
        | (at_builtin
           refine wpList_app _ rfl (.tmp 36) (.tmp 38) _ rfl 0 23 o1 _ 1 24 Try.underlying104 ho1 oz1 os1 oy1 rfl (by omega) (.slice vgb nG cG) nG uG rfl (by have := (H3.out.1.next ((Below.al wk (.cells #[.int .i64 (-1)] 3)).trans ((Below.al _ (.cells #[.slice (some ⟨wk.heap.size, 0, none⟩) 1 1] 23)).mono (by simp)))).G.r; rw [HNF.out.2] at this; exact this) _ _ 1 1 [.slice (some ⟨wk.heap.size, 0, none⟩) 1 1] rfl rfl (rd_new2 _ _ _ _) (by simp [Value.oneCell']) (by unfold maxLen; omega) (by omega) (Nat.zero_le _) ?_
           intro v7 w7 hown7 hg7 hor7
           obtain ⟨b7, c7, hv7⟩ := row_slice hown7
           subst hv7
           have hcp : w7.cell? ⟨pp, 1, none⟩ = some (.slice vgb nG cG) := cell_grow hd0 ((Below.al wk (.cells #[.int .i64 (-1)] 3)).trans ((Below.al _ (.cells #[.slice (some ⟨wk.heap.size, 0, none⟩) 1 1] 23)).mono (by simp))) hg7 (fun e => by have h1 := H3.out.1.G.l pp e.symm; have h2 := H3.out.1.lp; omega)
           have hcz : w7.frozen? ⟨pp, 1, none⟩ = false := ((H3.out.1.box.below ((Below.al wk (.cells #[.int .i64 (-1)] 3)).trans ((Below.al _ (.cells #[.slice (some ⟨wk.heap.size, 0, none⟩) 1 1] 23)).mono (by simp))) H3.out.1.box.lt).grown hg7 (fun e => by have h1 := H3.out.1.G.l pp e.symm; have h2 := H3.out.1.lp; omega)).free 1
           have H7 := Lib.hid (H3.out.1.createG (by rw [HNF.out.2]; exact hown7) hg7 hor7)
           clear hown7 hg7 hor7))
      go_meet
      case rel =>
        obtain ⟨L7, q1, q2⟩ := H7.out
        exact ⟨rfl, L7, b7, c7, _, q1, q2⟩
    case rest =>
      obtain ⟨rfl, L5, b5, c5, uG5, hP5, hE5⟩ := hcut
      clear hd0
      have hX5 : Box wc w.heap.size 44 #[.int .i64 1, .string nm, .string nt, .int .i64 x, .int .i64 y, .slice A nb c, .slice A2 np c2] := (HX2.out.chg H3.out.2.chg fun e => absurd (HL.out _ e) (Nat.lt_irrefl _)).chg hE5.chg fun e => by
        rcases H3.out.2.new _ e with h1 | h1
        · exact absurd (HL.out _ h1) (Nat.lt_irrefl _)
        · have := HX2.out.lt; omega
      have hE := H3.out.2.trans hE5
      go_upto_region 9 with fail
      obtain ⟨wz, hwz⟩ : ∃ wz, wc.drew = wz := ⟨_, rfl⟩
      have hbz : Below wc.heap.size wc wz := by rw [← hwz]; exact below_drew (Below.refl _ _)
      have hPz := hP5.next hbz
      have hXz := hX5.next hbz
      obtain ⟨gD, cD2, rfl, hLD, hc2, hRD⟩ := hPz.dirs_ (by have := (List.getElem?_eq_some_iff.1 hl).1; omega)
      obtain ⟨n, hn⟩ : ∃ n, ds.length = n := ⟨_, rfl⟩
      rw [hn] at hPz hc2
      have hnm := hn ▸ hmx
      have hc1 : wz.cell? ⟨w.heap.size, 1, none⟩ = some (.string nm) := hXz.cell 1
      have hc0 := hPz.box.cell 0
      have hS0 : wz.cell? ⟨pp, 2, none⟩ = some (.slice (some ⟨gD, 0, none⟩) n cD2) ∧ wz.cell? ⟨w.heap.size, 1, none⟩ = some (.string nm) ∧ wz.cell? ⟨pp, 0, none⟩ = some (.slice b3 (nF + 1) c3) := ⟨hc2, hc1, hc0⟩
      have hlp := hPz.lp
      have hl0 : L5 w.heap.size = 0 := Classical.byContradiction fun e => by
        rcases hE.new _ e with h1 | h1
        · exact absurd (HL.out _ h1) (Nat.lt_irrefl _)
        · have := HX2.out.lt; omega
      have hne1 : some pp ≠ (Value.slice (some ⟨gD, 0, none⟩) n cD2).ownBlock := fun e => by have := hPz.D.l _ e.symm; omega
      have hne2 : some w.heap.size ≠ (Value.slice (some ⟨gD, 0, none⟩) n cD2).ownBlock := fun e => by have := hPz.D.l _ e.symm; omega
      have HC := Lib.hid hS0
      have HN := Lib.hid (And.intro hne1 (And.intro hne2 hne1))
      have HZ := Lib.hid (And.intro hbz (And.intro hPz (And.intro hRD (And.intro hn (And.intro hnm hE)))))
      have hii : ((nF + 1 : Nat) : Int) - 1 = (nF : Int) := by omega
      have hwi : IntKind.i64.wrap (nF : Int) = (nF : Int) := IntWalk.i64_in _ (by omega)
      clear hbz hPz hXz hLD hc2 hRD hn hnm hc1 hlp hl0 hne1 hne2 hE hE5 hP5 hX5 hc0
      refine WT.start (fun w' : World => w'.cell? ⟨pp, 2, none⟩ = some (.slice (some ⟨gD, 0, none⟩) n cD2) ∧ w'.cell? ⟨w.heap.size, 1, none⟩ = some (.string nm) ∧ w'.cell? ⟨pp, 0, none⟩ = some (.slice b3 (nF + 1) c3)) 22 (by kernel_rfl) ?_
      rw [hwz]
      clear hwz
      refine WT.take 0 (v := ?_) rfl (by kernel_rfl) (by kernel_rfl) (by kernel_rfl) (by kernel_rfl) (fun _ _ _ h => h) (Or.inl ⟨by rfl, ?hy⟩) hS0 ?_
      case hy => first | (intro w hSw; go_simp; done) | (intro w hSw; go_simp; with_reducible rfl)
      simp only [Act.put, List.setIfInBounds_toArray, List.set_cons_zero, List.set_cons_succ]
      refine WT.take 1 (v := ?_) rfl (by kernel_rfl) (by kernel_rfl) (by kernel_rfl) (by kernel_rfl) (fun _ _ _ h => h) (Or.inl ⟨by rfl, ?hy⟩) hS0 ?_
      case hy => first | (intro w hSw; go_simp; done) | (intro w hSw; go_simp; with_reducible rfl)
      simp only [Act.put, List.setIfInBounds_toArray, List.set_cons_zero, List.set_cons_succ]
      refine WT.take 2 (v := ?_) rfl (by kernel_rfl) (by kernel_rfl) (by kernel_rfl) (by kernel_rfl) (fun _ _ _ h => h) (Or.inl ⟨by rfl, ?hy⟩) hS0 ?_
      case hy => first | (intro w hSw; go_simp; done) | (intro w hSw; go_simp; with_reducible rfl)
      simp only [Act.put, List.setIfInBounds_toArray, List.set_cons_zero, List.set_cons_succ]
      refine WT.take 3 (v := ?_) rfl (by kernel_rfl) (by kernel_rfl) (by kernel_rfl) (by kernel_rfl) (fun _ _ _ h => h) (Or.inl ⟨by rfl, ?hy⟩) hS0 ?_
      case hy => first | (intro w hSw; go_simp; done) | (intro w hSw; go_simp; with_reducible rfl)
      simp only [Act.put, List.setIfInBounds_toArray, List.set_cons_zero, List.set_cons_succ]
      refine WT.take 4 (v := ?_) rfl (by kernel_rfl) (by kernel_rfl) (by kernel_rfl) (by kernel_rfl) (fun _ _ _ h => h) (Or.inl ⟨by rfl, ?hy⟩) hS0 ?_
      case hy => first | (intro w hSw; go_simp; done) | (intro w hSw; go_simp; with_reducible rfl)
      simp only [Act.put, List.setIfInBounds_toArray, List.set_cons_zero, List.set_cons_succ]
      refine WT.take 5 (v := ?_) rfl (by kernel_rfl) (by kernel_rfl) (by kernel_rfl) (by kernel_rfl) (fun _ _ _ h => h) (Or.inl ⟨by rfl, ?hy⟩) hS0 ?_
      case hy => first | (intro w hSw; go_simp; done) | (intro w hSw; go_simp; with_reducible rfl)
      simp only [Act.put, List.setIfInBounds_toArray, List.set_cons_zero, List.set_cons_succ]
      refine WT.take 7 (v := ?_) rfl (by kernel_rfl) (by kernel_rfl) (by kernel_rfl) (by kernel_rfl) (fun _ _ _ h => h) (Or.inl ⟨by rfl, ?hy⟩) hS0 ?_
      case hy => first | (intro w hSw; go_simp; done) | (intro w hSw; go_simp; with_reducible rfl)
      simp only [Act.put, List.setIfInBounds_toArray, List.set_cons_zero, List.set_cons_succ]
      refine WT.take 8 (v := ?_) rfl (by kernel_rfl) (by kernel_rfl) (by kernel_rfl) (by kernel_rfl) (fun _ _ _ h => h) (Or.inl ⟨by rfl, ?hy⟩) hS0 ?_
      case hy => first | (intro w hSw; go_simp; done) | (intro w hSw; go_simp; with_reducible rfl)
      simp only [Act.put, List.setIfInBounds_toArray, List.set_cons_zero, List.set_cons_succ]
      refine WT.take 9 (v := ?_) rfl (by kernel_rfl) (by kernel_rfl) (by kernel_rfl) (by kernel_rfl) (fun _ _ _ h => h) (Or.inl ⟨by rfl, ?hy⟩) hS0 ?_
      case hy => first | (intro w hSw; go_simp; done) | (intro w hSw; go_simp; with_reducible rfl)
      simp only [Act.put, List.setIfInBounds_toArray, List.set_cons_zero, List.set_cons_succ]
      refine WT.take 10 (v := ?_) rfl (by kernel_rfl) (by kernel_rfl) (by kernel_rfl) (by kernel_rfl) (fun _ _ _ h => h) (Or.inl ⟨by rfl, ?hy⟩) hS0 ?_
      case hy => first | (intro w hSw; go_simp; done) | (intro w hSw; go_simp; with_reducible rfl)
      simp only [Act.put, List.setIfInBounds_toArray, List.set_cons_zero, List.set_cons_succ]
      refine WT.take 11 (v := ?_) rfl (by kernel_rfl) (by kernel_rfl) (by kernel_rfl) (by kernel_rfl) (fun _ _ _ h => h) (Or.inl ⟨by rfl, ?hy⟩) hS0 ?_
      case hy => first | (intro w hSw; go_simp; done) | (intro w hSw; go_simp; with_reducible rfl)
      simp only [Act.put, List.setIfInBounds_toArray, List.set_cons_zero, List.set_cons_succ]
      refine WT.take 12 (v := ?_) rfl (by kernel_rfl) (by kernel_rfl) (by kernel_rfl) (by kernel_rfl) (fun _ _ _ h => h) (Or.inl ⟨by rfl, ?hy⟩) hS0 ?_
      case hy => first | (intro w hSw; go_simp; done) | (intro w hSw; go_simp; with_reducible rfl)
      simp only [Act.put, List.setIfInBounds_toArray, List.set_cons_zero, List.set_cons_succ]
      refine WT.take 13 (v := ?_) rfl (by kernel_rfl) (by kernel_rfl) (by kernel_rfl) (by kernel_rfl) (fun _ _ _ h => h) (Or.inl ⟨by rfl, ?hy⟩) hS0 ?_
      case hy => first | (intro w hSw; go_simp; done) | (intro w hSw; go_simp; with_reducible rfl)
      simp only [Act.put, List.setIfInBounds_toArray, List.set_cons_zero, List.set_cons_succ]
      refine WT.take 14 (v := ?_) rfl (by kernel_rfl) (by kernel_rfl) (by kernel_rfl) (by kernel_rfl) (fun _ _ _ h => h) (Or.inl ⟨by rfl, ?hy⟩) hS0 ?_
      case hy => first | (intro w hSw; go_simp; done) | (intro w hSw; go_simp; with_reducible rfl)
      simp only [Act.put, List.setIfInBounds_toArray, List.set_cons_zero, List.set_cons_succ]
      refine WT.take 15 (v := ?_) rfl (by kernel_rfl) (by kernel_rfl) (by kernel_rfl) (by kernel_rfl) (fun _ _ _ h => h) (Or.inl ⟨by rfl, ?hy⟩) hS0 ?_
      case hy => first | (intro w hSw; go_simp; done) | (intro w hSw; go_simp; with_reducible rfl)
      simp only [Act.put, List.setIfInBounds_toArray, List.set_cons_zero, List.set_cons_succ]
      refine WT.both 6 16 rfl rfl (by kernel_rfl) (by decide) (by decide) (fun K hK => ?_) (fun K hK => ?_)
      · go_simp
        go_at_call 59
        refine (left_any pp (some ⟨gD, 0, none⟩) n cD2 ds l ByteArray.empty wz HC.out.1 HZ.out.2.2.1 (by rw [← HZ.out.2.2.2.1]; exact hl) (by have := (List.getElem?_eq_some_iff.1 hl).1; have := HZ.out.2.2.2.1; omega) HZ.out.2.2.2.2.1 hlm).mono ?_
        rintro e w4 ⟨b4, c4, rfl, hr4, hb4⟩
        obtain ⟨q4, hq4⟩ : ∃ q4, (leftP ByteArray.empty l).length = q4 := ⟨_, rfl⟩
        have hq5 : q4 ≤ 999999999999 := by rw [← hq4]; exact Nat.le_trans (List.length_filter_le _ _) hlm
        rw [hq4]
        rw [hq4] at hr4
        have hS4 := And.intro (cell_kept HC.out.1 hb4) (And.intro (cell_kept HC.out.2.1 hb4) (cell_kept HC.out.2.2 hb4))
        have hrd : Rd (w4.alloc (.cells #[.string nm, .int .i64 (nF : Nat)] 113)) (w4.heap.size + 1) (some ⟨w4.heap.size, 0, none⟩) [.string nm, .int .i64 (nF : Nat)] := rd_new _ _ _
        have H4 := Lib.hid (And.intro (hb4.trans ((Below.al w4 (.cells #[.string nm, .int .i64 (nF : Nat)] 113)).mono hb4.size)) (And.intro (hr4.alloc (.cells #[.string nm, .int .i64 (nF : Nat)] 113)) (And.intro hq4 hrd)))
        clear hS0 hr4 hb4 hq4 hrd
        go_simp
        refine hK.out _ _ hS4 ?_
        clear hK K
        refine WT.step 16 rfl (by kernel_rfl) (by decide) fun K hK => ?_
        go_simp
        have hS5 := And.intro (cell_al hS4.1 (.cells #[.string nm, .int .i64 (nF : Nat)] 113)) (And.intro (cell_al hS4.2.1 (.cells #[.string nm, .int .i64 (nF : Nat)] 113)) (cell_al hS4.2.2 (.cells #[.string nm, .int .i64 (nF : Nat)] 113)))
        clear hS4
        refine hK.out _ _ hS5 ?_
        clear hK K
        refine WT.step 17 rfl (by kernel_rfl) (by decide) fun K hK => ?_
        refine step_app _ (by rfl) (.tmp 48) (.tmp 58) 108 (by rfl) wz.heap.size 113 j1 _ 2 24 Try.underlying108 hj1 kz1 ks1 ky1 rfl (by omega) (.slice b4 q4 c4) q4 _ (by rfl) H4.out.2.1 (w4.heap.size + 1) (some ⟨w4.heap.size, 0, none⟩) 1 1 [.string nm, .int .i64 (nF : Nat)] (by rfl) (by rfl) H4.out.2.2.2 (by simp [Value.oneCell']) (by unfold maxLen; omega) (by omega) H4.out.1.size ?_
        intro v5 w5 hown5 hg5 _
        obtain ⟨b5', c5', hv5⟩ := row_slice hown5
        subst hv5
        have hb5 : Below wz.heap.size wz w5 := Below.grown H4.out.1 hg5 H4.out.1.size (fun j e => (H4.out.2.1.lt j e).1)
        have hS4 := And.intro (cell_kept HC.out.1 hb5) (And.intro (cell_kept HC.out.2.1 hb5) (cell_kept HC.out.2.2 hb5))
        have hq4 := H4.out.2.2.1
        have H6 := Lib.hid (And.intro hb5 (And.intro (show w5.ownsRow wz.heap.size 113 2 (.slice b5' (q4 + 1) c5') (q4 + 1) ((leftP ByteArray.empty l ++ [(nm, nF)]).flatMap ncell) by rw [List.flatMap_append]; exact hown5) (show (leftP ByteArray.empty l ++ [(nm, nF)]).length = q4 + 1 by rw [List.length_append, hq4]; rfl)))
        clear hS5 hown5 hg5 hb5 hq4
        go_simp
        refine hK.out _ _ hS4 ?_
        clear hK K
        refine WT.step 18 rfl (by kernel_rfl) (by decide) fun K hK => ?_
        go_simp
        have hS6 := And.intro (cell_al hS4.1 (.cells #[.slice b5' (q4 + 1) c5'] 108)) (And.intro (cell_al hS4.2.1 (.cells #[.slice b5' (q4 + 1) c5'] 108)) (cell_al hS4.2.2 (.cells #[.slice b5' (q4 + 1) c5'] 108)))
        clear hS4
        refine hK.out _ _ hS6 ?_
        clear hK K
        refine WT.step 19 rfl (by kernel_rfl) (by decide) fun K hK => ?_
        refine step_app _ (by rfl) (.tmp 46) (.tmp 60) 102 (by rfl) 0 108 i1 _ 1 24 Try.underlying102 hi1 hz1 hs1 hy1 rfl (by omega) (.slice (some ⟨gD, 0, none⟩) n cD2) n uD (by rfl) (by have := (HZ.out.2.1.next (H6.out.1.trans ((Below.al w5 (.cells #[.slice b5' (q4 + 1) c5'] 108)).mono H6.out.1.size))).D.r; rw [HZ.out.2.2.2.1] at this; exact this) (w5.heap.size + 1) (some ⟨w5.heap.size, 0, none⟩) 1 1 [.slice b5' (q4 + 1) c5'] (by rfl) (by rfl) (rd_new _ _ _) (by simp [Value.oneCell']) (by have := HZ.out.2.2.2.2.1; unfold maxLen; omega) (by have := HZ.out.2.2.2.2.1; omega) (Nat.zero_le _) ?_
        intro v7 w7 hown7 hg7 hor7
        obtain ⟨b7, c7, hv7⟩ := row_slice hown7
        subst hv7
        have hb6 : Below wz.heap.size wz (w5.alloc (.cells #[.slice b5' (q4 + 1) c5'] 108)) := H6.out.1.trans ((Below.al w5 _).mono H6.out.1.size)
        have hS7 := And.intro (cell_grow HC.out.1 hb6 hg7 HN.out.1) (And.intro (cell_grow HC.out.2.1 hb6 hg7 HN.out.2.1) (cell_grow HC.out.2.2 hb6 hg7 HN.out.2.2))
        have hfz : w7.frozen? ⟨pp, 2, none⟩ = false := ((HZ.out.2.1.box.below hb6 HZ.out.2.1.box.lt).grown hg7 HN.out.1).free 2
        have H7 := Lib.hid (HZ.out.2.1.growD (m := leftP ByteArray.empty l ++ [(nm, nF)]) H6.out.1 (by rw [H6.out.2.2]; exact H6.out.2.1) (by rw [HZ.out.2.2.2.1]; exact hown7) hg7 hor7)
        clear hS6 hown7 hg7 hor7 hb6
        go_simp
        refine hK.out _ _ hS7 ?_
        clear hK K
        refine WT.step 20 rfl (by kernel_rfl) (by decide) fun K hK => ?_
        go_simp
        refine hK.out _ _ hS7 ?_
        clear hK K
        refine WT.take 21 (v := ?_) rfl (by kernel_rfl) (by kernel_rfl) (by kernel_rfl) (by kernel_rfl) (fun _ _ _ h => h) (Or.inl ⟨by rfl, ?hy⟩) hS7 ?_
        case hy => first | (intro w hSw; go_simp; done) | (intro w hSw; go_simp; with_reducible rfl)
        simp only [Act.put, List.setIfInBounds_toArray, List.set_cons_zero, List.set_cons_succ]
        refine WT.last 22 rfl (by kernel_rfl) rfl fun K hK => ?_
        go_simp
        refine hK.out _ _ ?_
        clear hK K
        refine WT.done (by kernel_rfl) ?_
        have hdo := hS7.1
        go_wp2_with fail
        go_ret
        obtain ⟨L7, q1, q2⟩ := H7.out
        rw [HNF.out.1]
        exact ⟨rfl, L7, ⟨_, _, _, _, _, _, q1⟩, (Ex.below H2.out.2 L).trans (HZ.out.2.2.2.2.2.trans ((Ex.below HZ.out.1 L5).trans q2))⟩
      · go_simp
        have hS4 := And.intro (cell_al HC.out.1 (.cells #[.string nm, .int .i64 (nF : Nat)] 113)) (And.intro (cell_al HC.out.2.1 (.cells #[.string nm, .int .i64 (nF : Nat)] 113)) (cell_al HC.out.2.2 (.cells #[.string nm, .int .i64 (nF : Nat)] 113)))
        refine hK.out _ _ hS4 ?_
        clear hK K hS0
        refine WT.step 6 rfl (by kernel_rfl) (by decide) fun K hK => ?_
        go_simp
        go_at_call 59
        refine (left_any pp (some ⟨gD, 0, none⟩) n cD2 ds l ByteArray.empty (wz.alloc (.cells #[.string nm, .int .i64 (nF : Nat)] 113)) hS4.1 (HZ.out.2.2.1.next (Below.al wz (.cells #[.string nm, .int .i64 (nF : Nat)] 113))) (by rw [← HZ.out.2.2.2.1]; exact hl) (by have := (List.getElem?_eq_some_iff.1 hl).1; have := HZ.out.2.2.2.1; omega) HZ.out.2.2.2.2.1 hlm).mono ?_
        rintro e w4 ⟨b4, c4, rfl, hr4, hb4⟩
        obtain ⟨q4, hq4⟩ : ∃ q4, (leftP ByteArray.empty l).length = q4 := ⟨_, rfl⟩
        have hq5 : q4 ≤ 999999999999 := by rw [← hq4]; exact Nat.le_trans (List.length_filter_le _ _) hlm
        rw [hq4]
        rw [hq4] at hr4
        have hbB : Below wz.heap.size wz w4 := (Below.al wz (.cells #[.string nm, .int .i64 (nF : Nat)] 113)).trans (hb4.mono (by simp))
        have hS5 := And.intro (cell_kept HC.out.1 hbB) (And.intro (cell_kept HC.out.2.1 hbB) (cell_kept HC.out.2.2 hbB))
        have hrd : Rd w4 (wz.heap.size + 1) (some ⟨wz.heap.size, 0, none⟩) [.string nm, .int .i64 (nF : Nat)] := (rd_new wz #[.string nm, .int .i64 (nF : Nat)] 113).below (hb4.mono (by simp))
        have H4 := Lib.hid (And.intro hbB (And.intro (row_le hr4 (by simp) : w4.ownsRow wz.heap.size 113 2 (.slice b4 q4 c4) q4 ((leftP ByteArray.empty l).flatMap ncell)) (And.intro hq4 hrd)))
        clear hS4 hr4 hb4 hq4 hrd hbB
        go_simp
        refine hK.out _ _ hS5 ?_
        clear hK K
        refine WT.step 17 rfl (by kernel_rfl) (by decide) fun K hK => ?_
        refine step_app _ (by rfl) (.tmp 48) (.tmp 58) 108 (by rfl) wz.heap.size 113 j1 _ 2 24 Try.underlying108 hj1 kz1 ks1 ky1 rfl (by omega) (.slice b4 q4 c4) q4 _ (by rfl) H4.out.2.1 (wz.heap.size + 1) (some ⟨wz.heap.size, 0, none⟩) 1 1 [.string nm, .int .i64 (nF : Nat)] (by rfl) (by rfl) H4.out.2.2.2 (by simp [Value.oneCell']) (by unfold maxLen; omega) (by omega) H4.out.1.size ?_
        intro v5 w5 hown5 hg5 _
        obtain ⟨b5', c5', hv5⟩ := row_slice hown5
        subst hv5
        have hb5 : Below wz.heap.size wz w5 := Below.grown H4.out.1 hg5 H4.out.1.size (fun j e => (H4.out.2.1.lt j e).1)
        have hS4 := And.intro (cell_kept HC.out.1 hb5) (And.intro (cell_kept HC.out.2.1 hb5) (cell_kept HC.out.2.2 hb5))
        have hq4 := H4.out.2.2.1
        have H6 := Lib.hid (And.intro hb5 (And.intro (show w5.ownsRow wz.heap.size 113 2 (.slice b5' (q4 + 1) c5') (q4 + 1) ((leftP ByteArray.empty l ++ [(nm, nF)]).flatMap ncell) by rw [List.flatMap_append]; exact hown5) (show (leftP ByteArray.empty l ++ [(nm, nF)]).length = q4 + 1 by rw [List.length_append, hq4]; rfl)))
        clear hS5 hown5 hg5 hb5 hq4
        go_simp
        refine hK.out _ _ hS4 ?_
        clear hK K
        refine WT.step 18 rfl (by kernel_rfl) (by decide) fun K hK => ?_
        go_simp
        have hS6 := And.intro (cell_al hS4.1 (.cells #[.slice b5' (q4 + 1) c5'] 108)) (And.intro (cell_al hS4.2.1 (.cells #[.slice b5' (q4 + 1) c5'] 108)) (cell_al hS4.2.2 (.cells #[.slice b5' (q4 + 1) c5'] 108)))
        clear hS4
        refine hK.out _ _ hS6 ?_
        clear hK K
        refine WT.step 19 rfl (by kernel_rfl) (by decide) fun K hK => ?_
        refine step_app _ (by rfl) (.tmp 46) (.tmp 60) 102 (by rfl) 0 108 i1 _ 1 24 Try.underlying102 hi1 hz1 hs1 hy1 rfl (by omega) (.slice (some ⟨gD, 0, none⟩) n cD2) n uD (by rfl) (by have := (HZ.out.2.1.next (H6.out.1.trans ((Below.al w5 (.cells #[.slice b5' (q4 + 1) c5'] 108)).mono H6.out.1.size))).D.r; rw [HZ.out.2.2.2.1] at this; exact this) (w5.heap.size + 1) (some ⟨w5.heap.size, 0, none⟩) 1 1 [.slice b5' (q4 + 1) c5'] (by rfl) (by rfl) (rd_new _ _ _) (by simp [Value.oneCell']) (by have := HZ.out.2.2.2.2.1; unfold maxLen; omega) (by have := HZ.out.2.2.2.2.1; omega) (Nat.zero_le _) ?_
        intro v7 w7 hown7 hg7 hor7
        obtain ⟨b7, c7, hv7⟩ := row_slice hown7
        subst hv7
        have hb6 : Below wz.heap.size wz (w5.alloc (.cells #[.slice b5' (q4 + 1) c5'] 108)) := H6.out.1.trans ((Below.al w5 _).mono H6.out.1.size)
        have hS7 := And.intro (cell_grow HC.out.1 hb6 hg7 HN.out.1) (And.intro (cell_grow HC.out.2.1 hb6 hg7 HN.out.2.1) (cell_grow HC.out.2.2 hb6 hg7 HN.out.2.2))
        have hfz : w7.frozen? ⟨pp, 2, none⟩ = false := ((HZ.out.2.1.box.below hb6 HZ.out.2.1.box.lt).grown hg7 HN.out.1).free 2
        have H7 := Lib.hid (HZ.out.2.1.growD (m := leftP ByteArray.empty l ++ [(nm, nF)]) H6.out.1 (by rw [H6.out.2.2]; exact H6.out.2.1) (by rw [HZ.out.2.2.2.1]; exact hown7) hg7 hor7)
        clear hS6 hown7 hg7 hor7 hb6
        go_simp
        refine hK.out _ _ hS7 ?_
        clear hK K
        refine WT.step 20 rfl (by kernel_rfl) (by decide) fun K hK => ?_
        go_simp
        refine hK.out _ _ hS7 ?_
        clear hK K
        refine WT.take 21 (v := ?_) rfl (by kernel_rfl) (by kernel_rfl) (by kernel_rfl) (by kernel_rfl) (fun _ _ _ h => h) (Or.inl ⟨by rfl, ?hy⟩) hS7 ?_
        case hy => first | (intro w hSw; go_simp; done) | (intro w hSw; go_simp; with_reducible rfl)
        simp only [Act.put, List.setIfInBounds_toArray, List.set_cons_zero, List.set_cons_succ]
        refine WT.last 22 rfl (by kernel_rfl) rfl fun K hK => ?_
        go_simp
        refine hK.out _ _ ?_
        clear hK K
        refine WT.done (by kernel_rfl) ?_
        have hdo := hS7.1
        go_wp2_with fail
        go_ret
        obtain ⟨L7, q1, q2⟩ := H7.out
        rw [HNF.out.1]
        exact ⟨rfl, L7, ⟨_, _, _, _, _, _, q1⟩, (Ex.below H2.out.2 L).trans (HZ.out.2.2.2.2.2.trans ((Ex.below HZ.out.1 L5).trans q2))⟩
end Go.Proofs.Ytomkieennkobcaa
