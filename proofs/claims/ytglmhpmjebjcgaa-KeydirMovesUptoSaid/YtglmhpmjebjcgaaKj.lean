import Derived.Test.YtglmhpmjebjcgaaKi
/- KeydirMoves: told: Freeze; a kind that is none. -/
namespace Go.Proofs.Ytglmhpmjebjcgaa
open Go.RowKit Go.Maps

theorem DW.grow {B wb N ns i f r : Nat} {Lv Dv Rv Dv' Rv' v' : Value} {ds rs : Nat → Nat} {vs : Nat → Value} {ls : Nat → List KE} {w w' : World}
    (h : DW B wb Lv N ⟨ns, ds, rs, vs, ls, Dv, Rv⟩ w) (hi : i < ns) (h8 : ns < 8) (hc : Chg (fun k => k = wb ∨ Dv.ownBlock = some k ∨ Rv.ownBlock = some k) w w')
    (hb : Box w' wb 35 #[Dv', Rv', Lv]) (hD : w'.ownsRow B 23 1 Dv' (ns + 1) (ptrs ds ns ++ [.pointer (some ⟨f, 0, none⟩)])) (hR : w'.ownsRow B 30 1 Rv' (ns + 1) (ptrs rs ns ++ [.pointer (some ⟨r, 0, none⟩)]))
    (hf : DR w' f (ls i)) (hr : RR w' B r v' (ls i)) (nf : w.heap.size ≤ f) (nr : w.heap.size ≤ r) (nv : ∀ k, v'.ownBlock = some k → w.heap.size ≤ k)
    (oD : ∀ k, Dv'.ownBlock = some k → Dv.ownBlock = some k ∨ w.heap.size ≤ k) (oR : ∀ k, Rv'.ownBlock = some k → Rv.ownBlock = some k ∨ w.heap.size ≤ k) :
    ∃ s', DW B wb Lv N s' w' ∧ Turn wb ⟨ns, ds, rs, vs, ls, Dv, Rv⟩ s' w w' := by
  have hne : ∀ j, j < ns → j ≠ ns := fun j hj => Nat.ne_of_lt hj
  have p1 : ptrs (fun j => if j = ns then f else ds j) (ns + 1) = ptrs ds ns ++ [.pointer (some ⟨f, 0, none⟩)] := by
    rw [ptrs_succ, ptrs_congr (g := ds) fun j hj => if_neg (hne j hj)]
    simp
  have p2 : ptrs (fun j => if j = ns then r else rs j) (ns + 1) = ptrs rs ns ++ [.pointer (some ⟨r, 0, none⟩)] := by
    rw [ptrs_succ, ptrs_congr (g := rs) fun j hj => if_neg (hne j hj)]
    simp
  have hB : B ≤ w.heap.size := h.size
  have hrr : ∀ j, j < ns → RR w' B (rs j) (vs j) (ls j) := fun j hj => by
    have hj' := h.ref j hj
    refine hj'.chg hc ?_ fun k hk => ?_
    · rintro (e | e | e)
      · exact box_box hj'.1 h.box (by decide) e
      · exact box_row hj'.1 h.rowD (by decide) e
      · exact box_row hj'.1 h.rowR (by decide) e
    · rintro (e | e | e)
      · subst e; exact box_row h.box hj'.2.1 (by decide) hk
      · exact row_row hj'.2.1 h.rowD (by decide) hk e
      · exact row_row hj'.2.1 h.rowR (by decide) hk e
  have hdd : ∀ j, j < ns → DR w' (ds j) (ls j) := fun j hj => by
    have hj' := h.dir j hj
    obtain ⟨p, hb'⟩ := hj'.box
    refine hj'.chg hc (fun k hk cs => ?_) ?_
    · rcases hk with rfl | e | e
      · exact box_not h.box (by decide) cs
      · obtain ⟨cur, hcur⟩ := row_obj h.rowD e
        rw [hcur]
        intro e
        injection e with e
        injection e with _ e
        exact absurd e (by decide)
      · obtain ⟨cur, hcur⟩ := row_obj h.rowR e
        rw [hcur]
        intro e
        injection e with e
        injection e with _ e
        exact absurd e (by decide)
    · rintro (e | e | e)
      · exact box_box hb' h.box (by decide) e
      · exact box_row hb' h.rowD (by decide) e
      · exact box_row hb' h.rowR (by decide) e
  refine ⟨⟨ns + 1, fun j => if j = ns then f else ds j, fun j => if j = ns then r else rs j, fun j => if j = ns then v' else vs j, fun j => if j = ns then ls i else ls j, Dv', Rv'⟩, ⟨hb, ⟨Nat.le_add_left _ _, h8⟩, ?_, ?_, ?_, ?_, ⟨h.low.1, ?_⟩, ?_, ?_, ?_, ?_⟩, ?_, ?_⟩
  · rw [p1]; exact hD
  · rw [p2]; exact hR
  · intro j hj
    by_cases e : j = ns
    · simp only [if_pos e]; exact hf
    · simp only [if_neg e]; exact hdd j (by have : j < ns + 1 := hj; omega)
  · intro j hj
    by_cases e : j = ns
    · simp only [if_pos e]; exact hr
    · simp only [if_neg e]; exact hrr j (by have : j < ns + 1 := hj; omega)
  · intro j hj
    by_cases e : j = ns
    · simp only [if_pos e]; exact ⟨by omega, by omega⟩
    · simp only [if_neg e]; exact h.low.2 j (show j < ns by have : j < ns + 1 := hj; omega)
  · intro j hj
    by_cases e : j = ns
    · simp only [if_pos e]; exact h.len i hi
    · simp only [if_neg e]; exact h.len j (show j < ns by have : j < ns + 1 := hj; omega)
  · intro a b ha hb' hab
    have ha' : a < ns + 1 := ha
    have hb'' : b < ns + 1 := hb'
    have hl : ∀ j, j < ns → ds j < w.heap.size := fun j hj => (h.dir j hj).lt
    by_cases ea : a = ns <;> by_cases eb : b = ns
    · rw [ea, eb]
    · simp only [if_pos ea, if_neg eb] at hab
      have := hl b (by omega)
      omega
    · simp only [if_neg ea, if_pos eb] at hab
      have := hl a (by omega)
      omega
    · simp only [if_neg ea, if_neg eb] at hab
      exact h.dne a b (show a < ns by omega) (show b < ns by omega) hab
  · intro a b ha hb' hab
    have ha' : a < ns + 1 := ha
    have hb'' : b < ns + 1 := hb'
    have hl : ∀ j, j < ns → rs j < w.heap.size := fun j hj => (h.ref j hj).1.lt
    by_cases ea : a = ns <;> by_cases eb : b = ns
    · rw [ea, eb]
    · simp only [if_pos ea, if_neg eb] at hab
      have := hl b (by omega)
      omega
    · simp only [if_neg ea, if_pos eb] at hab
      have := hl a (by omega)
      omega
    · simp only [if_neg ea, if_neg eb] at hab
      exact h.rne a b (show a < ns by omega) (show b < ns by omega) hab
  · intro a b k ha hb' hka hkb
    have ha' : a < ns + 1 := ha
    have hb'' : b < ns + 1 := hb'
    have hl : ∀ j, j < ns → (vs j).ownBlock = some k → k < w.heap.size := fun j hj hk => row_lt (h.ref j hj).2.1 hk
    by_cases ea : a = ns <;> by_cases eb : b = ns
    · rw [ea, eb]
    · simp only [if_pos ea] at hka
      simp only [if_neg eb] at hkb
      have := hl b (by omega) hkb
      have := nv k hka
      omega
    · simp only [if_neg ea] at hka
      simp only [if_pos eb] at hkb
      have := hl a (by omega) hka
      have := nv k hkb
      omega
    · simp only [if_neg ea] at hka
      simp only [if_neg eb] at hkb
      exact h.vne a b k (show a < ns by omega) (show b < ns by omega) hka hkb
  · refine hc.mono fun k _ hk => ?_
    rcases hk with e | e | e
    · exact .inl e
    · exact .inr (.inr (.inl e))
    · exact .inr (.inr (.inr e))
  · intro k hk
    rcases hk with e | ⟨j, hj, e⟩ | e | e
    · exact .inl (.inl e)
    · by_cases ej : j = ns
      · simp only [if_pos ej] at e
        rcases e with e | e | e
        · exact .inr (by omega)
        · exact .inr (by omega)
        · exact .inr (nv k e)
      · simp only [if_neg ej] at e
        exact .inl (.inr (.inl ⟨j, show j < ns by have : j < ns + 1 := hj; omega, e⟩))
    · exact (oD k e).imp (fun e => .inr (.inr (.inl e))) id
    · exact (oR k e).imp (fun e => .inr (.inr (.inr e))) id
theorem Chg.grown {S : Nat → Prop} {a w w' : World} {row : Option Nat} (h : Chg S a w) (hg : w.grownBy w' row) (hr : ∀ k, row = some k → S k ∨ a.heap.size ≤ k) : Chg S a w' := by
  refine ⟨hg.os.trans h.os, hg.tape.trans h.tape, hg.output.trans h.output, Nat.le_trans h.size hg.size, fun k hk hn => (hg.block k (Nat.lt_of_lt_of_le hk h.size) fun e => ?_).trans (h.block k hk hn)⟩
  rcases hr k e.symm with q | q
  · exact hn q
  · omega
/-- What Freeze turns of the law's world: its box and the two rows of pointers. -/
def Tops (wb : Nat) (s : St) (k : Nat) : Prop := k = wb ∨ s.Dv.ownBlock = some k ∨ s.Rv.ownBlock = some k
theorem DW.keepD {B wb N d : Nat} {Lv : Value} {s : St} {w w' : World} {xs : List KE} (h : DW B wb Lv N s w) (hc : Chg (Tops wb s) w w') (hd : DR w d xs) : DR w' d xs := by
  obtain ⟨p, hb'⟩ := hd.box
  refine hd.chg hc (fun k hk cs => ?_) ?_
  · rcases hk with rfl | e | e
    · exact box_not h.box (by decide) cs
    · obtain ⟨cur, hcur⟩ := row_obj h.rowD e
      rw [hcur]
      intro e
      injection e with e
      injection e with _ e
      exact absurd e (by decide)
    · obtain ⟨cur, hcur⟩ := row_obj h.rowR e
      rw [hcur]
      intro e
      injection e with e
      injection e with _ e
      exact absurd e (by decide)
  · rintro (e | e | e)
    · exact box_box hb' h.box (by decide) e
    · exact box_row hb' h.rowD (by decide) e
    · exact box_row hb' h.rowR (by decide) e
theorem DW.keepR {B wb N d : Nat} {Lv v : Value} {s : St} {w w' : World} {xs : List KE} (h : DW B wb Lv N s w) (hc : Chg (Tops wb s) w w') (hd : RR w B d v xs) : RR w' B d v xs := by
  refine hd.chg hc ?_ fun k hk => ?_
  · rintro (e | e | e)
    · exact box_box hd.1 h.box (by decide) e
    · exact box_row hd.1 h.rowD (by decide) e
    · exact box_row hd.1 h.rowR (by decide) e
  · rintro (e | e | e)
    · subst e; exact box_row h.box hd.2.1 (by decide) hk
    · exact row_row hd.2.1 h.rowD (by decide) hk e
    · exact row_row hd.2.1 h.rowR (by decide) hk e
theorem run_own {W : World} {v v' : Value} (hor : v'.ownBlock = v.ownBlock ∨ ∀ j, v'.ownBlock = some j → W.heap.size ≤ j) : ∀ k, v'.ownBlock = some k → v.ownBlock = some k ∨ W.heap.size ≤ k := by
  intro k hk
  rcases hor with e | e
  · exact .inl (e ▸ hk)
  · exact .inr (e k hk)
theorem infoDp : (Try.prog.info? 23).map (fun i => (i.zero, i.size, i.bytes)) = some (some (.pointer none), 1, 8) := by kernel_rfl
theorem infoRp : (Try.prog.info? 30).map (fun i => (i.zero, i.size, i.bytes)) = some (some (.pointer none), 1, 8) := by kernel_rfl

set_option maxRecDepth 100000 in
set_option maxHeartbeats 8000000 in
theorem told_other (B wb N ns : Nat) (Lv : Value) (ds rs : Nat → Nat) (vs : Nat → Value) (ls : Nat → List KE) (g c g' c' : Nat) (dir kind : Int) (key hi : ByteArray) (en : En) (n : Int) (w : World) (h : DW B wb Lv N (St.at ns ds rs vs ls g c g' c') w) (_hN : N ≤ 2000000) (hk : ¬ (0 ≤ kind ∧ kind ≤ 11)) :
    Calls Try.prog 6 #[.pointer (some ⟨wb, 0, none⟩), Mv.v ⟨dir, kind, key, hi, en, n⟩] w (TR B wb Lv N (St.at ns ds rs vs ls g c g' c') w) := by
  obtain ⟨hn0, hc1, hc2⟩ := h.caps
  have k0 : ¬ kind = 0 := by omega
  have k1 : ¬ kind = 1 := by omega
  have k2 : ¬ kind = 2 := by omega
  have k3 : ¬ kind = 3 := by omega
  have k4 : ¬ kind = 4 := by omega
  have k5 : ¬ kind = 5 := by omega
  have k6 : ¬ kind = 6 := by omega
  have k7 : ¬ kind = 7 := by omega
  have k8 : ¬ kind = 8 := by omega
  have k9 : ¬ kind = 9 := by omega
  have k10 : ¬ kind = 10 := by omega
  have k11 : ¬ kind = 11 := by omega
  clear hk
  have hi0 : modK dir ns < ns := modK_lt dir (by omega)
  obtain ⟨i, hie⟩ : ∃ i, i = modK dir ns := ⟨_, rfl⟩
  have hmod := fun W => mod_is dir ns (by omega) (by omega) W
  rw [← hie] at hi0
  simp only [← hie] at hmod
  have hb0 := bal w (.cells #[.int .i64 dir, .int .i64 kind, .string key, .string hi, .int .i64 en.seg, .int .i64 en.at_, .int .i64 en.size, .int .i64 en.off, .int .i64 en.time, .bool en.tomb, .int .i64 n] 40)
  have hX0 := Box.new w 40 #[.int .i64 dir, .int .i64 kind, .string key, .string hi, .int .i64 en.seg, .int .i64 en.at_, .int .i64 en.size, .int .i64 en.off, .int .i64 en.time, .bool en.tomb, .int .i64 n]
  have hD0 := h.next hb0
  have hbc := (hD0.look hi0).2
  have HM := Lib.hid hmod
  have H := Lib.hid (And.intro h (And.intro hD0 (And.intro hX0 hb0)))
  have hxc := hX0.cell
  have hi1 : (0 : Int) ≤ i := by omega
  have hi2 : (i : Int) < ns := by omega
  have hsx := hb0.size
  clear h hmod hb0 hX0 hD0 hie
  go_enter Try.func6, Try.ntmps6
  go_wp2
  go_quiet ((go_at_call 10; exact Calls.quiet_of_same (HM.out _)))
  clear hbc hxc
  have hb1 := below_drewN H.out.2.2.2 nq
  have hX1 := H.out.2.2.1.drewN nq
  have hD1 := H.out.2.1.next (below_drewN (Below.refl _ _) nq)
  generalize hW1 : (w.alloc (.cells #[.int .i64 dir, .int .i64 kind, .string key, .string hi, .int .i64 en.seg, .int .i64 en.at_, .int .i64 en.size, .int .i64 en.off, .int .i64 en.time, .bool en.tomb, .int .i64 n] 40)).drewN nq = W1 at hb1 hX1 hD1 ⊢
  clear hW1
  obtain ⟨⟨hcD, hcR⟩, hbc⟩ := hD1.look hi0
  have hxc := hX1.cell
  have hnl : (ls i).length ≤ N := hD1.len i hi0
  have hs1 := hb1.size
  have H1 := Lib.hid (And.intro hD1 (And.intro hX1 hb1))
  clear hb1 hX1 hD1
  go_wp2
  go_ret
  exact ⟨rfl, _, H1.out.1.mono (by omega), (Turn.refl _ _ _).ahead H1.out.2.2⟩
set_option maxRecDepth 100000 in
set_option maxHeartbeats 8000000 in
theorem told_freeze8 (B wb N ns : Nat) (Lv : Value) (ds rs : Nat → Nat) (vs : Nat → Value) (ls : Nat → List KE) (g c g' c' : Nat) (dir : Int) (key hi : ByteArray) (en : En) (n : Int) (w : World) (h : DW B wb Lv N (St.at ns ds rs vs ls g c g' c') w) (_hN : N ≤ 2000000) (h8 : ¬ ns < 8) :
    Calls Try.prog 6 #[.pointer (some ⟨wb, 0, none⟩), Mv.v ⟨dir, 10, key, hi, en, n⟩] w (TR B wb Lv N (St.at ns ds rs vs ls g c g' c') w) := by
  obtain ⟨hn0, hc1, hc2⟩ := h.caps
  have hi0 : modK dir ns < ns := modK_lt dir (by omega)
  obtain ⟨i, hie⟩ : ∃ i, i = modK dir ns := ⟨_, rfl⟩
  have hmod := fun W => mod_is dir ns (by omega) (by omega) W
  rw [← hie] at hi0
  simp only [← hie] at hmod
  have hb0 := bal w (.cells #[.int .i64 dir, .int .i64 10, .string key, .string hi, .int .i64 en.seg, .int .i64 en.at_, .int .i64 en.size, .int .i64 en.off, .int .i64 en.time, .bool en.tomb, .int .i64 n] 40)
  have hX0 := Box.new w 40 #[.int .i64 dir, .int .i64 10, .string key, .string hi, .int .i64 en.seg, .int .i64 en.at_, .int .i64 en.size, .int .i64 en.off, .int .i64 en.time, .bool en.tomb, .int .i64 n]
  have hD0 := h.next hb0
  have hbc := (hD0.look hi0).2
  have HM := Lib.hid hmod
  have H := Lib.hid (And.intro h (And.intro hD0 (And.intro hX0 hb0)))
  have hxc := hX0.cell
  have hi1 : (0 : Int) ≤ i := by omega
  have hi2 : (i : Int) < ns := by omega
  have hsx := hb0.size
  clear h hmod hb0 hX0 hD0 hie
  go_enter Try.func6, Try.ntmps6
  go_wp2
  go_quiet ((go_at_call 10; exact Calls.quiet_of_same (HM.out _)))
  clear hbc hxc
  have hb1 := below_drewN H.out.2.2.2 nq
  have hX1 := H.out.2.2.1.drewN nq
  have hD1 := H.out.2.1.next (below_drewN (Below.refl _ _) nq)
  generalize hW1 : (w.alloc (.cells #[.int .i64 dir, .int .i64 10, .string key, .string hi, .int .i64 en.seg, .int .i64 en.at_, .int .i64 en.size, .int .i64 en.off, .int .i64 en.time, .bool en.tomb, .int .i64 n] 40)).drewN nq = W1 at hb1 hX1 hD1 ⊢
  clear hW1
  obtain ⟨⟨hcD, hcR⟩, hbc⟩ := hD1.look hi0
  have hxc := hX1.cell
  have hnl : (ls i).length ≤ N := hD1.len i hi0
  have hs1 := hb1.size
  have H1 := Lib.hid (And.intro hD1 (And.intro hX1 hb1))
  clear hb1 hX1 hD1
  have hq : decide ((ns : Int) < 8) = false := decide_eq_false (by omega)
  have hq2 : decide (ns < 8) = false := decide_eq_false h8
  clear h8

  go_wp2_with (first
    | (go_at_call 35
       refine (freeze_any (ds i) (ls i) _ (H1.out.1.dir i hi0)).mono ?_
       rintro e w2 ⟨rfl, hf2, hb2⟩
       have hbc2 := ((H1.out.1.next hb2).look hi0).2
       have H2 := Lib.hid hb2
       clear hb2 hf2))
  go_ret
  exact ⟨rfl, _, (H1.out.1.next H2.out).mono (by omega), (Turn.of_below H2.out).ahead H1.out.2.2⟩
set_option maxRecDepth 100000 in
set_option maxHeartbeats 8000000 in
theorem told_freeze (B wb N ns : Nat) (Lv : Value) (ds rs : Nat → Nat) (vs : Nat → Value) (ls : Nat → List KE) (g c g' c' : Nat) (dir : Int) (key hi : ByteArray) (en : En) (n : Int) (w : World) (h : DW B wb Lv N (St.at ns ds rs vs ls g c g' c') w) (hN : N ≤ 2000000) (h8 : ns < 8) :
    Calls Try.prog 6 #[.pointer (some ⟨wb, 0, none⟩), Mv.v ⟨dir, 10, key, hi, en, n⟩] w (TR B wb Lv N (St.at ns ds rs vs ls g c g' c') w) := by
  obtain ⟨hn0, hc1, hc2⟩ := h.caps
  have hi0 : modK dir ns < ns := modK_lt dir (by omega)
  obtain ⟨i, hie⟩ : ∃ i, i = modK dir ns := ⟨_, rfl⟩
  have hmod := fun W => mod_is dir ns (by omega) (by omega) W
  rw [← hie] at hi0
  simp only [← hie] at hmod
  have hb0 := bal w (.cells #[.int .i64 dir, .int .i64 10, .string key, .string hi, .int .i64 en.seg, .int .i64 en.at_, .int .i64 en.size, .int .i64 en.off, .int .i64 en.time, .bool en.tomb, .int .i64 n] 40)
  have hX0 := Box.new w 40 #[.int .i64 dir, .int .i64 10, .string key, .string hi, .int .i64 en.seg, .int .i64 en.at_, .int .i64 en.size, .int .i64 en.off, .int .i64 en.time, .bool en.tomb, .int .i64 n]
  have hD0 := h.next hb0
  have hbc := (hD0.look hi0).2
  have HM := Lib.hid hmod
  have H := Lib.hid (And.intro h (And.intro hD0 (And.intro hX0 hb0)))
  have hxc := hX0.cell
  have hi1 : (0 : Int) ≤ i := by omega
  have hi2 : (i : Int) < ns := by omega
  have hsx := hb0.size
  clear h hmod hb0 hX0 hD0 hie
  go_enter Try.func6, Try.ntmps6
  go_wp2
  go_quiet ((go_at_call 10; exact Calls.quiet_of_same (HM.out _)))
  clear hbc hxc
  have hb1 := below_drewN H.out.2.2.2 nq
  have hX1 := H.out.2.2.1.drewN nq
  have hD1 := H.out.2.1.next (below_drewN (Below.refl _ _) nq)
  generalize hW1 : (w.alloc (.cells #[.int .i64 dir, .int .i64 10, .string key, .string hi, .int .i64 en.seg, .int .i64 en.at_, .int .i64 en.size, .int .i64 en.off, .int .i64 en.time, .bool en.tomb, .int .i64 n] 40)).drewN nq = W1 at hb1 hX1 hD1 ⊢
  clear hW1
  obtain ⟨⟨hcD, hcR⟩, hbc⟩ := hD1.look hi0
  have hxc := hX1.cell
  have hnl : (ls i).length ≤ N := hD1.len i hi0
  have hs1 := hb1.size
  have H1 := Lib.hid (And.intro hD1 (And.intro hX1 hb1))
  clear hb1 hX1 hD1
  have hq : decide ((ns : Int) < 8) = true := decide_eq_true (by omega)
  have hq2 : decide (ns < 8) = true := decide_eq_true h8
  have HL8 := Lib.hid h8
  clear h8
  obtain ⟨i1, hi1, hz1, hs1', hy1⟩ := info_parts infoDp
  obtain ⟨i2, hi2', hz2, hs2', hy2⟩ := info_parts infoRp
  go_wp2_with (first
    | (go_at_call 35
       refine (freeze_any (ds i) (ls i) _ (H1.out.1.dir i hi0)).mono ?_
       rintro e w2 ⟨rfl, hf2, hb2⟩
       have hD2 := H1.out.1.next hb2
       have hbc2 := (hD2.look hi0).2
       have hsz2 := hb2.size
       have hfl2 := hf2.lt
       have hwl := H1.out.1.box.lt
       have hBz := H1.out.1.size
       have H2 := Lib.hid (And.intro hf2 (And.intro hb2 hD2))
       clear hb2 hf2 hD2)
    | (at_builtin
       refine wpList_app _ rfl (.tmp 327) (.tmp 329) _ rfl B 23 i1 _ 1 8 Try.underlying29 hi1 hz1 hs1' hy1 rfl (by decide) (.slice (some ⟨g, 0, none⟩) ns c) ns _ rfl ((H2.out.2.2.next (bal w2 _)).rowD) _ _ 1 1 [.pointer (some ⟨W1.heap.size, 0, none⟩)] rfl rfl (rd_new _ _ _) (by simp [Value.oneCell']) (by unfold maxLen; have := HL8.out; omega) (by have := HL8.out; omega) (by simp; omega) ?_
       intro v4 w4 hown hg4 hor
       obtain ⟨b4, c4, rfl⟩ := row_slice hown
       have hD3 := H2.out.2.2.next (bal w2 (.cells #[.pointer (some ⟨W1.heap.size, 0, none⟩)] 23))
       have hx4 := hD3.box.grown hg4 (fun e => box_row hD3.box hD3.rowD (by decide) e.symm)
       have hx4c := hx4.cell
       have hx4f := hx4.free
       have hx4l := hx4.lt
       have hcg : Chg (fun k => k = wb ∨ (Value.slice (some ⟨g, 0, none⟩) ns c).ownBlock = some k) w2 w4 := ((Chg.refl _ w2).alloc _).grown hg4 (fun k e => .inl (.inr e))
       have H4 := Lib.hid (And.intro hown (And.intro hx4 (And.intro hcg hor)))
       have hsz4 := hcg.size
       clear hown hg4 hor hD3 hx4 hcg))
  have hx5 := H4.out.2.1.set_ 0 (.slice b4 (ns + 1) c4)
  have hc5 := H4.out.2.2.1.setCell (p := ⟨wb, 0, none⟩) (.inl (.inl rfl)) (.slice b4 (ns + 1) c4)
  have hwD : ∀ k, (Value.slice b4 (ns + 1) c4).ownBlock = some k → k ≠ wb := fun k hk e => by subst e; exact box_row H4.out.2.1 H4.out.1 (by decide) hk
  have hd5 := row_far H4.out.1 (p := ⟨wb, 0, none⟩) hwD (.slice b4 (ns + 1) c4)
  obtain ⟨W5, hW5⟩ : ∃ W5, w4.setCell ⟨wb, 0, none⟩ (.slice b4 (ns + 1) c4) = W5 := ⟨_, rfl⟩
  rw [hW5] at hx5 hc5 hd5 ⊢
  have hx5' : Box W5 wb 35 #[.slice b4 (ns + 1) c4, .slice (some ⟨g', 0, none⟩) ns c', Lv] := by simpa using hx5
  have hcS : Chg (Tops wb (St.at ns ds rs vs ls g c g' c')) w2 W5 := hc5.mono fun k _ hk => hk.elim .inl (fun h => .inr (.inl h))
  have hr5 : RR W5 B (rs i) (vs i) (ls i) := H2.out.2.2.keepR hcS (H2.out.2.2.ref i hi0)
  have hR5 : W5.ownsRow B 30 1 (.slice (some ⟨g', 0, none⟩) ns c') ns (ptrs rs ns) := row_chg H2.out.2.2.rowR hc5 fun k hk e => by
    rcases e with rfl | e
    · exact box_row H2.out.2.2.box H2.out.2.2.rowR (by decide) hk
    · exact row_row H2.out.2.2.rowD H2.out.2.2.rowR (by decide) e hk
  obtain ⟨W6, hW6⟩ : ∃ W6, W5.drew = W6 := ⟨_, rfl⟩
  have hs26 : w2.heap.size ≤ W6.heap.size := by rw [← hW6]; exact hcS.size
  have hx6 : Box W6 wb 35 #[.slice b4 (ns + 1) c4, .slice (some ⟨g', 0, none⟩) ns c', Lv] := by rw [← hW6]; exact hx5'.drew
  have hc6 : Chg (fun k => k = wb ∨ (Value.slice (some ⟨g, 0, none⟩) ns c).ownBlock = some k) w2 W6 := by rw [← hW6]; exact hc5.drew
  have hd6 : W6.ownsRow B 23 1 (.slice b4 (ns + 1) c4) (ns + 1) (ptrs ds ns ++ [.pointer (some ⟨W1.heap.size, 0, none⟩)]) := by rw [← hW6]; exact hd5
  have hR6 : W6.ownsRow B 30 1 (.slice (some ⟨g', 0, none⟩) ns c') ns (ptrs rs ns) := by rw [← hW6]; exact hR5
  have hr6 : RR W6 B (rs i) (vs i) (ls i) := by rw [← hW6]; exact hr5.below (below_drewN (Below.refl _ _) 1)
  clear hx5 hc5 hd5 hx5' hcS hr5 hR5
  have hS0 : W6.cell? ⟨wb, 1, none⟩ = some (.slice (some ⟨g', 0, none⟩) ns c') := hx6.cell 1
  have H6 := Lib.hid (And.intro hx6 (And.intro hc6 (And.intro hd6 (And.intro hR6 hr6))))
  clear hx6 hc6 hd6 hR6 hr6 hx4c hx4f hxc hcD hcR hbc
  refine WT.start (fun w' : World => w'.cell? ⟨wb, 1, none⟩ = some (.slice (some ⟨g', 0, none⟩) ns c')) 11 (by kernel_rfl) ?_
  rw [hW6]
  clear hW6 hW5
  refine WT.take 0 (v := ?_) rfl (by kernel_rfl) (by kernel_rfl) (by kernel_rfl) (by kernel_rfl) (fun _ _ _ h => h) (Or.inl ⟨by rfl, ?hy⟩) hS0 ?_
  case hy => first | (intro w hSw; go_simp; done) | (intro w hSw; go_simp; with_reducible rfl)
  simp only [Act.put, List.setIfInBounds_toArray, List.set_cons_zero, List.set_cons_succ]
  refine WT.take 1 (v := ?_) rfl (by kernel_rfl) (by kernel_rfl) (by kernel_rfl) (by kernel_rfl) (fun _ _ _ h => h) (Or.inl ⟨by rfl, ?hy⟩) hS0 ?_
  case hy => first | (intro w hSw; go_simp; done) | (intro w hSw; go_simp; with_reducible rfl)
  simp only [Act.put, List.setIfInBounds_toArray, List.set_cons_zero, List.set_cons_succ]
  refine WT.take 2 (v := ?_) rfl (by kernel_rfl) (by kernel_rfl) (by kernel_rfl) (by kernel_rfl) (fun _ _ _ h => h) (Or.inl ⟨by rfl, ?hy⟩) hS0 ?_
  case hy => first | (intro w hSw; go_simp; done) | (intro w hSw; go_simp; with_reducible rfl)
  simp only [Act.put, List.setIfInBounds_toArray, List.set_cons_zero, List.set_cons_succ]
  refine WT.take 3 (v := ?_) rfl (by kernel_rfl) (by kernel_rfl) (by kernel_rfl) (by kernel_rfl) (fun _ _ _ h => h) (Or.inl ⟨by rfl, ?hy⟩) hS0 ?_
  case hy => first | (intro w hSw; go_simp; done) | (intro w hSw; go_simp; with_reducible rfl)
  simp only [Act.put, List.setIfInBounds_toArray, List.set_cons_zero, List.set_cons_succ]
  refine WT.take 4 (v := ?_) rfl (by kernel_rfl) (by kernel_rfl) (by kernel_rfl) (by kernel_rfl) (fun _ _ _ h => h) (Or.inl ⟨by rfl, ?hy⟩) hS0 ?_
  case hy => first | (intro w hSw; go_simp; done) | (intro w hSw; go_simp; with_reducible rfl)
  simp only [Act.put, List.setIfInBounds_toArray, List.set_cons_zero, List.set_cons_succ]
  refine WT.take 5 (v := ?_) rfl (by kernel_rfl) (by kernel_rfl) (by kernel_rfl) (by kernel_rfl) (fun _ _ _ h => h) (Or.inl ⟨by rfl, ?hy⟩) hS0 ?_
  case hy => first | (intro w hSw; go_simp; done) | (intro w hSw; go_simp; with_reducible rfl)
  simp only [Act.put, List.setIfInBounds_toArray, List.set_cons_zero, List.set_cons_succ]
  refine WT.step 6 rfl (by kernel_rfl) (by decide) fun K hK => ?_
  go_simp
  go_at_call 36
  refine (freeze8 B (rs i) (vs i) (ls i) _ H6.out.2.2.2.2 (by omega) (by omega)).mono ?_
  rintro e w7 ⟨rfl, ⟨v7, hr7, hv7⟩, hb7⟩
  have hx7 := H6.out.1.below hb7 H6.out.1.lt
  have hS7 : w7.cell? ⟨wb, 1, none⟩ = some (.slice (some ⟨g', 0, none⟩) ns c') := hx7.cell 1
  have hs7 := hb7.size
  have hl7 := hr7.1.lt
  have H7 := Lib.hid (And.intro hr7 (And.intro hv7 (And.intro hb7 (And.intro hx7 (row_below H6.out.2.2.2.1 hb7)))))
  clear hr7 hv7 hb7 hx7 hS0
  go_simp
  refine hK.out _ _ hS7 ?_
  clear hK K
  refine WT.step 7 rfl (by kernel_rfl) (by decide) fun K hK => ?_
  go_simp
  have hS8 : (w7.alloc (.cells #[.pointer (some ⟨W6.heap.size, 0, none⟩)] 30)).cell? ⟨wb, 1, none⟩ = some (.slice (some ⟨g', 0, none⟩) ns c') := (H7.out.2.2.2.1.alloc _).cell 1
  clear hS7
  refine hK.out _ _ hS8 ?_
  clear hK K
  refine WT.step 8 rfl (by kernel_rfl) (by decide) fun K hK => ?_
  refine step_app _ _ 32 (by rfl) B 30 i2 _ 1 8 Try.underlying32 hi2' hz2 hs2' hy2 rfl (by decide) (.slice (some ⟨g', 0, none⟩) ns c') ns (ptrs rs ns) (by rfl) (row_below H7.out.2.2.2.2 (bal w7 _)) _ _ 1 1 [.pointer (some ⟨W6.heap.size, 0, none⟩)] (by rfl) (by rfl) (rd_new _ _ _) (by simp [Value.oneCell']) (by unfold maxLen; have := HL8.out; omega) (by have := HL8.out; omega) (by simp; omega) ?_
  intro v9 w9 hown hgr hor
  obtain ⟨b9, c9, rfl⟩ := row_slice hown
  have hx8 := H7.out.2.2.2.1.alloc (.cells #[.pointer (some ⟨W6.heap.size, 0, none⟩)] 30)
  have hR8 := row_below H7.out.2.2.2.2 (bal w7 (.cells #[.pointer (some ⟨W6.heap.size, 0, none⟩)] 30))
  have hx9 := hx8.grown hgr (fun e => box_row hx8 hR8 (by decide) e.symm)
  have hS9 : w9.cell? ⟨wb, 1, none⟩ = some (.slice (some ⟨g', 0, none⟩) ns c') := hx9.cell 1
  have hff := hx9.free 1
  have hfl := hx9.lt
  have hg6 : Chg (fun k => (Value.slice (some ⟨g', 0, none⟩) ns c').ownBlock = some k) W6 w9 := ((Chg.of_below H7.out.2.2.1 _).alloc _).grown hgr (fun k e => .inl e)
  have hg7 : Chg (fun k => (Value.slice (some ⟨g', 0, none⟩) ns c').ownBlock = some k) w7 w9 := ((Chg.refl _ w7).alloc _).grown hgr (fun k e => .inl e)
  have hgl : ∀ k, (Value.slice (some ⟨g', 0, none⟩) ns c').ownBlock = some k → k < W6.heap.size := fun k hk => row_lt H6.out.2.2.2.1 hk
  have H9 := Lib.hid (And.intro hown (And.intro hx9 (And.intro hg6 (And.intro hg7 (And.intro hor hgl)))))
  clear hown hgr hor hx8 hR8 hx9 hg6 hg7 hgl hS8
  go_simp
  refine hK.out _ _ hS9 ?_
  clear hK K
  refine WT.step 9 rfl (by kernel_rfl) (by decide) fun K hK => ?_
  go_simp
  refine hK.out _ _ hS9 ?_
  clear hK K
  refine WT.take 10 (v := ?_) rfl (by kernel_rfl) (by kernel_rfl) (by kernel_rfl) (by kernel_rfl) (fun _ _ _ h => h) (Or.inl ⟨by rfl, ?hy⟩) hS9 ?_
  case hy => first | (intro w hSw; go_simp; done) | (intro w hSw; go_simp; with_reducible rfl)
  simp only [Act.put, List.setIfInBounds_toArray, List.set_cons_zero, List.set_cons_succ]
  refine WT.last 11 rfl (by kernel_rfl) rfl fun K hK => ?_
  go_simp
  refine hK.out _ _ ?_
  clear hK K
  refine WT.done (by kernel_rfl) ?_
  go_wp2
  go_ret
  refine ⟨rfl, ?_⟩
  have hW9 : ∀ k, (Value.slice b9 (ns + 1) c9).ownBlock = some k → k ≠ wb := fun k hk e => by subst e; exact box_row H9.out.2.1 H9.out.1 (by decide) hk
  have hxF := H9.out.2.1.set_ 1 (.slice b9 (ns + 1) c9)
  have hRF := row_far H9.out.1 (p := ⟨wb, 1, none⟩) hW9 (.slice b9 (ns + 1) c9)
  have hcF : Chg (Tops wb (St.at ns ds rs vs ls g c g' c')) w2 (w9.setCell ⟨wb, 1, none⟩ (.slice b9 (ns + 1) c9)) := by
    refine Chg.setCell (p := ⟨wb, 1, none⟩) ?_ (.inl (.inl rfl)) _
    exact (H6.out.2.1.mono fun k _ hk => hk.elim .inl (fun h => .inr (.inl h))).trans ⟨H9.out.2.2.1.os, H9.out.2.2.1.tape, H9.out.2.2.1.output, H9.out.2.2.1.size, fun k hk hn => H9.out.2.2.1.block k hk fun e => hn (.inr (.inr e))⟩
  have hDF := H2.out.2.2.keepD hcF H2.out.1
  have hdF := row_far (row_chg H6.out.2.2.1 H9.out.2.2.1 fun k hk e => row_row H6.out.2.2.1 H6.out.2.2.2.1 (by decide) hk e) (p := ⟨wb, 1, none⟩) hwD (.slice b9 (ns + 1) c9)
  have hwb6 := H6.out.1.lt
  have hrF : RR (w9.setCell ⟨wb, 1, none⟩ (.slice b9 (ns + 1) c9)) B W6.heap.size v7 (ls i) := by
    refine RR.far (H7.out.1.chg H9.out.2.2.2.1 (fun e => ?_) fun k hk e => ?_) (by show W6.heap.size ≠ wb; omega) (fun k hk => by have := H7.out.2.1 k hk; show k ≠ wb; omega) _
    · have := H9.out.2.2.2.2.2 _ e
      omega
    · have := H9.out.2.2.2.2.2 _ e
      have := H7.out.2.1 k hk
      omega
  have hg2 : ∀ k, (Value.slice b4 (ns + 1) c4).ownBlock = some k → (Value.slice (some ⟨g, 0, none⟩) ns c).ownBlock = some k ∨ W1.heap.size ≤ k := fun k hk => by
    rcases H4.out.2.2.2 with e | e
    · exact .inl (e ▸ hk)
    · rw [hk] at e; injection e with e; exact .inr (by rw [e]; simp; omega)
  have hg3 : ∀ k, (Value.slice b9 (ns + 1) c9).ownBlock = some k → (Value.slice (some ⟨g', 0, none⟩) ns c').ownBlock = some k ∨ W1.heap.size ≤ k := fun k hk => by
    rcases H9.out.2.2.2.2.1 with e | e
    · exact .inl (e ▸ hk)
    · rw [hk] at e; injection e with e; exact .inr (by rw [e]; simp; omega)
  have hcW : Chg (Tops wb (St.at ns ds rs vs ls g c g' c')) W1 (w9.setCell ⟨wb, 1, none⟩ (.slice b9 (ns + 1) c9)) := (Chg.of_below H2.out.2.1 _).trans hcF
  obtain ⟨s', h1, h2⟩ := H1.out.1.grow (f := W1.heap.size) (r := W6.heap.size) hi0 HL8.out hcW (by simpa using hxF) hdF hRF hDF hrF (Nat.le_refl _) (by omega) (fun k hk => by have := H7.out.2.1 k hk; omega) hg2 hg3
  exact ⟨s', h1.mono (by omega), h2.ahead H1.out.2.2⟩
end Go.Proofs.Ytglmhpmjebjcgaa
/- KeydirMoves: first, taken. -/
namespace Go.Proofs.Ytglmhpmjebjcgaa
open Go.RowKit Go.Maps Go.Shelf
attribute [local go_sem] Oper.semAt_some

def firstN (len : Nat) (k : Int) : Nat := if 0 ≤ k ∧ k < len then k.toNat else len
def firstL (xs : List KE) (k : Int) : List KE := xs.take (firstN xs.length k)
theorem firstN_le (len : Nat) (k : Int) : firstN len k ≤ len := by unfold firstN; split <;> omega
theorem firstL_len (xs : List KE) (k : Int) : (firstL xs k).length = firstN xs.length k := by
  unfold firstL
  rw [List.length_take]
  have := firstN_le xs.length k
  omega
theorem firstL_all {xs : List KE} {k : Int} (h : k < 0 ∨ (xs.length : Int) < k) : firstL xs k = xs := by
  unfold firstL firstN
  rw [if_neg (by omega), List.take_length]
theorem firstL_pre {xs pre : List KE} {k : Int} (h : pre <+: xs) (hk : (pre.length : Int) = k) : firstL xs k = pre := by
  obtain ⟨t, rfl⟩ := h
  unfold firstL firstN
  by_cases ht : t = []
  · subst ht
    rw [if_neg (by simp; omega), List.append_nil, List.take_length]
  · have : 0 < t.length := List.length_pos_iff.2 ht
    rw [if_pos (by simp; omega), show k.toNat = pre.length by omega, List.take_left]
theorem firstL_zero (xs : List KE) : firstL xs 0 = [] := by
  unfold firstL firstN
  cases xs <;> simp
set_option maxRecDepth 100000 in
theorem first_any (A : Option Addr) (len c : Nat) (k : Int) (hc : len ≤ c) (w : World) :
    Calls Try.prog 32 #[.slice A len c, .int .i64 k] w fun e w' => e = .returned (.slice A (firstN len k) c) ∧ w' = w := by
  have hsl := fun (r : Nat) (hr : r ≤ c) W => run_head A len c r hr W
  by_cases h1 : 0 ≤ k
  · by_cases h2 : k < len
    · obtain ⟨q, rfl⟩ : ∃ q : Nat, k = q := ⟨k.toNat, by omega⟩
      have hf : firstN len (q : Int) = q := by unfold firstN; rw [if_pos ⟨h1, h2⟩]; simp
      have hs := hsl q (by omega)
      rw [hf]
      have h3 : (q : Int) ≤ c := by omega
      clear hsl hf
      go_enter Try.func32, Try.ntmps32
      go_wp2
      go_ret
      exact ⟨by first | rfl | simp, rfl⟩
    · have hf : firstN len k = len := by unfold firstN; rw [if_neg (by omega)]
      rw [hf]
      clear hsl hf
      go_enter Try.func32, Try.ntmps32
      go_wp2
      go_ret
      exact ⟨rfl, rfl⟩
  · have hf : firstN len k = len := by unfold firstN; rw [if_neg (by omega)]
    rw [hf]
    clear hsl hf
    go_enter Try.func32, Try.ntmps32
    go_wp2
    go_ret
    exact ⟨rfl, rfl⟩

/-- What taken answers: xs in a row of its own. -/
def TV (xs : List KE) (w : World) (e : Ending) (w' : World) : Prop := ∃ v, e = .returned (.tuple #[v, .bool true]) ∧ w'.ownsRow w.heap.size 58 7 v xs.length (xs.flatMap keC) ∧ Below w.heap.size w w'

set_option maxRecDepth 100000 in
set_option maxHeartbeats 8000000 in
theorem taken_all (d : Nat) (xs : List KE) (dir : Int) (key hi : ByteArray) (en : En) (n : Int) (w : World) (h : DR w d xs) (hlo : key.size ≤ maxLen) (hhi : hi.size ≤ maxLen) (hN : xs.length ≤ 2199023255488) :
    Calls Try.prog 31 #[.pointer (some ⟨d, 0, none⟩), Mv.v ⟨dir, 8, key, hi, en, n⟩] w (TV (firstL (sel key hi xs) n) w) := by
  obtain ⟨i0, hi0, hz0, hs0, hy0⟩ := info_parts infoKE
  have hfe := fun f cs W => fn_eq f cs W
  obtain ⟨T, p, hd, hT, rfl, hs, hk⟩ := h
  have hsl : (sel key hi T.flat).length ≤ 2199023255488 := Nat.le_trans (List.length_filter_le _ _) hN
  have b1 := Box.new w 40 #[.int .i64 dir, .int .i64 8, .string key, .string hi, .int .i64 en.seg, .int .i64 en.at_, .int .i64 en.size, .int .i64 en.off, .int .i64 en.time, .bool en.tomb, .int .i64 n]
  have b2 := Boxed.new (w.alloc (.cells #[.int .i64 dir, .int .i64 8, .string key, .string hi, .int .i64 en.seg, .int .i64 en.at_, .int .i64 en.size, .int .i64 en.off, .int .i64 en.time, .bool en.tomb, .int .i64 n] 40)) 43 (.slice none 0 0)
  simp only [World.size_alloc] at b2
  have b1' := b1.alloc (.cells #[.slice none 0 0] 43)
  have hxa := b1'.cell
  obtain ⟨W0, hW0⟩ : ∃ W0, W0 = (((((w.alloc (.cells #[.int .i64 dir, .int .i64 8, .string key, .string hi, .int .i64 en.seg, .int .i64 en.at_, .int .i64 en.size, .int .i64 en.off, .int .i64 en.time, .bool en.tomb, .int .i64 n] 40)).alloc (.cells #[.slice none 0 0] 43)).alloc (.cells #[.pointer (some ⟨d, 0, none⟩)] 23)).alloc (.cells #[.string key] 9)).alloc (.cells #[.string hi] 9)) := ⟨_, rfl⟩
  have hb0 : Below w.heap.size w W0 := by
    rw [hW0]
    repeat (first | exact Below.refl _ _ | refine Below.alloc ?_ (by simp <;> omega) _)
  have hsz : W0.heap.size = w.heap.size + 5 := by rw [hW0]; simp
  have x1 : Box W0 w.heap.size 40 #[.int .i64 dir, .int .i64 8, .string key, .string hi, .int .i64 en.seg, .int .i64 en.at_, .int .i64 en.size, .int .i64 en.off, .int .i64 en.time, .bool en.tomb, .int .i64 n] := by rw [hW0]; repeat (first | exact b1' | refine Box.alloc ?_ _)
  have x2 : Boxed W0 (w.heap.size + 1) 43 (.slice none 0 0) := by rw [hW0]; repeat (first | exact b2 | refine Boxed.alloc ?_ _)
  have y0 : Box W0 (w.heap.size + 2) 23 #[.pointer (some ⟨d, 0, none⟩)] := by
    have z := Box.new ((w.alloc (.cells #[.int .i64 dir, .int .i64 8, .string key, .string hi, .int .i64 en.seg, .int .i64 en.at_, .int .i64 en.size, .int .i64 en.off, .int .i64 en.time, .bool en.tomb, .int .i64 n] 40)).alloc (.cells #[.slice none 0 0] 43)) 23 #[.pointer (some ⟨d, 0, none⟩)]
    simp only [World.size_alloc, Nat.add_assoc, Nat.reduceAdd] at z
    rw [hW0]
    repeat (first | exact z | refine Box.alloc ?_ _)
  have y1 : Box W0 (w.heap.size + 3) 9 #[.string key] := by
    have z := Box.new (((w.alloc (.cells #[.int .i64 dir, .int .i64 8, .string key, .string hi, .int .i64 en.seg, .int .i64 en.at_, .int .i64 en.size, .int .i64 en.off, .int .i64 en.time, .bool en.tomb, .int .i64 n] 40)).alloc (.cells #[.slice none 0 0] 43)).alloc (.cells #[.pointer (some ⟨d, 0, none⟩)] 23)) 9 #[.string key]
    simp only [World.size_alloc, Nat.add_assoc, Nat.reduceAdd] at z
    rw [hW0]
    repeat (first | exact z | refine Box.alloc ?_ _)
  have y2 : Box W0 (w.heap.size + 4) 9 #[.string hi] := by
    have z := Box.new ((((w.alloc (.cells #[.int .i64 dir, .int .i64 8, .string key, .string hi, .int .i64 en.seg, .int .i64 en.at_, .int .i64 en.size, .int .i64 en.off, .int .i64 en.time, .bool en.tomb, .int .i64 n] 40)).alloc (.cells #[.slice none 0 0] 43)).alloc (.cells #[.pointer (some ⟨d, 0, none⟩)] 23)).alloc (.cells #[.string key] 9)) 9 #[.string hi]
    simp only [World.size_alloc, Nat.add_assoc, Nat.reduceAdd] at z
    rw [hW0]
    repeat (first | exact z | refine Box.alloc ?_ _)
  have hxb := fun k => show W0.cell? ⟨w.heap.size, k, none⟩ = _ from x1.cell k
  have x2c : W0.cell? ⟨w.heap.size + 1, 0, none⟩ = some (.slice none 0 0) := x2.cell
  rw [hW0] at hxb x2c
  have HB := Lib.hid (And.intro hd (And.intro hT (And.intro hs hk)))
  have HX := Lib.hid (And.intro hb0 (And.intro x1 (And.intro x2 (And.intro y0 (And.intro y1 (And.intro y2 True.intro))))))
  have HW0 := Lib.hid hW0
  clear b1 b2 b1' hb0 x1 x2 y0 y1 y2 hd hT hs hk hN hW0
  refine cfw (n := 9) ?_
  refine callsIn_of_wp_marks Try.func31 rfl trivial ?_ rfl
  simp only [Try.ntmps31, List.size_toArray, List.length_cons, List.length_nil, Nat.reduceAdd, Nat.reduceSub, Array.replicate_succ, Array.replicate_zero, List.push_toArray, List.append_toArray, List.nil_append, List.cons_append]
  by_cases hn : n = 0
  · have hnd : decide (n = 0) = true := decide_eq_true hn
    subst hn
    gi_wp2_with (first
    | (gi_at_call 49
       refine (wfc (all_any (some ⟨d, 0, none⟩) key hi _)).mono ?_
       rintro e w' ⟨rfl, rfl⟩))
    refine ⟨.tuple #[.slice none 0 0, .bool true], ?_, ?_⟩
    · simp [results, Try.results31, go_sem]
    rw [firstL_zero]
    have hb := HX.out.1
    rw [HW0.out] at hb
    exact ⟨_, rfl, World.ownsRow_nil _ _ _ _, hb⟩
  · have hnd : decide (n = 0) = false := decide_eq_false hn
    have hnb : (n == 0) = false := by simpa using hn
    gi_wp2_with (first
    | (gi_at_call 49
       refine (wfc (all_any (some ⟨d, 0, none⟩) key hi _)).mono ?_
       rintro e w' ⟨rfl, rfl⟩))
    rw [← HW0.out]
    clear hxa hxb x2c HW0
    generalize hA : Act.mk _ _ = act0
    refine wpIn_rangeFunc_ownM rfl (by omega) (gf := 53) (lb := #[.pointer (some ⟨w.heap.size + 1 + 1 + 1, 0, none⟩), .pointer (some ⟨w.heap.size + 1 + 1 + 2, 0, none⟩), .pointer (some ⟨w.heap.size + 1 + 1, 0, none⟩)]) (by rw [← hA]; rfl) trivial (enters_of Try.func53 (by kernel_rfl) rfl)
      (SeqM.of_stops (all_stops 8 key hi hlo hhi _ _ _ (some ⟨d, 0, none⟩) p T W0 HB.out.2.2.1 HB.out.2.2.2 (HB.out.2.1.below HX.out.1) (.inr ⟨d, rfl, HB.out.1.below HX.out.1 HB.out.1.lt⟩) HX.out.2.2.2.2.1 HX.out.2.2.2.2.2.1 HX.out.2.2.2.1)) (fun h k => Kp.trans h k) (fun W l o o' _ h hc _ => kp_put W l o o' h hc) (Below.refl _ _) (fun _ => rfl)
      (fun (pre : List KE) V => (∃ v, Boxed V (w.heap.size + 1) 43 v ∧ V.ownsRow w.heap.size 58 7 v pre.length (pre.flatMap keC) ∧ True) ∧ Box V w.heap.size 40 #[.int .i64 dir, .int .i64 8, .string key, .string hi, .int .i64 en.seg, .int .i64 en.at_, .int .i64 en.size, .int .i64 en.off, .int .i64 en.time, .bool en.tomb, .int .i64 n] ∧ Below w.heap.size w V ∧ (n < 0 ∨ (pre.length : Int) < n))
      (fun c (pre : List KE) V => c = .exit 0 ∧ (∃ v, Boxed V (w.heap.size + 1) 43 v ∧ V.ownsRow w.heap.size 58 7 v pre.length (pre.flatMap keC) ∧ True) ∧ Below w.heap.size w V ∧ ((pre.length : Int) = n))
      (OwnFrom.and (Own.from (holdsRow_own w.heap.size (w.heap.size + 1) 43 58 7 (fun pre : List KE => pre.length) (fun pre : List KE => pre.flatMap keC) (fun _ _ => True)) _) (OwnFrom.and (box_own1 (β := List KE) _ _ _ _) (OwnFrom.and (ownFrom_below (by have := HX.out.1.size; omega) (by omega)) (ownFrom_pure _ _))))
      (fun c => OwnFrom.and (ownFrom_pure _ _) (OwnFrom.and (Own.from (holdsRow_own w.heap.size (w.heap.size + 1) 43 58 7 (fun pre : List KE => pre.length) (fun pre : List KE => pre.flatMap keC) (fun _ _ => True)) _) (OwnFrom.and (ownFrom_below (by have := HX.out.1.size; omega) (by omega)) (ownFrom_pure _ _))))
      ⟨⟨_, HX.out.2.2.1, World.ownsRow_nil _ _ _ _, trivial⟩, HX.out.2.1, HX.out.1, by simp; omega⟩
      (fun (x : KE) a' V => ∃ Bx, w.heap.size + 2 ≤ Bx ∧ Box V Bx 38 x.2.cells.toArray ∧ a' = { tmps := (((act0.tmps.setIfInBounds 31 (.string x.1)).setIfInBounds 32 x.2.v).setIfInBounds 8 (.string x.1)).setIfInBounds 9 (.pointer (some ⟨Bx, 0, none⟩)), defers := [] })
      (fun x a' s A B row h hg hr => by obtain ⟨Bx, h1, h2, h3⟩ := h; exact ⟨Bx, h1, box_own1 (β := Unit) _ Bx _ _ s A B row h2 hg hr, h3⟩)
      ?assign ?body ?done ?stop
    case assign =>
      rintro l pre x V K ⟨⟨v, hv, hrow, _⟩, hlb, hB, hlt⟩ hK
      unfold encK
      rw [← hA] at hK ⊢
      have hB2 := hB.size
      have hvl := hv.lt
      gi_wp2
      refine hK _ _ ((KeepsOthers.alloc _ _).from _) (Kp.of_below (bal _ _)) ⟨⟨v, hv.alloc _, hrow.alloc _, trivial⟩, hlb.alloc _, hB.alloc hB2 _, hlt⟩ ⟨V.heap.size, by omega, Box.new V _ _, ?_⟩
      simp only [List.setIfInBounds_toArray, List.set_cons_zero, List.set_cons_succ, hnb]
    case body =>
      rintro l pre x a' W hl ⟨r, hr⟩ ⟨⟨v, hv, hrow, _⟩, hlb, hB, hlt⟩ ⟨Bx, hBx, bX, rfl⟩ hlN
      rw [← hA]
      simp only [List.setIfInBounds_toArray, List.set_cons_zero, List.set_cons_succ]
      have hc := hv.cell
      have hcl := hlb.cell
      have hcx := bX.cell
      unfold En.cells at hcx
      have Hr := Lib.hid hr
      have hN2 : pre.length + 1 ≤ 2199023255488 := by omega
      have HS := Lib.hid (And.intro hv (And.intro hrow (And.intro hlb (And.intro hB bX))))
      have hkr : ¬ KpT 58 := by unfold KpT; decide
      have hkb : ¬ KpT 43 := by unfold KpT; decide
      have HK := Lib.hid (And.intro hkr hkb)
      have hvl := hv.lt
      clear hr hv hrow hlb hB bX hkr hkb hlN
      by_cases heq : ((pre.length : Int) + 1 = n)
      all_goals
        first | have hde : decide ((pre.length : Int) + 1 = n) = true := decide_eq_true heq | have hde : decide ((pre.length : Int) + 1 = n) = false := decide_eq_false heq
        gi_wp2_with (first
          | (gi_at_builtin
             refine wpListIn_append_own _ rfl (.tmp 33) (.tmp 37) 43 rfl w.heap.size 58 i0 _ 7 64 Try.underlying43 hi0 hz0 hs0 hy0 rfl (by decide) v pre.length (pre.flatMap keC) rfl (HS.out.2.1.alloc _) ⟨W.heap.size, 0, none⟩ 1 1 (keC x) rfl rfl (World.news_of_block (cs := (keC x).toArray) (t := 58) (fr := (0, 0)) (heap_alloc_new W _)) (by simp [keC, En.cells, Value.oneCell']) (by unfold maxLen; omega) (by omega) (by have := HS.out.2.2.2.1.size; simp; omega) ?_
             intro v' w1 hown' hgrow _
             obtain ⟨g', cap', rfl⟩ := ownsRow_succ hown'
             obtain ⟨hv1, hv2, hr2, hk2, hb2⟩ := HS.out.1.appended (by decide) HS.out.2.1 HS.out.2.2.2.1.size (by omega) hown' hgrow
             have hc1 := hv1.cell
             have hf1 := hv1.frozen
             have hxm1 := ((HS.out.2.2.1.alloc (.cells (keC x).toArray 58)).grown hgrow (fun e => box_row (HS.out.2.2.1.alloc (.cells (keC x).toArray 58)) (HS.out.2.1.alloc (.cells (keC x).toArray 58)) (by decide) e.symm))
             have hkp1 : Kp W w1 := (Kp.of_below (bal W (.cells (keC x).toArray 58))).trans (Kp.grown hgrow (kp_row (HS.out.2.1.alloc _) HK.out.1))
             have hxm2 := hxm1.far (p := ⟨w.heap.size + 1, 0, none⟩) (by show w.heap.size ≠ w.heap.size + 1; omega) (.slice (some ⟨g', 0, none⟩) (pre.length + 1) cap')
             have hxm2c := hxm2.cell
             have HS2 := Lib.hid (And.intro hv2 (And.intro hr2 (And.intro hk2 (And.intro hb2 (And.intro hxm2 (hkp1.trans (Kp.grown (grownBy_setCell' w1 (w.heap.size + 1) (.slice (some ⟨g', 0, none⟩) (pre.length + 1) cap')) (fun k e => by cases e; exact kp_box hv1 HK.out.2))))))))
             have hv2c := hv2.cell
             clear hv1 hv2 hr2 hk2 hb2 hown' hgrow hxm1 hxm2 hkp1))
        first
          | exact ⟨HS2.out.2.2.1.from _, HS2.out.2.2.2.2.2, ⟨⟨_, HS2.out.1, by simpa using HS2.out.2.1, trivial⟩, HS2.out.2.2.2.2.1, HS.out.2.2.2.1.trans HS2.out.2.2.2.1, by simp only [List.length_append, List.length_cons, List.length_nil]; omega⟩⟩
          | exact ⟨HS2.out.2.2.1.from _, rfl, ⟨_, HS2.out.1, by simpa using HS2.out.2.1, trivial⟩, HS.out.2.2.2.1.trans HS2.out.2.2.2.1, by simp only [List.length_append, List.length_cons, List.length_nil]; omega⟩
    case done =>
      rintro D ys V hD rfl ⟨⟨v, hv, hrow, _⟩, hlb, hB, hlt⟩ hK
      rw [← hA]
      have hc := hv.cell
      have HH := Lib.hid (And.intro hrow hB)
      have HKK := Lib.hid hK
      clear hrow hB hK
      gi_wp2
      refine ⟨by simp, .inl ⟨_, _, rfl, run_takeDeferred HKK.out, ?_⟩⟩
      refine ⟨.tuple #[v, .bool true], ?_, ?_⟩
      · simp [results, Try.results31, go_sem]
      rw [firstL_all (hlt.imp id fun h => by omega)]
      exact ⟨v, rfl, ownsRow_putObj HH.out.1 _ HKK.out rfl, HH.out.2.trans (belowK_b (w := w) (Nat.le_refl _) V D _ _ (by omega) HKK.out rfl rfl)⟩
    case stop =>
      rintro D c pre V hD hpre ⟨rfl, ⟨v, hv, hrow, _⟩, hB, hln⟩ hK
      rw [← hA]
      have hc := hv.cell
      have hR := firstL_pre hpre hln
      have HH := Lib.hid (And.intro hrow (And.intro hB hR))
      have HKK := Lib.hid hK
      clear hrow hB hK hR hpre
      gi_wp2
      refine ⟨by simp, .inl ⟨_, _, rfl, run_takeDeferred HKK.out, ?_⟩⟩
      refine ⟨.tuple #[v, .bool true], ?_, ?_⟩
      · simp [results, Try.results31, go_sem]
      rw [HH.out.2.2]
      exact ⟨v, rfl, ownsRow_putObj HH.out.1 _ HKK.out rfl, HH.out.2.1.trans (belowK_b (w := w) (Nat.le_refl _) V D _ _ (by omega) HKK.out rfl rfl)⟩
set_option maxRecDepth 100000 in
set_option maxHeartbeats 8000000 in
theorem taken_pre (d : Nat) (xs : List KE) (dir : Int) (key hi : ByteArray) (en : En) (n : Int) (w : World) (h : DR w d xs) (hlo : key.size ≤ maxLen) (hhi : hi.size ≤ maxLen) (hN : xs.length ≤ 2199023255488) :
    Calls Try.prog 31 #[.pointer (some ⟨d, 0, none⟩), Mv.v ⟨dir, 9, key, hi, en, n⟩] w (TV (firstL (xs.filter (preB key)) n) w) := by
  obtain ⟨i0, hi0, hz0, hs0, hy0⟩ := info_parts infoKE
  have hfe := fun f cs W => fn_eq f cs W
  obtain ⟨T, p, hd, hT, rfl, hs, hk⟩ := h
  have hsl : (T.flat.filter (preB key)).length ≤ 2199023255488 := Nat.le_trans (List.length_filter_le _ _) hN
  have b1 := Box.new w 40 #[.int .i64 dir, .int .i64 9, .string key, .string hi, .int .i64 en.seg, .int .i64 en.at_, .int .i64 en.size, .int .i64 en.off, .int .i64 en.time, .bool en.tomb, .int .i64 n]
  have b2 := Boxed.new (w.alloc (.cells #[.int .i64 dir, .int .i64 9, .string key, .string hi, .int .i64 en.seg, .int .i64 en.at_, .int .i64 en.size, .int .i64 en.off, .int .i64 en.time, .bool en.tomb, .int .i64 n] 40)) 43 (.slice none 0 0)
  simp only [World.size_alloc] at b2
  have b1' := b1.alloc (.cells #[.slice none 0 0] 43)
  have hxa := b1'.cell
  obtain ⟨W0, hW0⟩ : ∃ W0, W0 = (((((((w.alloc (.cells #[.int .i64 dir, .int .i64 9, .string key, .string hi, .int .i64 en.seg, .int .i64 en.at_, .int .i64 en.size, .int .i64 en.off, .int .i64 en.time, .bool en.tomb, .int .i64 n] 40)).alloc (.cells #[.slice none 0 0] 43)).alloc (.cells #[.pointer (some ⟨d, 0, none⟩)] 23)).alloc (.cells #[.string key] 9)).alloc (.cells #[.string hi] 9)).alloc (.cells #[.pointer (some ⟨d, 0, none⟩)] 23)).alloc (.cells #[.string key] 9)) := ⟨_, rfl⟩
  have hb0 : Below w.heap.size w W0 := by
    rw [hW0]
    repeat (first | exact Below.refl _ _ | refine Below.alloc ?_ (by simp <;> omega) _)
  have hsz : W0.heap.size = w.heap.size + 7 := by rw [hW0]; simp
  have x1 : Box W0 w.heap.size 40 #[.int .i64 dir, .int .i64 9, .string key, .string hi, .int .i64 en.seg, .int .i64 en.at_, .int .i64 en.size, .int .i64 en.off, .int .i64 en.time, .bool en.tomb, .int .i64 n] := by rw [hW0]; repeat (first | exact b1' | refine Box.alloc ?_ _)
  have x2 : Boxed W0 (w.heap.size + 1) 43 (.slice none 0 0) := by rw [hW0]; repeat (first | exact b2 | refine Boxed.alloc ?_ _)
  have y0 : Box W0 (w.heap.size + 2) 23 #[.pointer (some ⟨d, 0, none⟩)] := by
    have z := Box.new ((w.alloc (.cells #[.int .i64 dir, .int .i64 9, .string key, .string hi, .int .i64 en.seg, .int .i64 en.at_, .int .i64 en.size, .int .i64 en.off, .int .i64 en.time, .bool en.tomb, .int .i64 n] 40)).alloc (.cells #[.slice none 0 0] 43)) 23 #[.pointer (some ⟨d, 0, none⟩)]
    simp only [World.size_alloc, Nat.add_assoc, Nat.reduceAdd] at z
    rw [hW0]
    repeat (first | exact z | refine Box.alloc ?_ _)
  have y1 : Box W0 (w.heap.size + 3) 9 #[.string key] := by
    have z := Box.new (((w.alloc (.cells #[.int .i64 dir, .int .i64 9, .string key, .string hi, .int .i64 en.seg, .int .i64 en.at_, .int .i64 en.size, .int .i64 en.off, .int .i64 en.time, .bool en.tomb, .int .i64 n] 40)).alloc (.cells #[.slice none 0 0] 43)).alloc (.cells #[.pointer (some ⟨d, 0, none⟩)] 23)) 9 #[.string key]
    simp only [World.size_alloc, Nat.add_assoc, Nat.reduceAdd] at z
    rw [hW0]
    repeat (first | exact z | refine Box.alloc ?_ _)
  have y2 : Box W0 (w.heap.size + 4) 9 #[.string hi] := by
    have z := Box.new ((((w.alloc (.cells #[.int .i64 dir, .int .i64 9, .string key, .string hi, .int .i64 en.seg, .int .i64 en.at_, .int .i64 en.size, .int .i64 en.off, .int .i64 en.time, .bool en.tomb, .int .i64 n] 40)).alloc (.cells #[.slice none 0 0] 43)).alloc (.cells #[.pointer (some ⟨d, 0, none⟩)] 23)).alloc (.cells #[.string key] 9)) 9 #[.string hi]
    simp only [World.size_alloc, Nat.add_assoc, Nat.reduceAdd] at z
    rw [hW0]
    repeat (first | exact z | refine Box.alloc ?_ _)
  have y3 : Box W0 (w.heap.size + 5) 23 #[.pointer (some ⟨d, 0, none⟩)] := by
    have z := Box.new (((((w.alloc (.cells #[.int .i64 dir, .int .i64 9, .string key, .string hi, .int .i64 en.seg, .int .i64 en.at_, .int .i64 en.size, .int .i64 en.off, .int .i64 en.time, .bool en.tomb, .int .i64 n] 40)).alloc (.cells #[.slice none 0 0] 43)).alloc (.cells #[.pointer (some ⟨d, 0, none⟩)] 23)).alloc (.cells #[.string key] 9)).alloc (.cells #[.string hi] 9)) 23 #[.pointer (some ⟨d, 0, none⟩)]
    simp only [World.size_alloc, Nat.add_assoc, Nat.reduceAdd] at z
    rw [hW0]
    repeat (first | exact z | refine Box.alloc ?_ _)
  have y4 : Box W0 (w.heap.size + 6) 9 #[.string key] := by
    have z := Box.new ((((((w.alloc (.cells #[.int .i64 dir, .int .i64 9, .string key, .string hi, .int .i64 en.seg, .int .i64 en.at_, .int .i64 en.size, .int .i64 en.off, .int .i64 en.time, .bool en.tomb, .int .i64 n] 40)).alloc (.cells #[.slice none 0 0] 43)).alloc (.cells #[.pointer (some ⟨d, 0, none⟩)] 23)).alloc (.cells #[.string key] 9)).alloc (.cells #[.string hi] 9)).alloc (.cells #[.pointer (some ⟨d, 0, none⟩)] 23)) 9 #[.string key]
    simp only [World.size_alloc, Nat.add_assoc, Nat.reduceAdd] at z
    rw [hW0]
    repeat (first | exact z | refine Box.alloc ?_ _)
  have hxb := fun k => show W0.cell? ⟨w.heap.size, k, none⟩ = _ from x1.cell k
  have x2c : W0.cell? ⟨w.heap.size + 1, 0, none⟩ = some (.slice none 0 0) := x2.cell
  rw [hW0] at hxb x2c
  have hxm := fun k => show (((((w.alloc (.cells #[.int .i64 dir, .int .i64 9, .string key, .string hi, .int .i64 en.seg, .int .i64 en.at_, .int .i64 en.size, .int .i64 en.off, .int .i64 en.time, .bool en.tomb, .int .i64 n] 40)).alloc (.cells #[.slice none 0 0] 43)).alloc (.cells #[.pointer (some ⟨d, 0, none⟩)] 23)).alloc (.cells #[.string key] 9)).alloc (.cells #[.string hi] 9)).cell? ⟨w.heap.size, k, none⟩ = _ from ((((b1'.alloc (.cells #[.pointer (some ⟨d, 0, none⟩)] 23)).alloc (.cells #[.string key] 9)).alloc (.cells #[.string hi] 9))).cell k
  have HB := Lib.hid (And.intro hd (And.intro hT (And.intro hs hk)))
  have HX := Lib.hid (And.intro hb0 (And.intro x1 (And.intro x2 (And.intro y0 (And.intro y1 (And.intro y2 (And.intro y3 y4)))))))
  have HW0 := Lib.hid hW0
  clear b1 b2 b1' hb0 x1 x2 y0 y1 y2 y3 y4 hd hT hs hk hN hW0
  refine cfw (n := 9) ?_
  refine callsIn_of_wp_marks Try.func31 rfl trivial ?_ rfl
  simp only [Try.ntmps31, List.size_toArray, List.length_cons, List.length_nil, Nat.reduceAdd, Nat.reduceSub, Array.replicate_succ, Array.replicate_zero, List.push_toArray, List.append_toArray, List.nil_append, List.cons_append]
  by_cases hn : n = 0
  · have hnd : decide (n = 0) = true := decide_eq_true hn
    subst hn
    gi_wp2_with (first
    | (gi_at_call 49
       refine (wfc (all_any (some ⟨d, 0, none⟩) key hi _)).mono ?_
       rintro e w' ⟨rfl, rfl⟩)
    | (gi_at_call 50
       refine (wfc (prefix_any (some ⟨d, 0, none⟩) key _)).mono ?_
       rintro e w' ⟨rfl, rfl⟩))
    refine ⟨.tuple #[.slice none 0 0, .bool true], ?_, ?_⟩
    · simp [results, Try.results31, go_sem]
    rw [firstL_zero]
    have hb := HX.out.1
    rw [HW0.out] at hb
    exact ⟨_, rfl, World.ownsRow_nil _ _ _ _, hb⟩
  · have hnd : decide (n = 0) = false := decide_eq_false hn
    have hnb : (n == 0) = false := by simpa using hn
    gi_wp2_with (first
    | (gi_at_call 49
       refine (wfc (all_any (some ⟨d, 0, none⟩) key hi _)).mono ?_
       rintro e w' ⟨rfl, rfl⟩)
    | (gi_at_call 50
       refine (wfc (prefix_any (some ⟨d, 0, none⟩) key _)).mono ?_
       rintro e w' ⟨rfl, rfl⟩))
    rw [← HW0.out]
    clear hxa hxb x2c hxm HW0
    generalize hA : Act.mk _ _ = act0
    refine wpIn_rangeFunc_ownM rfl (by omega) (gf := 55) (lb := #[.pointer (some ⟨w.heap.size + 1 + 1 + 1 + 1 + 1 + 1, 0, none⟩), .pointer (some ⟨w.heap.size + 1 + 1 + 1 + 1 + 1, 0, none⟩)]) (by rw [← hA]; rfl) trivial (enters_of Try.func55 (by kernel_rfl) rfl)
      (prefix_seq 8 (by omega) key hlo _ _ (some ⟨d, 0, none⟩) p T W0 HB.out.2.2.1 HB.out.2.2.2 (HB.out.2.1.below HX.out.1) (.inr ⟨d, rfl, HB.out.1.below HX.out.1 HB.out.1.lt⟩) HX.out.2.2.2.2.2.2.2 HX.out.2.2.2.2.2.2.1) (fun h k => Kp.trans h k) (fun W l o o' _ h hc _ => kp_put W l o o' h hc) (Below.refl _ _) (fun _ => rfl)
      (fun (pre : List KE) V => (∃ v, Boxed V (w.heap.size + 1) 43 v ∧ V.ownsRow w.heap.size 58 7 v pre.length (pre.flatMap keC) ∧ True) ∧ Box V w.heap.size 40 #[.int .i64 dir, .int .i64 9, .string key, .string hi, .int .i64 en.seg, .int .i64 en.at_, .int .i64 en.size, .int .i64 en.off, .int .i64 en.time, .bool en.tomb, .int .i64 n] ∧ Below w.heap.size w V ∧ (n < 0 ∨ (pre.length : Int) < n))
      (fun c (pre : List KE) V => c = .exit 0 ∧ (∃ v, Boxed V (w.heap.size + 1) 43 v ∧ V.ownsRow w.heap.size 58 7 v pre.length (pre.flatMap keC) ∧ True) ∧ Below w.heap.size w V ∧ ((pre.length : Int) = n))
      (OwnFrom.and (Own.from (holdsRow_own w.heap.size (w.heap.size + 1) 43 58 7 (fun pre : List KE => pre.length) (fun pre : List KE => pre.flatMap keC) (fun _ _ => True)) _) (OwnFrom.and (box_own1 (β := List KE) _ _ _ _) (OwnFrom.and (ownFrom_below (by have := HX.out.1.size; omega) (by omega)) (ownFrom_pure _ _))))
      (fun c => OwnFrom.and (ownFrom_pure _ _) (OwnFrom.and (Own.from (holdsRow_own w.heap.size (w.heap.size + 1) 43 58 7 (fun pre : List KE => pre.length) (fun pre : List KE => pre.flatMap keC) (fun _ _ => True)) _) (OwnFrom.and (ownFrom_below (by have := HX.out.1.size; omega) (by omega)) (ownFrom_pure _ _))))
      ⟨⟨_, HX.out.2.2.1, World.ownsRow_nil _ _ _ _, trivial⟩, HX.out.2.1, HX.out.1, by simp; omega⟩
      (fun (x : KE) a' V => ∃ Bx, w.heap.size + 2 ≤ Bx ∧ Box V Bx 38 x.2.cells.toArray ∧ a' = { tmps := (((act0.tmps.setIfInBounds 31 (.string x.1)).setIfInBounds 32 x.2.v).setIfInBounds 8 (.string x.1)).setIfInBounds 9 (.pointer (some ⟨Bx, 0, none⟩)), defers := [] })
      (fun x a' s A B row h hg hr => by obtain ⟨Bx, h1, h2, h3⟩ := h; exact ⟨Bx, h1, box_own1 (β := Unit) _ Bx _ _ s A B row h2 hg hr, h3⟩)
      ?assign ?body ?done ?stop
    case assign =>
      rintro l pre x V K ⟨⟨v, hv, hrow, _⟩, hlb, hB, hlt⟩ hK
      unfold encK
      rw [← hA] at hK ⊢
      have hB2 := hB.size
      have hvl := hv.lt
      gi_wp2
      refine hK _ _ ((KeepsOthers.alloc _ _).from _) (Kp.of_below (bal _ _)) ⟨⟨v, hv.alloc _, hrow.alloc _, trivial⟩, hlb.alloc _, hB.alloc hB2 _, hlt⟩ ⟨V.heap.size, by omega, Box.new V _ _, ?_⟩
      simp only [List.setIfInBounds_toArray, List.set_cons_zero, List.set_cons_succ, hnb]
    case body =>
      rintro l pre x a' W hl ⟨r, hr⟩ ⟨⟨v, hv, hrow, _⟩, hlb, hB, hlt⟩ ⟨Bx, hBx, bX, rfl⟩ hlN
      rw [← hA]
      simp only [List.setIfInBounds_toArray, List.set_cons_zero, List.set_cons_succ]
      have hc := hv.cell
      have hcl := hlb.cell
      have hcx := bX.cell
      unfold En.cells at hcx
      have Hr := Lib.hid hr
      have hN2 : pre.length + 1 ≤ 2199023255488 := by omega
      have HS := Lib.hid (And.intro hv (And.intro hrow (And.intro hlb (And.intro hB bX))))
      have hkr : ¬ KpT 58 := by unfold KpT; decide
      have hkb : ¬ KpT 43 := by unfold KpT; decide
      have HK := Lib.hid (And.intro hkr hkb)
      have hvl := hv.lt
      clear hr hv hrow hlb hB bX hkr hkb hlN
      by_cases heq : ((pre.length : Int) + 1 = n)
      all_goals
        first | have hde : decide ((pre.length : Int) + 1 = n) = true := decide_eq_true heq | have hde : decide ((pre.length : Int) + 1 = n) = false := decide_eq_false heq
        gi_wp2_with (first
          | (gi_at_builtin
             refine wpListIn_append_own _ rfl (.tmp 33) (.tmp 37) 43 rfl w.heap.size 58 i0 _ 7 64 Try.underlying43 hi0 hz0 hs0 hy0 rfl (by decide) v pre.length (pre.flatMap keC) rfl (HS.out.2.1.alloc _) ⟨W.heap.size, 0, none⟩ 1 1 (keC x) rfl rfl (World.news_of_block (cs := (keC x).toArray) (t := 58) (fr := (0, 0)) (heap_alloc_new W _)) (by simp [keC, En.cells, Value.oneCell']) (by unfold maxLen; omega) (by omega) (by have := HS.out.2.2.2.1.size; simp; omega) ?_
             intro v' w1 hown' hgrow _
             obtain ⟨g', cap', rfl⟩ := ownsRow_succ hown'
             obtain ⟨hv1, hv2, hr2, hk2, hb2⟩ := HS.out.1.appended (by decide) HS.out.2.1 HS.out.2.2.2.1.size (by omega) hown' hgrow
             have hc1 := hv1.cell
             have hf1 := hv1.frozen
             have hxm1 := ((HS.out.2.2.1.alloc (.cells (keC x).toArray 58)).grown hgrow (fun e => box_row (HS.out.2.2.1.alloc (.cells (keC x).toArray 58)) (HS.out.2.1.alloc (.cells (keC x).toArray 58)) (by decide) e.symm))
             have hkp1 : Kp W w1 := (Kp.of_below (bal W (.cells (keC x).toArray 58))).trans (Kp.grown hgrow (kp_row (HS.out.2.1.alloc _) HK.out.1))
             have hxm2 := hxm1.far (p := ⟨w.heap.size + 1, 0, none⟩) (by show w.heap.size ≠ w.heap.size + 1; omega) (.slice (some ⟨g', 0, none⟩) (pre.length + 1) cap')
             have hxm2c := hxm2.cell
             have HS2 := Lib.hid (And.intro hv2 (And.intro hr2 (And.intro hk2 (And.intro hb2 (And.intro hxm2 (hkp1.trans (Kp.grown (grownBy_setCell' w1 (w.heap.size + 1) (.slice (some ⟨g', 0, none⟩) (pre.length + 1) cap')) (fun k e => by cases e; exact kp_box hv1 HK.out.2))))))))
             have hv2c := hv2.cell
             clear hv1 hv2 hr2 hk2 hb2 hown' hgrow hxm1 hxm2 hkp1))
        first
          | exact ⟨HS2.out.2.2.1.from _, HS2.out.2.2.2.2.2, ⟨⟨_, HS2.out.1, by simpa using HS2.out.2.1, trivial⟩, HS2.out.2.2.2.2.1, HS.out.2.2.2.1.trans HS2.out.2.2.2.1, by simp only [List.length_append, List.length_cons, List.length_nil]; omega⟩⟩
          | exact ⟨HS2.out.2.2.1.from _, rfl, ⟨_, HS2.out.1, by simpa using HS2.out.2.1, trivial⟩, HS.out.2.2.2.1.trans HS2.out.2.2.2.1, by simp only [List.length_append, List.length_cons, List.length_nil]; omega⟩
    case done =>
      rintro D ys V hD rfl ⟨⟨v, hv, hrow, _⟩, hlb, hB, hlt⟩ hK
      rw [← hA]
      have hc := hv.cell
      have HH := Lib.hid (And.intro hrow hB)
      have HKK := Lib.hid hK
      clear hrow hB hK
      gi_wp2
      refine ⟨by simp, .inl ⟨_, _, rfl, run_takeDeferred HKK.out, ?_⟩⟩
      refine ⟨.tuple #[v, .bool true], ?_, ?_⟩
      · simp [results, Try.results31, go_sem]
      rw [firstL_all (hlt.imp id fun h => by omega)]
      exact ⟨v, rfl, ownsRow_putObj HH.out.1 _ HKK.out rfl, HH.out.2.trans (belowK_b (w := w) (Nat.le_refl _) V D _ _ (by omega) HKK.out rfl rfl)⟩
    case stop =>
      rintro D c pre V hD hpre ⟨rfl, ⟨v, hv, hrow, _⟩, hB, hln⟩ hK
      rw [← hA]
      have hc := hv.cell
      have hR := firstL_pre hpre hln
      have HH := Lib.hid (And.intro hrow (And.intro hB hR))
      have HKK := Lib.hid hK
      clear hrow hB hK hR hpre
      gi_wp2
      refine ⟨by simp, .inl ⟨_, _, rfl, run_takeDeferred HKK.out, ?_⟩⟩
      refine ⟨.tuple #[v, .bool true], ?_, ?_⟩
      · simp [results, Try.results31, go_sem]
      rw [HH.out.2.2]
      exact ⟨v, rfl, ownsRow_putObj HH.out.1 _ HKK.out rfl, HH.out.2.1.trans (belowK_b (w := w) (Nat.le_refl _) V D _ _ (by omega) HKK.out rfl rfl)⟩
end Go.Proofs.Ytglmhpmjebjcgaa
/- KeydirMoves: told: All, Prefix. -/
namespace Go.Proofs.Ytglmhpmjebjcgaa
open Go.RowKit Go.Maps

theorem Rd.pre {w : World} {B : Nat} {A : Option Addr} {xs ys : List Value} (h : Rd w B A (xs ++ ys)) : Rd w B A xs := by
  intro j u hj
  refine h j u ?_
  rw [List.getElem?_append_left (List.getElem?_eq_some_iff.1 hj).1]
  exact hj
theorem Rd.first {w : World} {B : Nat} {A : Option Addr} {xs : List KE} (h : Rd w B A (xs.flatMap keC)) (k : Int) : Rd w B A ((firstL xs k).flatMap keC) := by
  unfold firstL
  refine Rd.pre (ys := (xs.drop (firstN xs.length k)).flatMap keC) ?_
  rw [← List.flatMap_append, List.take_append_drop]
  exact h
set_option maxRecDepth 100000 in
set_option maxHeartbeats 8000000 in
theorem told_all (B wb N ns : Nat) (Lv : Value) (ds rs : Nat → Nat) (vs : Nat → Value) (ls : Nat → List KE) (g c g' c' : Nat) (dir : Int) (key hi : ByteArray) (en : En) (n : Int) (w : World) (h : DW B wb Lv N (St.at ns ds rs vs ls g c g' c') w) (hN : N ≤ 2000000) (hz1 : key.size ≤ maxLen) (hz2 : hi.size ≤ maxLen) :
    Calls Try.prog 6 #[.pointer (some ⟨wb, 0, none⟩), Mv.v ⟨dir, 8, key, hi, en, n⟩] w (TR B wb Lv N (St.at ns ds rs vs ls g c g' c') w) := by
  obtain ⟨hn0, hc1, hc2⟩ := h.caps
  have hi0 : modK dir ns < ns := modK_lt dir (by omega)
  obtain ⟨i, hie⟩ : ∃ i, i = modK dir ns := ⟨_, rfl⟩
  have hmod := fun W => mod_is dir ns (by omega) (by omega) W
  rw [← hie] at hi0
  simp only [← hie] at hmod
  have hb0 := bal w (.cells #[.int .i64 dir, .int .i64 8, .string key, .string hi, .int .i64 en.seg, .int .i64 en.at_, .int .i64 en.size, .int .i64 en.off, .int .i64 en.time, .bool en.tomb, .int .i64 n] 40)
  have hX0 := Box.new w 40 #[.int .i64 dir, .int .i64 8, .string key, .string hi, .int .i64 en.seg, .int .i64 en.at_, .int .i64 en.size, .int .i64 en.off, .int .i64 en.time, .bool en.tomb, .int .i64 n]
  have hD0 := h.next hb0
  have hbc := (hD0.look hi0).2
  have HM := Lib.hid hmod
  have H := Lib.hid (And.intro h (And.intro hD0 (And.intro hX0 hb0)))
  have hxc := hX0.cell
  have hi1 : (0 : Int) ≤ i := by omega
  have hi2 : (i : Int) < ns := by omega
  have hsx := hb0.size
  clear h hmod hb0 hX0 hD0 hie
  go_enter Try.func6, Try.ntmps6
  go_wp2
  go_quiet ((go_at_call 10; exact Calls.quiet_of_same (HM.out _)))
  clear hbc hxc
  have hb1 := below_drewN H.out.2.2.2 nq
  have hX1 := H.out.2.2.1.drewN nq
  have hD1 := H.out.2.1.next (below_drewN (Below.refl _ _) nq)
  generalize hW1 : (w.alloc (.cells #[.int .i64 dir, .int .i64 8, .string key, .string hi, .int .i64 en.seg, .int .i64 en.at_, .int .i64 en.size, .int .i64 en.off, .int .i64 en.time, .bool en.tomb, .int .i64 n] 40)).drewN nq = W1 at hb1 hX1 hD1 ⊢
  clear hW1
  obtain ⟨⟨hcD, hcR⟩, hbc⟩ := hD1.look hi0
  have hxc := hX1.cell
  have hnl : (ls i).length ≤ N := hD1.len i hi0
  have hs1 := hb1.size
  have H1 := Lib.hid (And.intro hD1 (And.intro hX1 hb1))
  clear hb1 hX1 hD1
  obtain ⟨q, hq⟩ : ∃ q, q = firstL (sel key hi (ls i)) n := ⟨_, rfl⟩
  obtain ⟨lq, hlq⟩ : ∃ lq, lq = (sel key hi (ls i)) := ⟨_, rfl⟩
  have hll : lq.length ≤ N := by rw [hlq]; exact Nat.le_trans (List.length_filter_le _ _) hnl
  have hql : q.length = firstN lq.length n := by rw [hq, hlq, firstL_len]
  have hqf : q = firstL lq n := by rw [hq, hlq]
  have HQ := Lib.hid (And.intro hq (And.intro hlq (And.intro hll (And.intro hql hqf))))
  obtain ⟨nq2, hnq2⟩ : ∃ m, q.length = m := ⟨_, rfl⟩
  have HNQ := Lib.hid hnq2
  have HLQ := Lib.hid hll
  clear hq hlq hll hql hqf hnq2
  go_wp2_with (first
    | (go_at_call 31
       refine (taken_all (ds i) (ls i) dir key hi en n _ (H1.out.1.dir i hi0) hz1 hz2 (by have := H1.out.1.len i hi0; simp only at this; omega)).mono ?_
       rintro e w2 ⟨v2, rfl, hr2, hb2⟩
       rw [← HQ.out.1, HNQ.out] at hr2
       obtain ⟨A2, c2, rfl⟩ := row_slice hr2
       have hs2 := hb2.size
       have H2 := Lib.hid (And.intro (row_rd' hr2) (And.intro hb2 (And.intro (H1.out.1.next hb2) (H1.out.2.1.below hb2 H1.out.2.1.lt))))
       clear hr2 hb2))
  obtain ⟨W3, hW3⟩ : ∃ W3, w2.drew = W3 := ⟨_, rfl⟩
  have hb3 : Below w2.heap.size w2 W3 := by rw [← hW3]; exact below_drewN (Below.refl _ _) 1
  have hX3 := H2.out.2.2.2.below hb3 H2.out.2.2.2.lt
  have hS0 : (fun w' : World => w'.cell? ⟨w.heap.size, 2, none⟩ = some (.string key) ∧ w'.cell? ⟨w.heap.size, 3, none⟩ = some (.string hi) ∧ w'.cell? ⟨w.heap.size, 10, none⟩ = some (.int .i64 n)) W3 := ⟨hX3.cell 2, hX3.cell 3, hX3.cell 10⟩
  have hs3 := hb3.size
  have H3 := Lib.hid (And.intro ((H2.out.1.below hb3).mono hs3) (And.intro hb3 (And.intro (H2.out.2.2.1.next hb3) hX3)))
  clear hX3 hb3 hxc hcD hcR hbc
  refine WT.start (fun w' : World => w'.cell? ⟨w.heap.size, 2, none⟩ = some (.string key) ∧ w'.cell? ⟨w.heap.size, 3, none⟩ = some (.string hi) ∧ w'.cell? ⟨w.heap.size, 10, none⟩ = some (.int .i64 n)) 14 (by kernel_rfl) ?_
  rw [hW3]
  clear hW3
  refine WT.take 0 (v := ?_) rfl (by kernel_rfl) (by kernel_rfl) (by kernel_rfl) (by kernel_rfl) (fun _ _ _ h => h) (Or.inl ⟨by rfl, ?hy⟩) hS0 ?_
  case hy => first | (intro w hSw; go_simp; done) | (intro w hSw; go_simp; with_reducible rfl)
  simp only [Act.put, List.setIfInBounds_toArray, List.set_cons_zero, List.set_cons_succ]
  refine WT.take 1 (v := ?_) rfl (by kernel_rfl) (by kernel_rfl) (by kernel_rfl) (by kernel_rfl) (fun _ _ _ h => h) (Or.inl ⟨by rfl, ?hy⟩) hS0 ?_
  case hy => first | (intro w hSw; go_simp; done) | (intro w hSw; go_simp; with_reducible rfl)
  simp only [Act.put, List.setIfInBounds_toArray, List.set_cons_zero, List.set_cons_succ]
  refine WT.take 2 (v := ?_) rfl (by kernel_rfl) (by kernel_rfl) (by kernel_rfl) (by kernel_rfl) (fun _ _ _ h => h) (Or.inl ⟨by rfl, ?hy⟩) hS0 ?_
  case hy => first | (intro w hSw; go_simp; done) | (intro w hSw; go_simp; with_reducible rfl)
  simp only [Act.put, List.setIfInBounds_toArray, List.set_cons_zero, List.set_cons_succ]
  refine WT.take 3 (v := ?_) rfl (by kernel_rfl) (by kernel_rfl) (by kernel_rfl) (by kernel_rfl) (fun _ _ _ h => h) (Or.inl ⟨by rfl, ?hy⟩) hS0 ?_
  case hy => first | (intro w hSw; go_simp; done) | (intro w hSw; go_simp; with_reducible rfl)
  simp only [Act.put, List.setIfInBounds_toArray, List.set_cons_zero, List.set_cons_succ]
  refine WT.take 4 (v := ?_) rfl (by kernel_rfl) (by kernel_rfl) (by kernel_rfl) (by kernel_rfl) (fun _ _ _ h => h) (Or.inl ⟨by rfl, ?hy⟩) hS0 ?_
  case hy => first | (intro w hSw; go_simp; done) | (intro w hSw; go_simp; with_reducible rfl)
  simp only [Act.put, List.setIfInBounds_toArray, List.set_cons_zero, List.set_cons_succ]
  refine WT.take 5 (v := ?_) rfl (by kernel_rfl) (by kernel_rfl) (by kernel_rfl) (by kernel_rfl) (fun _ _ _ h => h) (Or.inl ⟨by rfl, ?hy⟩) hS0 ?_
  case hy => first | (intro w hSw; go_simp; done) | (intro w hSw; go_simp; with_reducible rfl)
  simp only [Act.put, List.setIfInBounds_toArray, List.set_cons_zero, List.set_cons_succ]
  refine WT.take 6 (v := ?_) rfl (by kernel_rfl) (by kernel_rfl) (by kernel_rfl) (by kernel_rfl) (fun _ _ _ h => h) (Or.inl ⟨by rfl, ?hy⟩) hS0 ?_
  case hy => first | (intro w hSw; go_simp; done) | (intro w hSw; go_simp; with_reducible rfl)
  simp only [Act.put, List.setIfInBounds_toArray, List.set_cons_zero, List.set_cons_succ]
  refine WT.take 7 (v := ?_) rfl (by kernel_rfl) (by kernel_rfl) (by kernel_rfl) (by kernel_rfl) (fun _ _ _ h => h) (Or.inl ⟨by rfl, ?hy⟩) hS0 ?_
  case hy => first | (intro w hSw; go_simp; done) | (intro w hSw; go_simp; with_reducible rfl)
  simp only [Act.put, List.setIfInBounds_toArray, List.set_cons_zero, List.set_cons_succ]
  refine WT.take 9 (v := ?_) rfl (by kernel_rfl) (by kernel_rfl) (by kernel_rfl) (by kernel_rfl) (fun _ _ _ h => h) (Or.inl ⟨by rfl, ?hy⟩) hS0 ?_
  case hy => first | (intro w hSw; go_simp; done) | (intro w hSw; go_simp; with_reducible rfl)
  simp only [Act.put, List.setIfInBounds_toArray, List.set_cons_zero, List.set_cons_succ]
  refine WT.take 10 (v := ?_) rfl (by kernel_rfl) (by kernel_rfl) (by kernel_rfl) (by kernel_rfl) (fun _ _ _ h => h) (Or.inl ⟨by rfl, ?hy⟩) hS0 ?_
  case hy => first | (intro w hSw; go_simp; done) | (intro w hSw; go_simp; with_reducible rfl)
  simp only [Act.put, List.setIfInBounds_toArray, List.set_cons_zero, List.set_cons_succ]
  refine WT.step 8 rfl (by kernel_rfl) (by decide) fun K hK => ?_
  go_simp
  go_at_call 33
  refine (list8 B (rs i) (vs i) key hi (ls i) _ (H3.out.2.2.1.ref i hi0) hz1 hz2 (by have := H3.out.2.2.1.len i hi0; simp only at this; omega)).mono ?_
  rintro e w8 ⟨u8, rfl, hr8, hb8⟩
  rw [← HQ.out.2.1] at hr8
  obtain ⟨A8, c8, rfl⟩ := row_slice hr8
  have hX8 := H3.out.2.2.2.below hb8 H3.out.2.2.2.lt
  have hS8 : (fun w' : World => w'.cell? ⟨w.heap.size, 2, none⟩ = some (.string key) ∧ w'.cell? ⟨w.heap.size, 3, none⟩ = some (.string hi) ∧ w'.cell? ⟨w.heap.size, 10, none⟩ = some (.int .i64 n)) w8 := ⟨hX8.cell 2, hX8.cell 3, hX8.cell 10⟩
  have hcp := row_cap hr8
  have hs8 := hb8.size
  have H8 := Lib.hid (And.intro (H3.out.1.below hb8) (And.intro hb8 (And.intro ((row_rd' hr8).first n) hX8)))
  clear hr8 hb8 hX8 hS0
  go_simp
  refine hK.out _ _ hS8 ?_
  clear hK K
  refine WT.step 11 rfl (by kernel_rfl) (by decide) fun K hK => ?_
  go_simp
  go_at_call 32
  refine (first_any A8 lq.length c8 n hcp _).mono ?_
  rintro e w9 ⟨rfl, hw9⟩
  subst hw9
  rw [← HQ.out.2.2.2.1, HNQ.out]
  go_simp
  refine hK.out _ _ hS8 ?_
  clear hK K
  refine WT.step 12 rfl (by kernel_rfl) (by decide) fun K hK => ?_
  go_simp
  go_at_call 28
  refine (sameItems_eq A2 A8 nq2 c2 c8 q _ (H8.out.1.mono hs8) (by rw [HQ.out.2.2.2.2]; exact H8.out.2.2.1) HNQ.out (by have := HQ.out.2.2.2.1; have := firstN_le lq.length n; have := HLQ.out; have := HNQ.out; omega)).mono ?_
  rintro e w10 ⟨rfl, hb10⟩
  have hX10 := H8.out.2.2.2.below hb10 H8.out.2.2.2.lt
  have hS10 : (fun w' : World => w'.cell? ⟨w.heap.size, 2, none⟩ = some (.string key) ∧ w'.cell? ⟨w.heap.size, 3, none⟩ = some (.string hi) ∧ w'.cell? ⟨w.heap.size, 10, none⟩ = some (.int .i64 n)) w10 := ⟨hX10.cell 2, hX10.cell 3, hX10.cell 10⟩
  have H10 := Lib.hid hb10
  clear hb10 hX10
  go_simp
  refine hK.out _ _ hS10 ?_
  clear hK K
  refine WT.take 13 (v := ?_) rfl (by kernel_rfl) (by kernel_rfl) (by kernel_rfl) (by kernel_rfl) (fun _ _ _ h => h) (Or.inl ⟨by rfl, ?hy⟩) hS10 ?_
  case hy => first | (intro w hSw; go_simp; done) | (intro w hSw; go_simp; with_reducible rfl)
  simp only [Act.put, List.setIfInBounds_toArray, List.set_cons_zero, List.set_cons_succ]
  refine WT.last 14 rfl (by kernel_rfl) rfl fun K hK => ?_
  go_simp
  refine hK.out _ _ ?_
  clear hK K
  refine WT.done (by kernel_rfl) ?_
  go_wp2
  go_ret
  have hbb : Below W1.heap.size W1 w10 := (((H2.out.2.1).trans (H3.out.2.1.mono hs2)).trans (H8.out.2.1.mono (by omega))).trans (H10.out.mono (by omega))
  exact ⟨rfl, _, (H1.out.1.next hbb).mono (by omega), (Turn.of_below hbb).ahead H1.out.2.2⟩
set_option maxRecDepth 100000 in
set_option maxHeartbeats 8000000 in
theorem told_pre (B wb N ns : Nat) (Lv : Value) (ds rs : Nat → Nat) (vs : Nat → Value) (ls : Nat → List KE) (g c g' c' : Nat) (dir : Int) (key hi : ByteArray) (en : En) (n : Int) (w : World) (h : DW B wb Lv N (St.at ns ds rs vs ls g c g' c') w) (hN : N ≤ 2000000) (hz1 : key.size ≤ maxLen) (hz2 : hi.size ≤ maxLen) :
    Calls Try.prog 6 #[.pointer (some ⟨wb, 0, none⟩), Mv.v ⟨dir, 9, key, hi, en, n⟩] w (TR B wb Lv N (St.at ns ds rs vs ls g c g' c') w) := by
  obtain ⟨hn0, hc1, hc2⟩ := h.caps
  have hi0 : modK dir ns < ns := modK_lt dir (by omega)
  obtain ⟨i, hie⟩ : ∃ i, i = modK dir ns := ⟨_, rfl⟩
  have hmod := fun W => mod_is dir ns (by omega) (by omega) W
  rw [← hie] at hi0
  simp only [← hie] at hmod
  have hb0 := bal w (.cells #[.int .i64 dir, .int .i64 9, .string key, .string hi, .int .i64 en.seg, .int .i64 en.at_, .int .i64 en.size, .int .i64 en.off, .int .i64 en.time, .bool en.tomb, .int .i64 n] 40)
  have hX0 := Box.new w 40 #[.int .i64 dir, .int .i64 9, .string key, .string hi, .int .i64 en.seg, .int .i64 en.at_, .int .i64 en.size, .int .i64 en.off, .int .i64 en.time, .bool en.tomb, .int .i64 n]
  have hD0 := h.next hb0
  have hbc := (hD0.look hi0).2
  have HM := Lib.hid hmod
  have H := Lib.hid (And.intro h (And.intro hD0 (And.intro hX0 hb0)))
  have hxc := hX0.cell
  have hi1 : (0 : Int) ≤ i := by omega
  have hi2 : (i : Int) < ns := by omega
  have hsx := hb0.size
  clear h hmod hb0 hX0 hD0 hie
  go_enter Try.func6, Try.ntmps6
  go_wp2
  go_quiet ((go_at_call 10; exact Calls.quiet_of_same (HM.out _)))
  clear hbc hxc
  have hb1 := below_drewN H.out.2.2.2 nq
  have hX1 := H.out.2.2.1.drewN nq
  have hD1 := H.out.2.1.next (below_drewN (Below.refl _ _) nq)
  generalize hW1 : (w.alloc (.cells #[.int .i64 dir, .int .i64 9, .string key, .string hi, .int .i64 en.seg, .int .i64 en.at_, .int .i64 en.size, .int .i64 en.off, .int .i64 en.time, .bool en.tomb, .int .i64 n] 40)).drewN nq = W1 at hb1 hX1 hD1 ⊢
  clear hW1
  obtain ⟨⟨hcD, hcR⟩, hbc⟩ := hD1.look hi0
  have hxc := hX1.cell
  have hnl : (ls i).length ≤ N := hD1.len i hi0
  have hs1 := hb1.size
  have H1 := Lib.hid (And.intro hD1 (And.intro hX1 hb1))
  clear hb1 hX1 hD1
  obtain ⟨q, hq⟩ : ∃ q, q = firstL ((ls i).filter (preB key)) n := ⟨_, rfl⟩
  obtain ⟨lq, hlq⟩ : ∃ lq, lq = ((ls i).filter (preB key)) := ⟨_, rfl⟩
  have hll : lq.length ≤ N := by rw [hlq]; exact Nat.le_trans (List.length_filter_le _ _) hnl
  have hql : q.length = firstN lq.length n := by rw [hq, hlq, firstL_len]
  have hqf : q = firstL lq n := by rw [hq, hlq]
  have HQ := Lib.hid (And.intro hq (And.intro hlq (And.intro hll (And.intro hql hqf))))
  obtain ⟨nq2, hnq2⟩ : ∃ m, q.length = m := ⟨_, rfl⟩
  have HNQ := Lib.hid hnq2
  have HLQ := Lib.hid hll
  clear hq hlq hll hql hqf hnq2
  go_wp2_with (first
    | (go_at_call 31
       refine (taken_pre (ds i) (ls i) dir key hi en n _ (H1.out.1.dir i hi0) hz1 hz2 (by have := H1.out.1.len i hi0; simp only at this; omega)).mono ?_
       rintro e w2 ⟨v2, rfl, hr2, hb2⟩
       rw [← HQ.out.1, HNQ.out] at hr2
       obtain ⟨A2, c2, rfl⟩ := row_slice hr2
       have hs2 := hb2.size
       have H2 := Lib.hid (And.intro (row_rd' hr2) (And.intro hb2 (And.intro (H1.out.1.next hb2) (H1.out.2.1.below hb2 H1.out.2.1.lt))))
       clear hr2 hb2))
  obtain ⟨W3, hW3⟩ : ∃ W3, w2.drew = W3 := ⟨_, rfl⟩
  have hb3 : Below w2.heap.size w2 W3 := by rw [← hW3]; exact below_drewN (Below.refl _ _) 1
  have hX3 := H2.out.2.2.2.below hb3 H2.out.2.2.2.lt
  have hS0 : (fun w' : World => w'.cell? ⟨w.heap.size, 2, none⟩ = some (.string key) ∧ w'.cell? ⟨w.heap.size, 10, none⟩ = some (.int .i64 n)) W3 := ⟨hX3.cell 2, hX3.cell 10⟩
  have hs3 := hb3.size
  have H3 := Lib.hid (And.intro ((H2.out.1.below hb3).mono hs3) (And.intro hb3 (And.intro (H2.out.2.2.1.next hb3) hX3)))
  clear hX3 hb3 hxc hcD hcR hbc
  refine WT.start (fun w' : World => w'.cell? ⟨w.heap.size, 2, none⟩ = some (.string key) ∧ w'.cell? ⟨w.heap.size, 10, none⟩ = some (.int .i64 n)) 12 (by kernel_rfl) ?_
  rw [hW3]
  clear hW3
  refine WT.take 0 (v := ?_) rfl (by kernel_rfl) (by kernel_rfl) (by kernel_rfl) (by kernel_rfl) (fun _ _ _ h => h) (Or.inl ⟨by rfl, ?hy⟩) hS0 ?_
  case hy => first | (intro w hSw; go_simp; done) | (intro w hSw; go_simp; with_reducible rfl)
  simp only [Act.put, List.setIfInBounds_toArray, List.set_cons_zero, List.set_cons_succ]
  refine WT.take 1 (v := ?_) rfl (by kernel_rfl) (by kernel_rfl) (by kernel_rfl) (by kernel_rfl) (fun _ _ _ h => h) (Or.inl ⟨by rfl, ?hy⟩) hS0 ?_
  case hy => first | (intro w hSw; go_simp; done) | (intro w hSw; go_simp; with_reducible rfl)
  simp only [Act.put, List.setIfInBounds_toArray, List.set_cons_zero, List.set_cons_succ]
  refine WT.take 2 (v := ?_) rfl (by kernel_rfl) (by kernel_rfl) (by kernel_rfl) (by kernel_rfl) (fun _ _ _ h => h) (Or.inl ⟨by rfl, ?hy⟩) hS0 ?_
  case hy => first | (intro w hSw; go_simp; done) | (intro w hSw; go_simp; with_reducible rfl)
  simp only [Act.put, List.setIfInBounds_toArray, List.set_cons_zero, List.set_cons_succ]
  refine WT.take 3 (v := ?_) rfl (by kernel_rfl) (by kernel_rfl) (by kernel_rfl) (by kernel_rfl) (fun _ _ _ h => h) (Or.inl ⟨by rfl, ?hy⟩) hS0 ?_
  case hy => first | (intro w hSw; go_simp; done) | (intro w hSw; go_simp; with_reducible rfl)
  simp only [Act.put, List.setIfInBounds_toArray, List.set_cons_zero, List.set_cons_succ]
  refine WT.take 4 (v := ?_) rfl (by kernel_rfl) (by kernel_rfl) (by kernel_rfl) (by kernel_rfl) (fun _ _ _ h => h) (Or.inl ⟨by rfl, ?hy⟩) hS0 ?_
  case hy => first | (intro w hSw; go_simp; done) | (intro w hSw; go_simp; with_reducible rfl)
  simp only [Act.put, List.setIfInBounds_toArray, List.set_cons_zero, List.set_cons_succ]
  refine WT.take 5 (v := ?_) rfl (by kernel_rfl) (by kernel_rfl) (by kernel_rfl) (by kernel_rfl) (fun _ _ _ h => h) (Or.inl ⟨by rfl, ?hy⟩) hS0 ?_
  case hy => first | (intro w hSw; go_simp; done) | (intro w hSw; go_simp; with_reducible rfl)
  simp only [Act.put, List.setIfInBounds_toArray, List.set_cons_zero, List.set_cons_succ]
  refine WT.take 7 (v := ?_) rfl (by kernel_rfl) (by kernel_rfl) (by kernel_rfl) (by kernel_rfl) (fun _ _ _ h => h) (Or.inl ⟨by rfl, ?hy⟩) hS0 ?_
  case hy => first | (intro w hSw; go_simp; done) | (intro w hSw; go_simp; with_reducible rfl)
  simp only [Act.put, List.setIfInBounds_toArray, List.set_cons_zero, List.set_cons_succ]
  refine WT.take 8 (v := ?_) rfl (by kernel_rfl) (by kernel_rfl) (by kernel_rfl) (by kernel_rfl) (fun _ _ _ h => h) (Or.inl ⟨by rfl, ?hy⟩) hS0 ?_
  case hy => first | (intro w hSw; go_simp; done) | (intro w hSw; go_simp; with_reducible rfl)
  simp only [Act.put, List.setIfInBounds_toArray, List.set_cons_zero, List.set_cons_succ]
  refine WT.step 6 rfl (by kernel_rfl) (by decide) fun K hK => ?_
  go_simp
  go_at_call 34
  refine (begin8 B (rs i) (vs i) key (ls i) _ (H3.out.2.2.1.ref i hi0) hz1 (by have := H3.out.2.2.1.len i hi0; simp only at this; omega)).mono ?_
  rintro e w8 ⟨u8, rfl, hr8, hb8⟩
  rw [← HQ.out.2.1] at hr8
  obtain ⟨A8, c8, rfl⟩ := row_slice hr8
  have hX8 := H3.out.2.2.2.below hb8 H3.out.2.2.2.lt
  have hS8 : (fun w' : World => w'.cell? ⟨w.heap.size, 2, none⟩ = some (.string key) ∧ w'.cell? ⟨w.heap.size, 10, none⟩ = some (.int .i64 n)) w8 := ⟨hX8.cell 2, hX8.cell 10⟩
  have hcp := row_cap hr8
  have hs8 := hb8.size
  have H8 := Lib.hid (And.intro (H3.out.1.below hb8) (And.intro hb8 (And.intro ((row_rd' hr8).first n) hX8)))
  clear hr8 hb8 hX8 hS0
  go_simp
  refine hK.out _ _ hS8 ?_
  clear hK K
  refine WT.step 9 rfl (by kernel_rfl) (by decide) fun K hK => ?_
  go_simp
  go_at_call 32
  refine (first_any A8 lq.length c8 n hcp _).mono ?_
  rintro e w9 ⟨rfl, hw9⟩
  subst hw9
  rw [← HQ.out.2.2.2.1, HNQ.out]
  go_simp
  refine hK.out _ _ hS8 ?_
  clear hK K
  refine WT.step 10 rfl (by kernel_rfl) (by decide) fun K hK => ?_
  go_simp
  go_at_call 28
  refine (sameItems_eq A2 A8 nq2 c2 c8 q _ (H8.out.1.mono hs8) (by rw [HQ.out.2.2.2.2]; exact H8.out.2.2.1) HNQ.out (by have := HQ.out.2.2.2.1; have := firstN_le lq.length n; have := HLQ.out; have := HNQ.out; omega)).mono ?_
  rintro e w10 ⟨rfl, hb10⟩
  have hX10 := H8.out.2.2.2.below hb10 H8.out.2.2.2.lt
  have hS10 : (fun w' : World => w'.cell? ⟨w.heap.size, 2, none⟩ = some (.string key) ∧ w'.cell? ⟨w.heap.size, 10, none⟩ = some (.int .i64 n)) w10 := ⟨hX10.cell 2, hX10.cell 10⟩
  have H10 := Lib.hid hb10
  clear hb10 hX10
  go_simp
  refine hK.out _ _ hS10 ?_
  clear hK K
  refine WT.take 11 (v := ?_) rfl (by kernel_rfl) (by kernel_rfl) (by kernel_rfl) (by kernel_rfl) (fun _ _ _ h => h) (Or.inl ⟨by rfl, ?hy⟩) hS10 ?_
  case hy => first | (intro w hSw; go_simp; done) | (intro w hSw; go_simp; with_reducible rfl)
  simp only [Act.put, List.setIfInBounds_toArray, List.set_cons_zero, List.set_cons_succ]
  refine WT.last 12 rfl (by kernel_rfl) rfl fun K hK => ?_
  go_simp
  refine hK.out _ _ ?_
  clear hK K
  refine WT.done (by kernel_rfl) ?_
  go_wp2
  go_ret
  have hbb : Below W1.heap.size W1 w10 := (((H2.out.2.1).trans (H3.out.2.1.mono hs2)).trans (H8.out.2.1.mono (by omega))).trans (H10.out.mono (by omega))
  exact ⟨rfl, _, (H1.out.1.next hbb).mono (by omega), (Turn.of_below hbb).ahead H1.out.2.2⟩
end Go.Proofs.Ytglmhpmjebjcgaa
