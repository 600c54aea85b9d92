import Derived.Test.YtjgdjfmgkmegfaaMan14
namespace Go.Proofs.Ytjgdjfmgkmegfaa
open Go.RowKit Go.Maps

/-- What ManifestChecks knows between its calls: its four variables, its three rows, that nothing old has changed. -/
structure MS (w : World) (M C N D : Array Value) (bn bd g h k : Nat) (ss : List Int) (ps : List P3) (ts : List T4) (W : World) : Prop where
  m : Box W w.heap.size 25 M
  c : Box W (w.heap.size + 1) 28 C
  n : Box W bn 25 N
  d : Box W bd 28 D
  og : Own W (w.heap.size + 2) g 3 (ss.map (.int .i64) ++ [.int .i64 (-77)])
  oh : Own W (w.heap.size + 2) h 58 (ps.flatMap tri ++ [.int .i64 (-77), .int .i64 0, .int .i64 0])
  ok : Own W (w.heap.size + 2) k 60 (ts.flatMap quad ++ [.int .i64 (-77), .string ByteArray.empty, .int .i64 0, .int .i64 0])
  below : Below w.heap.size w W
  far : (g ≠ h ∧ g ≠ k ∧ h ≠ k) ∧ (bn ≠ g ∧ bn ≠ h ∧ bn ≠ k) ∧ (bd ≠ g ∧ bd ≠ h ∧ bd ≠ k)
section
variable {w : World} {M C N D : Array Value} {bn bd g h k : Nat} {ss ss' : List Int} {ps ps' : List P3} {ts ts' : List T4} {W W' : World}
theorem MS.next (s : MS w M C N D bn bd g h k ss ps ts W) (hb : Below W.heap.size W W') : MS w M C N D bn bd g h k ss ps ts W' :=
  ⟨s.m.below hb s.m.lt, s.c.below hb s.c.lt, s.n.below hb s.n.lt, s.d.below hb s.d.lt, s.og.below hb s.og.lt, s.oh.below hb s.oh.lt, s.ok.below hb s.ok.lt, s.below.trans (hb.mono s.below.size), s.far⟩
theorem MS.man (s : MS w M C N D bn bd g h k ss ps ts W) (hc : Chg (fun x => x = g ∨ x = h) W W') (og : Own W' (w.heap.size + 2) g 3 (ss'.map (.int .i64) ++ [.int .i64 (-77)]))
    (oh : Own W' (w.heap.size + 2) h 58 (ps'.flatMap tri ++ [.int .i64 (-77), .int .i64 0, .int .i64 0])) : MS w M C N D bn bd g h k ss' ps' ts W' := by
  obtain ⟨⟨f1, f2, f3⟩, ⟨f4, f5, f6⟩, f7, f8, f9⟩ := s.far
  have g1 := og.1
  have g2 := oh.1
  exact ⟨s.m.chg hc (by omega), s.c.chg hc (by omega), s.n.chg hc (by omega), s.d.chg hc (by omega), og, oh, s.ok.chg hc (by omega),
    s.below.trans (hc.below s.below.size (by intro x hx; omega)), s.far⟩
theorem MS.cat (s : MS w M C N D bn bd g h k ss ps ts W) (hc : Chg (fun x => x = k) W W') (ok : Own W' (w.heap.size + 2) k 60 (ts'.flatMap quad ++ [.int .i64 (-77), .string ByteArray.empty, .int .i64 0, .int .i64 0])) :
    MS w M C N D bn bd g h k ss ps ts' W' := by
  obtain ⟨⟨f1, f2, f3⟩, ⟨f4, f5, f6⟩, f7, f8, f9⟩ := s.far
  have g1 := ok.1
  exact ⟨s.m.chg hc (by omega), s.c.chg hc (by omega), s.n.chg hc (by omega), s.d.chg hc (by omega), s.og.chg hc (by omega), s.oh.chg hc (by omega), ok,
    s.below.trans (hc.below s.below.size (by intro x hx; omega)), s.far⟩
end

theorem check_len (id ns nx mk cl : Int) (A B : Option Addr) (c d n m : Nat) (segs : List Int) (prods : List P3) (w : World) (hn : segs.length = n) (hm : prods.length = m) (hA : Rd w w.heap.size A (segs.map (.int .i64))) (hB : Rd w w.heap.size B (prods.flatMap tri)) (hw : ∀ s ∈ segs, (Lit.int .i64 s).wf = true) :
    Calls Try.prog 9 #[manV id ns nx mk cl (.slice A n c) (.slice B m d)] w fun e w' => (∃ x, e = .returned (.int .i64 x)) ∧ Below w.heap.size w w' := by
  subst hn hm
  exact (check_any id ns nx mk cl A B c d segs prods w hA hB hw).mono fun e w' ⟨h, hb⟩ => ⟨⟨_, h⟩, hb⟩
theorem checkCat_len (nid : Int) (A : Option Addr) (c n : Nat) (l : List T4) (w : World) (hn : l.length = n) (hA : Rd w w.heap.size A (l.flatMap quad)) (hw : ∀ t ∈ l, (Lit.int .i64 t.id).wf = true ∧ t.name.size ≤ maxLen) :
    Calls Try.prog 12 #[catV nid (.slice A n c)] w fun e w' => (∃ x, e = .returned (.int .i64 x)) ∧ Below w.heap.size w w' := by
  subst hn
  exact (checkCat_any nid A c l w hA hw).mono fun e w' ⟨h, hb⟩ => ⟨⟨_, h⟩, hb⟩

set_option maxRecDepth 100000 in
set_option maxHeartbeats 8000000 in
theorem manifestChecks_any (id ns nx mk cl nid : Int) (A A2 A3 : Option Addr) (c d e : Nat) (segs : List Int) (prods : List P3) (l : List T4) (name : ByteArray) (w : World)
    (hA : Rd w w.heap.size A (segs.map (.int .i64))) (hA2 : Rd w w.heap.size A2 (prods.flatMap tri)) (hA3 : Rd w w.heap.size A3 (l.flatMap quad))
    (ha : segs.length * 8 ≤ 140737488351232) (hb : prods.length * 24 ≤ 140737488351232) (hc : l.length * 40 ≤ 140737488351232)
    (hws : ∀ s ∈ segs, (Lit.int .i64 s).wf = true) (hwt : ∀ t ∈ l, (Lit.int .i64 t.id).wf = true ∧ t.name.size ≤ maxLen) :
    Calls Try.prog 3 #[manV id ns nx mk cl (.slice A segs.length c) (.slice A2 prods.length d), catV nid (.slice A3 l.length e), .string name] w fun ee w' =>
      ee = .returned (.bool true) ∧ Below w.heap.size w w' := by
  have hr : ∀ W, Below w.heap.size w W → Rd W W.heap.size A (segs.map (.int .i64)) ∧ Rd W W.heap.size A2 (prods.flatMap tri) ∧ Rd W W.heap.size A3 (l.flatMap quad) := fun W hb =>
    ⟨(hA.below hb).mono hb.size, (hA2.below hb).mono hb.size, (hA3.below hb).mono hb.size⟩
  have Hr := Lib.hid hr
  have hr2 : ∀ W, Below w.heap.size w W → Rd W (w.heap.size + 2) A (segs.map (.int .i64)) ∧ Rd W (w.heap.size + 2) A2 (prods.flatMap tri) ∧ Rd W (w.heap.size + 2) A3 (l.flatMap quad) := fun W hb =>
    ⟨(hA.below hb).mono (by omega), (hA2.below hb).mono (by omega), (hA3.below hb).mono (by omega)⟩
  have HrB := Lib.hid hr2
  have hb0 : Below w.heap.size w ((w.alloc (.cells #[.int .i64 id, .int .i64 ns, .int .i64 nx, .int .i64 mk, .int .i64 cl, .slice A segs.length c, .slice A2 prods.length d] 25)).alloc (.cells #[.int .i64 nid, .slice A3 l.length e] 28)) := ((Below.refl _ _).alloc (Nat.le_refl _) _).alloc (by simp) _
  have hm0 : Box ((w.alloc (.cells #[.int .i64 id, .int .i64 ns, .int .i64 nx, .int .i64 mk, .int .i64 cl, .slice A segs.length c, .slice A2 prods.length d] 25)).alloc (.cells #[.int .i64 nid, .slice A3 l.length e] 28)) w.heap.size 25 #[.int .i64 id, .int .i64 ns, .int .i64 nx, .int .i64 mk, .int .i64 cl, .slice A segs.length c, .slice A2 prods.length d] := (Box.new w _ _).alloc _
  have hc0 : Box ((w.alloc (.cells #[.int .i64 id, .int .i64 ns, .int .i64 nx, .int .i64 mk, .int .i64 cl, .slice A segs.length c, .slice A2 prods.length d] 25)).alloc (.cells #[.int .i64 nid, .slice A3 l.length e] 28)) (w.heap.size + 1) 28 #[.int .i64 nid, .slice A3 l.length e] := by simpa using Box.new (w.alloc (.cells #[.int .i64 id, .int .i64 ns, .int .i64 nx, .int .i64 mk, .int .i64 cl, .slice A segs.length c, .slice A2 prods.length d] 25)) 28 #[.int .i64 nid, .slice A3 l.length e]
  have H0 := Lib.hid (And.intro hb0 (And.intro hm0 hc0))
  have Hws := Lib.hid hws
  have Hwt := Lib.hid hwt
  have hms : segs.length < maxLen := by unfold maxLen; omega
  have hmp : prods.length < maxLen := by unfold maxLen; omega
  have hml : l.length < maxLen := by unfold maxLen; omega
  have Hm := Lib.hid (And.intro hms (And.intro hmp hml))
  clear hr hr2 hA hA2 hA3 hb0 hm0 hc0 hws hwt hms hmp hml
  go_enter Try.func3, Try.ntmps3
  go_wp2_with (first
    | (go_at_call 7
       refine (copied_any id ns nx mk cl A A2 c d segs prods _ (Hr.out _ H0.out.1).1 (Hr.out _ H0.out.1).2.1 ha hb).mono ?_
       rintro e1 w1 ⟨g, h, c1, d1, rfl, hb1, hg1, hh1, hgh, hcc, hdd⟩
       have z1 := (H0.out.2.1.below hb1 (by simp <;> omega)).cell
       have z2 := (H0.out.2.2.below hb1 (by simp <;> omega)).cell
       have hs1 : w.heap.size + 2 ≤ w1.heap.size := by have := hb1.size; simp at this; omega
       have hs1a : w.heap.size < w1.heap.size := by omega
       have hs1b : w.heap.size + 1 < w1.heap.size := by omega
       have H1 := Lib.hid (And.intro (H0.out.2.1.below hb1 (by simp <;> omega)) (And.intro (H0.out.2.2.below hb1 (by simp <;> omega)) (And.intro (H0.out.1.trans (hb1.mono (by simp <;> omega))) (And.intro hg1 (And.intro hh1 hgh)))))
       clear hb1 hg1 hh1 hgh)
    | (go_at_call 8
       refine (copiedCat_any nid A3 e l _ (Hr.out _ (H1.out.2.2.1.alloc (by omega) (.cells #[.int .i64 id, .int .i64 ns, .int .i64 nx, .int .i64 mk, .int .i64 cl, .slice (some ⟨g, 0, none⟩) segs.length c1, .slice (some ⟨h, 0, none⟩) prods.length d1] 25))).2.2 hc).mono ?_
       rintro e2 w2 ⟨k, e1, rfl, hb2, hk2, hee⟩
       have y1 := (H1.out.1.alloc (.cells #[.int .i64 id, .int .i64 ns, .int .i64 nx, .int .i64 mk, .int .i64 cl, .slice (some ⟨g, 0, none⟩) segs.length c1, .slice (some ⟨h, 0, none⟩) prods.length d1] 25)).below hb2 (by simp <;> omega)
       have y2 := (H1.out.2.1.alloc (.cells #[.int .i64 id, .int .i64 ns, .int .i64 nx, .int .i64 mk, .int .i64 cl, .slice (some ⟨g, 0, none⟩) segs.length c1, .slice (some ⟨h, 0, none⟩) prods.length d1] 25)).below hb2 (by simp <;> omega)
       have y3 := (Box.new w1 25 #[.int .i64 id, .int .i64 ns, .int .i64 nx, .int .i64 mk, .int .i64 cl, .slice (some ⟨g, 0, none⟩) segs.length c1, .slice (some ⟨h, 0, none⟩) prods.length d1]).below hb2 (by simp <;> omega)
       have hs2 : w1.heap.size < w2.heap.size := by have := hb2.size; simp at this; omega
       have hs2a : w.heap.size < w2.heap.size := by omega
       have hs2b : w.heap.size + 1 < w2.heap.size := by omega
       have hgl := H1.out.2.2.2.1.lt
       have hhl := H1.out.2.2.2.2.1.lt
       have hkl := hk2.lt
       have hkB := hk2.1
       have hgB := H1.out.2.2.2.1.1
       have hhB := H1.out.2.2.2.2.1.1
       have hgh := H1.out.2.2.2.2.2
       simp only [World.size_alloc] at hkB hgB hhB
       have S2 : MS w #[.int .i64 id, .int .i64 ns, .int .i64 nx, .int .i64 mk, .int .i64 cl, .slice A segs.length c, .slice A2 prods.length d] #[.int .i64 nid, .slice A3 l.length e] #[.int .i64 id, .int .i64 ns, .int .i64 nx, .int .i64 mk, .int .i64 cl, .slice (some ⟨g, 0, none⟩) segs.length c1, .slice (some ⟨h, 0, none⟩) prods.length d1] #[.int .i64 nid, .slice (some ⟨k, 0, none⟩) l.length e1] w1.heap.size w2.heap.size g h k segs prods l (w2.alloc (.cells #[.int .i64 nid, .slice (some ⟨k, 0, none⟩) l.length e1] 28)) := ⟨y1.alloc _, y2.alloc _, y3.alloc _, Box.new w2 _ _, ((((H1.out.2.2.2.1.alloc (.cells #[.int .i64 id, .int .i64 ns, .int .i64 nx, .int .i64 mk, .int .i64 cl, .slice (some ⟨g, 0, none⟩) segs.length c1, .slice (some ⟨h, 0, none⟩) prods.length d1] 25)).below hb2 (by simp <;> omega)).alloc _).le (by simp <;> omega)), ((((H1.out.2.2.2.2.1.alloc (.cells #[.int .i64 id, .int .i64 ns, .int .i64 nx, .int .i64 mk, .int .i64 cl, .slice (some ⟨g, 0, none⟩) segs.length c1, .slice (some ⟨h, 0, none⟩) prods.length d1] 25)).below hb2 (by simp <;> omega)).alloc _).le (by simp <;> omega)), ((hk2.alloc _).le (by simp <;> omega)), ((H1.out.2.2.1.alloc (by omega) (.cells #[.int .i64 id, .int .i64 ns, .int .i64 nx, .int .i64 mk, .int .i64 cl, .slice (some ⟨g, 0, none⟩) segs.length c1, .slice (some ⟨h, 0, none⟩) prods.length d1] 25)).trans (hb2.mono (by simp <;> omega))).alloc (by omega) _, by omega⟩
       have x1 := y1.cell
       have x2 := y2.cell
       have x3 := y3.cell
       have T2 := Lib.hid S2
       clear S2 y1 y2 y3 hb2 hk2 hgl hhl hkl hkB hgB hhB hgh z1 z2)
    | (go_at_call 10
       refine (moved_any id ns nx mk cl g h c1 d1 segs prods _ _ _ _ T2.out.og T2.out.oh T2.out.far.1.1 (Nat.le_of_lt Hm.out.1) (Nat.le_of_lt Hm.out.2.1) Hws.out).mono ?_
       rintro e3 w3 ⟨ss, ps, hls, hlp, hwss, rfl, og3, oh3, hc3⟩
       have S3 := T2.out.man hc3 og3 oh3
       have Hl3 := Lib.hid (And.intro hls (And.intro hlp hwss))
       clear hls hlp hwss og3 oh3 hc3 x1 x2 x3
       have q31 := S3.m.cell
       have q32 := S3.c.cell
       have q33 := S3.n.cell
       have q34 := S3.d.cell
       have T3 := Lib.hid S3
       clear S3 T2)
    | (go_at_call 9
       refine (check_len id ns nx mk cl _ _ c1 d1 _ _ ss ps _ Hl3.out.1 Hl3.out.2.1 T3.out.og.rd_pre T3.out.oh.rd_pre Hl3.out.2.2).mono ?_
       rintro e4 w4 ⟨⟨r4, rfl⟩, hb4⟩
       have S4 := T3.out.next hb4
       have q41 := S4.m.cell
       have q42 := S4.c.cell
       have q43 := S4.n.cell
       have q44 := S4.d.cell
       have T4 := Lib.hid S4
       clear S4 T3 hb4 q31 q32 q33 q34)
    | (go_at_call 11
       refine (back_any id ns nx mk cl id ns nx mk cl g h c1 d1 A A2 c d segs ss prods ps _ _ _ _ (T4.out.og) (T4.out.oh) T4.out.far.1.1 ((HrB.out _ T4.out.below).1) ((HrB.out _ T4.out.below).2.1) (by have := T4.out.og.lt; have := T4.out.og.1; omega) Hl3.out.1.symm Hl3.out.2.1.symm (Nat.le_of_lt Hm.out.1) (Nat.le_of_lt Hm.out.2.1)).mono ?_
       rintro e5 w5 ⟨rfl, og5, oh5, hc5⟩
       have S5 := T4.out.man hc5 og5 oh5
       have q51 := S5.m.cell
       have q52 := S5.c.cell
       have q53 := S5.n.cell
       have q54 := S5.d.cell
       have T5 := Lib.hid S5
       clear S5 T4 hc5 og5 oh5 q41 q42 q43 q44)
    | (go_at_call 13
       refine (movedCat_any nid k e1 l _ _ _ T5.out.ok (Nat.le_of_lt Hm.out.2.2) Hwt.out).mono ?_
       rintro e6 w6 ⟨ll, hll, hwl, rfl, ok6, hc6⟩
       have S6 := T5.out.cat hc6 ok6
       have Hl6 := Lib.hid (And.intro hll hwl)
       have q61 := S6.m.cell
       have q62 := S6.c.cell
       have q63 := S6.n.cell
       have q64 := S6.d.cell
       have T6 := Lib.hid S6
       clear S6 T5 hc6 ok6 hll hwl q51 q52 q53 q54)
    | (go_at_call 12
       refine (checkCat_len nid _ e1 _ ll _ Hl6.out.1 T6.out.ok.rd_pre Hl6.out.2).mono ?_
       rintro e7 w7 ⟨⟨r7, rfl⟩, hb7⟩
       have S7 := T6.out.next hb7
       have q71 := S7.m.cell
       have q72 := S7.c.cell
       have q73 := S7.n.cell
       have q74 := S7.d.cell
       have T7 := Lib.hid S7
       clear S7 T6 hb7 q61 q62 q63 q64)
    | (go_at_call 14
       refine (backCat_any nid nid k e1 e A3 l ll _ _ _ T7.out.ok ((HrB.out _ T7.out.below).2.2) (by have := T7.out.og.lt; have := T7.out.og.1; omega) Hl6.out.1.symm (Nat.le_of_lt Hm.out.2.2)).mono ?_
       rintro e8 w8 ⟨rfl, ok8, hc8⟩
       have S8 := T7.out.cat hc8 ok8
       have q81 := S8.m.cell
       have q82 := S8.c.cell
       have q83 := S8.n.cell
       have q84 := S8.d.cell
       have T8 := Lib.hid S8
       clear S8 T7 hc8 ok8 q71 q72 q73 q74)
    | (go_at_call 9
       refine (check_any id ns nx mk cl _ _ c1 d1 segs prods _ T8.out.og.rd_pre T8.out.oh.rd_pre Hws.out).mono ?_
       rintro e9 w9 ⟨rfl, hb9⟩
       have S9 := T8.out.next hb9
       have q91 := S9.m.cell
       have q92 := S9.c.cell
       have q93 := S9.n.cell
       have q94 := S9.d.cell
       have T9 := Lib.hid S9
       clear S9 T8 hb9 q81 q82 q83 q84)
    | (go_at_call 12
       refine (checkCat_any nid _ e1 l _ T9.out.ok.rd_pre Hwt.out).mono ?_
       rintro ea wa ⟨rfl, hba⟩
       have Sa := T9.out.next hba
       have qa1 := Sa.m.cell
       have qa2 := Sa.c.cell
       have qa3 := Sa.n.cell
       have qa4 := Sa.d.cell
       have Ta := Lib.hid Sa
       clear Sa T9 hba q91 q92 q93 q94)
    | (go_at_call 15
       refine (refCheck_any id ns nx mk cl A A2 c d segs prods _ (Hr.out _ Ta.out.below).1 (Hr.out _ Ta.out.below).2.1).mono ?_
       rintro eb wb ⟨rfl, hbb⟩
       have Sb := Ta.out.next hbb
       have qb1 := Sb.m.cell
       have qb2 := Sb.c.cell
       have qb3 := Sb.n.cell
       have qb4 := Sb.d.cell
       have Tb := Lib.hid Sb
       clear Sb Ta hbb qa1 qa2 qa3 qa4)
    | (go_at_call 16
       refine (refCheckCat_any nid A3 e l _ (Hr.out _ Tb.out.below).2.2).mono ?_
       rintro ec wc ⟨rfl, hbc⟩
       have Sc := Tb.out.next hbc
       have qc1 := Sc.m.cell
       have qc2 := Sc.c.cell
       have qc3 := Sc.n.cell
       have qc4 := Sc.d.cell
       have Tc := Lib.hid Sc
       clear Sc Tb hbc qb1 qb2 qb3 qb4)
    | (go_at_call 17
       refine (checkName_any name _).mono ?_
       rintro ed wd ⟨rfl, hbd⟩
       have Sd := Tc.out.next hbd
       have qd1 := Sd.m.cell
       have qd2 := Sd.c.cell
       have qd3 := Sd.n.cell
       have qd4 := Sd.d.cell
       have Td := Lib.hid Sd
       clear Sd Tc hbd qc1 qc2 qc3 qc4)
    | (go_at_call 18
       refine (refCheckName_any name _).mono ?_
       rintro ee wee ⟨rfl, rfl⟩)
    | (go_at_call 19
       refine (kept_any id ns nx mk cl g h c1 d1 A A2 c d segs prods _ _ _ Td.out.og Td.out.oh (Hr.out _ Td.out.below).1 (Hr.out _ Td.out.below).2.1 hcc hdd Hm.out.1 Hm.out.2.1).mono ?_
       rintro ef wf ⟨rfl, hbf⟩
       have Sf := Td.out.next hbf
       have qf1 := Sf.m.cell
       have qf2 := Sf.c.cell
       have qf3 := Sf.n.cell
       have qf4 := Sf.d.cell
       have Tf := Lib.hid Sf
       clear Sf Td hbf qd1 qd2 qd3 qd4)
    | (go_at_call 20
       refine (keptCat_any nid k e1 A3 e l _ _ Tf.out.ok (Hr.out _ Tf.out.below).2.2 hee Hm.out.2.2).mono ?_
       rintro eg wg ⟨rfl, hbg⟩
       have Tg := Lib.hid (Tf.out.next hbg)
       clear Tf hbg))
  go_ret
  exact ⟨rfl, Tg.out.below⟩
end Go.Proofs.Ytjgdjfmgkmegfaa
