import Derived.Test.YtmhlgbpgdhhfnaaGreatV40
set_option linter.unusedVariables false
set_option linter.unusedSimpArgs false
namespace Go.Proofs.YtmhlgbpgdhhfnaaGreat
open Go.RowKit Go.Maps Go.Shelf Sqz
attribute [local go_sem] Oper.semAt_some

set_option maxRecDepth 100000 in
set_option maxHeartbeats 80000000 in
theorem lookP_any (A : Option Addr) (n c : Nat) (b : List UInt8) (w : World) (hA : Rd w w.heap.size A (bv b)) (hn : b.length = n) (hc : n ≤ c) (hmx : n ≤ 1000000000) :
    Calls Tryz.prog 5 #[.slice A n c] w (LkA b w) := by
  obtain ⟨i0, hi0, hz0, hs0, hy0⟩ := info_parts infoPL
  obtain ⟨w1, hw1⟩ : ∃ w1, (w.alloc (.cells #[.int .i64 0, .int .i64 0, .int .i64 0, .int .i64 0, .int .i64 0, .int .i64 0, .bool false] 24)).alloc (.cells #[.int .i64 0, .int .i64 0] 28) = w1 := ⟨_, rfl⟩
  have hb1 : Below w.heap.size w w1 := by rw [← hw1]; exact ((Below.refl _ _).alloc (Nat.le_refl _) _).alloc (by simp) _
  have hz2 : Box w1 w.heap.size 24 #[.int .i64 0, .int .i64 0, .int .i64 0, .int .i64 0, .int .i64 0, .int .i64 0, .bool false] := by rw [← hw1]; exact (Box.new w _ _).alloc _
  have hz4 : Box w1 (w.heap.size + 1) 28 #[.int .i64 0, .int .i64 0] := by
    have := Box.new (w.alloc (.cells #[.int .i64 0, .int .i64 0, .int .i64 0, .int .i64 0, .int .i64 0, .int .i64 0, .bool false] 24)) 28 #[.int .i64 0, .int .i64 0]
    rw [World.size_alloc] at this
    rw [← hw1]; exact this
  have hz1s : w1.heap.size = w.heap.size + 2 := by rw [← hw1]; simp
  have HA := Lib.hid hA
  have HL := Lib.hid hn
  have HI1 := Lib.hid (heading_any A n c b w1 ((hA.below hb1).mono hb1.size) hn hc hmx)
  refine cfw (n := 9) ?_
  refine callsIn_of_wp_marks Tryz.func5 rfl trivial ?_ rfl
  refine wpIn_wide.2 ?_
  simp only [Tryz.ntmps5, List.size_toArray, List.length_cons, List.length_nil, Nat.reduceAdd, Nat.reduceSub, Array.replicate_succ, Array.replicate_zero, List.push_toArray, List.append_toArray, List.nil_append, List.cons_append]
  cases hI : headR csum b with
  | none =>
    have HO := Lib.hid (lookO_none hI)
    rw [hI] at HI1
    have HB := Lib.hid (And.intro hb1 (And.intro hz2 (And.intro hz4 hz1s)))
    clear hb1 hz2 hz4 hA hn hI
    go_wp2_with (first
      | (go_at_call 12
         refine HI1.out.mono ?_
         rintro e w2 ⟨rfl, hb2⟩
         unfold HIv
         have hzb := HB.out.2.1.below hb2 HB.out.2.1.lt
         have hyb := HB.out.2.2.1.below hb2 HB.out.2.2.1.lt
         have hzc := hzb.cell
         have hzf := hzb.free
         have hzl := hzb.lt
         have hyc := hyb.cell
         have hyf := hyb.free
         have hyl := hyb.lt
         have H2 := Lib.hid (HB.out.1.trans (hb2.mono HB.out.1.size))
         clear hb2 hzb hyb HI1))
    refine marks_none (v := .tuple #[.agg #[.int .i64 0, .int .i64 0, .int .i64 0, .int .i64 0, .int .i64 0, .int .i64 0, .bool false], .slice none 0 0, .agg #[.int .i64 50, .int .i64 0]]) ?_ ?_
    · simp [results, Tryz.results5, go_sem, hzc, hzl, hyc, hyl]
    unfold LkA
    rw [HO.out]
    refine ⟨_, rfl, World.ownsRow_nil _ _ _ _, ?_⟩
    have hB := H2.out
    have hsz := H2.out.size
    repeat (first | with_reducible exact hB | with_reducible refine Below.setCell ?_ (by simp <;> omega) _ | with_reducible refine Below.alloc ?_ (by simp <;> omega) _)
  | some i =>
    obtain ⟨q1, q2, q3, q4, q5, q6, q7, q8, q9⟩ := headR_ok hI
    obtain ⟨R, hR⟩ : ∃ R, scanAll b i.last = R := ⟨_, rfl⟩
    have hse := scan_ends b i.last (b.length + 1) 21 i.last [] q5 rfl rfl (by simp)
    rw [show scan b (b.length + 1) 21 i.last [] = R from hR] at hse
    have HRE := Lib.hid hse
    have HRR := Lib.hid hR
    have HSeal := Lib.hid (fun at_ lst done => lookO_seal (at_ := at_) (lst := lst) (done := done) hI)
    have HOpen := Lib.hid (fun at_ lst done => lookO_open (at_ := at_) (lst := lst) (done := done) hI)
    rw [hR] at HSeal HOpen
    rw [hI] at HI1
    have HB := Lib.hid (And.intro hb1 (And.intro hz2 (And.intro hz4 hz1s)))
    clear hb1 hz2 hz4 hA hn hI hse hR
    obtain ⟨topic, num, base, size, count, last, sealed⟩ := i
    simp only at q1 q2 q3 q4 q6 q7 q8 q9 HSeal HOpen HRE HRR
    subst q1 q2 q4 q3
    go_wp2_with (first
      | (go_at_call 12
         refine HI1.out.mono ?_
         rintro e w2 ⟨rfl, hb2⟩
         unfold HIv
         try unfold infV
         try dsimp only
         have hzb := HB.out.2.1.below hb2 HB.out.2.1.lt
         have hyb := HB.out.2.2.1.below hb2 HB.out.2.2.1.lt
         have hzc := hzb.cell
         have hzf := hzb.free
         have hzl := hzb.lt
         have hyc := hyb.cell
         have hyf := hyb.free
         have hyl := hyb.lt
         have H2 := Lib.hid (And.intro (HB.out.1.trans (hb2.mono HB.out.1.size)) (And.intro hzb (And.intro hyb (show w.heap.size + 1 < w2.heap.size by have := hb2.size; have := HB.out.2.2.2; omega))))
         clear hb2 hzb hyb HI1)
      | (go_at_call 13
         refine (records_any A n c (base - 1) _).mono ?_
         rintro e w3 ⟨rfl, rfl⟩))
    obtain ⟨at_, lst, done⟩ := R
    simp only at HRE
    obtain ⟨W0, hW0⟩ : ∃ W0, ((((w2.alloc (.cells #[.int .i64 (topic : Nat), .int .i64 (num : Nat), .int .i64 base, .int .i64 21, .int .i64 0, .int .i64 (base - 1), .bool false] 24)).alloc (.cells #[.slice none 0 0] 25)).alloc (.cells #[.slice A n c] 22)).alloc (.cells #[.int .i64 (base - 1)] 2)) = W0 := ⟨_, rfl⟩
    obtain ⟨p, hp⟩ : ∃ p, w2.heap.size = p := ⟨_, rfl⟩
    have hsz : W0.heap.size = p + 4 := by rw [← hW0]; simp; omega
    have hbw : Below w2.heap.size w2 W0 := by rw [← hW0]; exact ((((Below.refl _ _).alloc (Nat.le_refl _) _).alloc (by simp) _).alloc (by simp <;> omega) _).alloc (by simp <;> omega) _
    have hx0 : Box W0 p 24 #[.int .i64 (topic : Nat), .int .i64 (num : Nat), .int .i64 base, .int .i64 21, .int .i64 0, .int .i64 (base - 1), .bool false] := by
      rw [← hW0, ← hp]; exact (((Box.new w2 _ _).alloc _).alloc _).alloc _
    have hx1 : Box W0 (p + 1) 25 #[.slice none 0 0] := by
      have h := Box.new (w2.alloc (.cells #[.int .i64 (topic : Nat), .int .i64 (num : Nat), .int .i64 base, .int .i64 21, .int .i64 0, .int .i64 (base - 1), .bool false] 24)) 25 #[.slice none 0 0]
      rw [World.size_alloc, hp] at h
      rw [← hW0]; exact (h.alloc _).alloc _
    have hx2 : Box W0 (p + 2) 22 #[.slice A n c] := by
      have h := Box.new ((w2.alloc (.cells #[.int .i64 (topic : Nat), .int .i64 (num : Nat), .int .i64 base, .int .i64 21, .int .i64 0, .int .i64 (base - 1), .bool false] 24)).alloc (.cells #[.slice none 0 0] 25)) 22 #[.slice A n c]
      rw [World.size_alloc, World.size_alloc, hp] at h
      rw [← hW0]; exact h.alloc _
    have hx3 : Box W0 (p + 3) 2 #[.int .i64 (base - 1)] := by
      have h := Box.new (((w2.alloc (.cells #[.int .i64 (topic : Nat), .int .i64 (num : Nat), .int .i64 base, .int .i64 21, .int .i64 0, .int .i64 (base - 1), .bool false] 24)).alloc (.cells #[.slice none 0 0] 25)).alloc (.cells #[.slice A n c] 22)) 2 #[.int .i64 (base - 1)]
      rw [World.size_alloc, World.size_alloc, World.size_alloc, hp] at h
      rw [← hW0]; exact h
    have hbw0 : Below w.heap.size w W0 := H2.out.1.trans (hbw.mono H2.out.1.size)
    have hp1 : w.heap.size + 1 < p := by rw [← hp]; exact H2.out.2.2.2
    have hzz : Box W0 w.heap.size 24 #[.int .i64 0, .int .i64 0, .int .i64 0, .int .i64 0, .int .i64 0, .int .i64 0, .bool false] := H2.out.2.1.below hbw H2.out.2.1.lt
    have hyy : Box W0 (w.heap.size + 1) 28 #[.int .i64 0, .int .i64 0] := H2.out.2.2.1.below hbw H2.out.2.2.1.lt
    have hseq := rec_seq 8 n c A b (base - 1) (p + 2) (p + 3) w.heap.size W0 (HA.out.below hbw0) HL.out hc hmx (by rw [← HL.out]; exact q5) hx2 hx3 (by omega) (by omega) (by omega)
    rw [HRR.out] at hseq
    have hi0' : LkI w p ⟨topic, num, base, 21, 0, base - 1, false⟩ [] W0 := ⟨⟨_, hx1, World.ownsRow_nil _ _ _ _, trivial⟩, hx0, hzz, hyy, hbw0⟩
    rw [hW0, hp]
    clear hW0 hp hbw hx0 hx1 hx2 hx3 hzz hyy hzc hzf hzl hyc hyf hyl H2 HB hw1
    have HQ5 := Lib.hid q5
    have HQQ := Lib.hid (And.intro q6 (And.intro q7 (And.intro q8 q9)))
    clear q5 q6 q7 q8 q9
    refine (wpIn_wide (n := 9)).1 ?_
    refine wpIn_rangeFunc_ownW (F := Wf) (n := 9) rfl (by omega) (gf := 28) (lb := #[.pointer (some ⟨p + 2, 0, none⟩), .pointer (some ⟨p + 3, 0, none⟩)]) rfl trivial (enters_of Tryz.func28 (by kernel_rfl) rfl)
      hseq (fun h k => KpR.trans h k) (fun W l o o' hl h hcc _ => kpr_b (w := W0) hbw0.size W l o o' hl h hcc) (Below.refl _ _) (fun _ => rfl)
      (LkI w p ⟨topic, num, base, 21, 0, base - 1, false⟩) (fun _ _ _ => False) (LkI.own w p _ _ hbw0.size) (fun _ _ _ _ _ h _ _ => h) hi0'
      (fun s V V' h ht => h.chg hp1 ht) (fun _ _ _ _ h _ => h) (fun r V V' ht hk => ⟨(ht.block _ (by have := hk.lt; omega) (by omega)).trans hk.dfr, (ht.block _ hk.lt (by omega)).trans hk.rcd⟩)
      (fun (x : PL) a' W => ∃ Bx, p + 2 ≤ Bx ∧ Box W Bx 35 (plc x).toArray ∧ (∃ u, Box W (p + 1) 25 #[u] ∧ u.ownBlock ≠ some Bx) ∧ a' = { tmps := #[.slice A n c, undef, .pointer (some ⟨w.heap.size, 0, none⟩), .slice none 0 0, .pointer (some ⟨w.heap.size + 1, 0, none⟩), .pointer (some ⟨p, 0, none⟩), .bool true, .pointer (some ⟨p + 1, 0, none⟩), .pointer (some ⟨Bx, 0, none⟩), undef, undef, undef, .tuple #[.agg #[.int .i64 (topic : Nat), .int .i64 (num : Nat), .int .i64 base, .int .i64 21, .int .i64 0, .int .i64 (base - 1), .bool false], .bool true], .slice A n c, .tuple #[.agg #[.int .i64 (topic : Nat), .int .i64 (num : Nat), .int .i64 base, .int .i64 21, .int .i64 0, .int .i64 (base - 1), .bool false], .bool true], .agg #[.int .i64 (topic : Nat), .int .i64 (num : Nat), .int .i64 base, .int .i64 21, .int .i64 0, .int .i64 (base - 1), .bool false], .bool true, .bool true, .bool false, undef, undef, .slice A n c, .pointer (some ⟨p, 5, none⟩), .int .i64 (base - 1), .func (.func 28) #[] #[.pointer (some ⟨p + 2, 0, none⟩), .pointer (some ⟨p + 3, 0, none⟩)], .agg #[.int .i64 x.1.kind, .int .i64 x.1.off, .int .i64 x.1.time, .int .i64 x.1.pid, .int .i64 x.1.seq, .string ⟨x.1.key.toArray⟩, .string ⟨x.1.val.toArray⟩, .int .i64 x.2.1, .int .i64 x.2.2], undef, undef, undef, undef, undef, undef, undef, undef, undef, undef, undef, undef, undef, undef, undef, undef, undef, undef, undef, undef, undef, undef, undef, undef, undef, undef, undef, undef, undef, undef, undef, undef, undef, undef, undef, undef, undef, undef, undef, undef, undef, undef, undef, undef, undef, undef, undef, undef, undef, undef, undef, undef, undef, undef, undef, undef, undef, undef, undef, undef], defers := [] })
      (fun x a' s A B row h hg hr => by
        obtain ⟨Bx, h1, h2, ⟨u, h3, h3'⟩, h4⟩ := h
        exact ⟨Bx, h1, box_own1 (β := Unit) _ Bx _ _ s A B row h2 hg hr, ⟨u, box_own1 (β := Unit) _ (p + 1) _ _ s A B row h3 hg hr, h3'⟩, h4⟩)
      ?assign ?body ?done ?stop
    case assign =>
      rintro l pre x W K ⟨⟨v, hv, hrow, _⟩, h3, h4, h5, h6⟩ hK
      unfold encP
      gi_wp2
      have hvl := hv.lt
      refine hK _ _ ((KeepsOthers.alloc _ _).from _) (kpr_of (S := fun _ => False) h6.size (Chg.of_below (bal _ _) _) (fun _ h => h.elim)) ⟨⟨v, (Box.alloc hv _ : Box _ _ _ _), ownsRow_block hrow (fun k hk => Below.heap_alloc _ _ k (hrow.lt k hk).2), trivial⟩, h3.alloc _, h4.alloc _, h5.alloc _, h6.alloc h6.size _⟩ ⟨W.heap.size, by omega, Box.new W _ _, ⟨v, (Box.alloc hv _ : Box _ _ _ _), fun e => by have := (hrow.lt _ e).2; omega⟩, rfl⟩
    case body =>
      rintro l pre x a' W hl ⟨r, hr⟩ ⟨⟨v, hv, hrow, _⟩, h3, h4, h5, h6⟩ ⟨Bx, hBx, bX, ⟨u, hu, hun⟩, rfl⟩ hlN
      obtain rfl : v = u := by
        have e := Eq.trans (Eq.symm (show W.heap[p + 1]? = some (.cells #[v] 25 (0, 0)) from hv)) (show W.heap[p + 1]? = some (.cells #[u] 25 (0, 0)) from hu)
        simpa using e
      have bX2 : Box W Bx 35 #[.int .i64 x.1.kind, .int .i64 x.1.off, .int .i64 x.1.time, .int .i64 x.1.pid, .int .i64 x.1.seq, .string ⟨x.1.key.toArray⟩, .string ⟨x.1.val.toArray⟩, .int .i64 x.2.1, .int .i64 x.2.2] := bX
      have hvc := hv.cell
      have hvf := hv.frozen
      have hvl := hv.lt
      have hpc := h3.cell
      have hpf := h3.free
      have hpl := h3.lt
      have hxc := bX2.cell
      have hxl := bX2.lt
      have hne : ∀ k, v.ownBlock = some k → p + 4 ≤ k := fun k hk => (hrow.lt k hk).1
      have hB1 : Bx ≠ p + 1 := by omega
      have hB2 : Bx ≠ p := by omega
      have hB3 : p + 1 ≠ p := by omega
      obtain ⟨s, hs⟩ : ∃ s, IntKind.i64.wrap ((x.2.1 : Int) + x.2.2) = s := ⟨_, rfl⟩
      have hcn : IntKind.i64.wrap ((pre.length : Int) + 1) = (pre.length : Int) + 1 := IntWalk.i64_in _ (by omega)
      have HS := Lib.hid (And.intro hv (And.intro hrow (And.intro h3 (And.intro h4 (And.intro h5 (And.intro h6 (And.intro bX2 (And.intro hne hun))))))))
      clear hv hrow h3 h4 h5 h6 bX bX2 hu hne hun hr
      gi_wp2_with (first
        | (gi_at_builtin
           refine wpListIn_append_own _ rfl (.tmp 26) (.tmp 28) 25 rfl (p + 4) 35 i0 _ 9 88 Tryz.underlying25 hi0 hz0 hs0 hy0 rfl (by decide) v pre.length (pre.flatMap plc) rfl (ownsRow_below HS.out.2.1 (bal W _)) ⟨W.heap.size, 0, none⟩ 1 1 (plc x) rfl rfl (World.news_of_block (cs := (plc x).toArray) (t := 35) (fr := (0, 0)) (heap_alloc_new W _)) (by simp [plc, Value.oneCell']) (by unfold maxLen; omega) (by omega) (by have hh := HS.out.2.2.2.2.2.1.size; have := hvl; simp; omega) ?_
           intro v' w8 hown hg _
           obtain ⟨b8, c8, rfl⟩ := ownsRow_slice hown
           have hne8 := HS.out.2.2.2.2.2.2.2.1
           have hv8 : Box w8 (p + 1) 25 #[v] := ((show Box W (p + 1) 25 #[v] from HS.out.1).alloc _).grown hg (fun e => by have := hne8 _ e.symm; omega)
           have hp8 := (HS.out.2.2.1.alloc (.cells (plc x).toArray 35)).grown hg (fun e => by have := hne8 _ e.symm; omega)
           have hx8 := (HS.out.2.2.2.2.2.2.1.alloc (.cells (plc x).toArray 35)).grown hg (fun e => HS.out.2.2.2.2.2.2.2.2 e.symm)
           have hpu := lk_push (s := s) (x := x) (bal W (.cells (plc x).toArray 35)) hp1 HS.out.1 HS.out.2.1 HS.out.2.2.1 HS.out.2.2.2.1 HS.out.2.2.2.2.1 HS.out.2.2.2.2.2.1 hown hg hs
           have hvc8 := hv8.cell 0
           have hvf8 := hv8.free 0
           have hvl8 := hv8.lt
           have hpc8 := hp8.cell
           have hpf8 := hp8.free
           have hpl8 := hp8.lt
           have hxc8 := hx8.cell
           have hxl8 := hx8.lt
           have HP := Lib.hid hpu
           clear hown hg hne8 hv8 hp8 hx8 hpu hvc hvf hpc hpf hxc))
      refine ⟨keeps_of HP.out.2 ?_, kpr_of HS.out.2.2.2.2.2.1.size HP.out.2 ?_, HP.out.1⟩
      · rintro k (rfl | rfl | hk)
        · exact ⟨_, _, _, HS.out.2.2.1⟩
        · exact ⟨_, _, _, HS.out.1⟩
        obtain ⟨cs, e⟩ := row_block HS.out.2.1 hk.symm
        exact ⟨_, _, _, e⟩
      rintro k (rfl | rfl | hk)
      · refine ⟨by omega, fun cs t ht e => ?_⟩
        rw [show W.heap[k]? = _ from HS.out.2.2.1] at e
        cases e
        exact absurd ht (by unfold KpT; decide)
      · refine ⟨by omega, fun cs t ht e => ?_⟩
        rw [show W.heap[p + 1]? = _ from HS.out.1] at e
        cases e
        exact absurd ht (by unfold KpT; decide)
      refine ⟨by have := HS.out.2.2.2.2.2.2.2.1 _ hk.symm; omega, fun cs t ht e => ?_⟩
      obtain ⟨cs', e'⟩ := row_block HS.out.2.1 hk.symm
      rw [e'] at e
      cases e
      exact absurd ht (by unfold KpT; decide)
    case done =>
      rintro D xs W hD hxs ⟨⟨v, hv, hrow, _⟩, h3, h4, h5, h6⟩ hK
      have hxs' : done = xs := hxs.symm
      subst hxs'
      simp only at hv hrow h3
      obtain ⟨e1, e2, e3, e4⟩ := HRE.out
      rw [HL.out] at e1
      rw [endZ_of done at_ e2 (by omega), e3] at h3
      obtain ⟨vb, vc, rfl⟩ := ownsRow_slice hrow
      have hk0 : LkT w W p D #[.int .i64 (topic : Nat), .int .i64 (num : Nat), .int .i64 base, .int .i64 (at_ : Int), .int .i64 (done.length : Nat), .int .i64 lst, .bool false] (.slice vb done.length vc) done := ⟨hv, hrow, h3, h4, h5, h6, hK, hp1, by omega⟩
      have HK0 := Lib.hid hk0
      have hvc0 := hk0.hv.cell
      have hvl0 := hk0.hv.lt
      have hpc0 := hk0.box.cell
      have hpf0 := hk0.box.free
      have hpl0 := hk0.box.lt
      have hs1 : ∀ W, (Instr.slice 22 (.slice A n c) none (some (.int .i64 (at_ : Int))) (some (.int .i64 (at_ : Int)))).run Tryz.prog W = .ok (.slice A at_ at_) W := fun W => run_hm2 W A n c at_ (at_ : Int) rfl (by omega)
      have hw17 : IntKind.i64.wrap ((at_ : Int) + 17) = (at_ : Int) + 17 := IntWalk.i64_in _ (by omega)
      have HAW := Lib.hid (HA.out.below h6)
      clear hv hrow h3 h4 h5 h6 hK hk0 e2 e3 hD
      by_cases hg : n < at_ + 17
      · have hgb : decide ((at_ : Int) + 17 ≤ n) = false := decide_eq_false (by omega)
        have HNN : Hid (¬ (at_ + 17 ≤ b.length ∧ (b.drop at_).take 17 = tailS (b.take at_) done.length lst)) := fun h => by have := h.1; rw [HL.out] at this; omega
        go_upto_region 13 with fail
        go_quiet (fail)
        go_upto_region 16 with fail
        generalize hW1 : World.drewN _ _ = W1
        have HK1 : Hid (LkT w W1 p D #[.int .i64 (topic : Nat), .int .i64 (num : Nat), .int .i64 base, .int .i64 (at_ : Int), .int .i64 (done.length : Nat), .int .i64 lst, .bool false] (.slice vb done.length vc) done) := by
          show LkT _ _ _ _ _ _ _
          rw [← hW1]
          exact HK0.out.on (below_drewN (Below.refl _ _) _)
        clear hW1 hvc0 hvl0 hpc0 hpf0 hpl0 hs1
        by_cases hnn : at_ = n
        · have hq : ¬ (at_ : Int) < (n : Int) := by omega
          have HO := Lib.hid (HOpen.out at_ lst done rfl HNN.out 0 (by rw [HL.out]; simp; omega))
          clear hnn
          have hvc1 := HK1.out.hv.cell
          have hvl1 := HK1.out.hv.lt
          have hpc1 := HK1.out.box.cell
          have hpf1 := HK1.out.box.free
          have hpl1 := HK1.out.box.lt
          have hb2 : Below W1.heap.size W1 (W1.alloc (.cells #[.int .i64 0, .int .i64 (at_ : Int)] 28)) := bal W1 _
          have hx2 := Box.new W1 28 #[.int .i64 0, .int .i64 (at_ : Int)]
          go_upto_region 19 with fail
          obtain ⟨wz, hwz⟩ : ∃ wz, World.drew (W1.alloc (.cells #[.int .i64 0, .int .i64 (at_ : Int)] 28)) = wz := ⟨_, rfl⟩
          have hk2 : LkT w wz p D #[.int .i64 (topic : Nat), .int .i64 (num : Nat), .int .i64 base, .int .i64 (at_ : Int), .int .i64 (done.length : Nat), .int .i64 lst, .bool false] (.slice vb done.length vc) done := by
            rw [← hwz]
            exact (HK1.out.on hb2).on (Below.drew (Below.refl _ _))
          have hx3 : Box wz W1.heap.size 28 #[.int .i64 0, .int .i64 (at_ : Int)] := by
            rw [← hwz]
            exact hx2.drew
          have hqs : p + 1 < W1.heap.size := HK1.out.hv.lt
          generalize W1.heap.size = q at hx3 hqs hwz ⊢
          have hS0 : (fun w' : World => w'.cell? ⟨p, 0, none⟩ = some (.int .i64 (topic : Nat)) ∧ w'.cell? ⟨p, 1, none⟩ = some (.int .i64 (num : Nat)) ∧ w'.cell? ⟨p, 2, none⟩ = some (.int .i64 base) ∧ w'.cell? ⟨p, 3, none⟩ = some (.int .i64 (at_ : Int)) ∧ w'.cell? ⟨p, 4, none⟩ = some (.int .i64 (done.length : Nat)) ∧ w'.cell? ⟨p, 5, none⟩ = some (.int .i64 lst) ∧ w'.cell? ⟨p, 6, none⟩ = some (.bool false) ∧ w'.cell? ⟨p + 1, 0, none⟩ = some (.slice vb done.length vc) ∧ w'.cell? ⟨q, 0, none⟩ = some (.int .i64 0) ∧ w'.cell? ⟨q, 1, none⟩ = some (.int .i64 (at_ : Int))) wz := ⟨hk2.box.cell 0, hk2.box.cell 1, hk2.box.cell 2, hk2.box.cell 3, hk2.box.cell 4, hk2.box.cell 5, hk2.box.cell 6, hk2.hv.cell 0, hx3.cell 0, hx3.cell 1⟩
          have hnz : p ≠ w.heap.size := by omega
          have hnz1 : p + 1 ≠ w.heap.size := by omega
          have hnz2 : q ≠ w.heap.size := by omega
          have ha7 := (((((((hk2.box.far (p := ⟨w.heap.size, 0, none⟩) hnz (.int .i64 (topic : Nat))).far (p := ⟨w.heap.size, 1, none⟩) hnz (.int .i64 (num : Nat))).far (p := ⟨w.heap.size, 2, none⟩) hnz (.int .i64 base)).far (p := ⟨w.heap.size, 3, none⟩) hnz (.int .i64 (at_ : Int))).far (p := ⟨w.heap.size, 4, none⟩) hnz (.int .i64 (done.length : Nat))).far (p := ⟨w.heap.size, 5, none⟩) hnz (.int .i64 lst)).far (p := ⟨w.heap.size, 6, none⟩) hnz (.bool false))
          have hb7 := (((((((hk2.hv.far (p := ⟨w.heap.size, 0, none⟩) hnz1 (.int .i64 (topic : Nat))).far (p := ⟨w.heap.size, 1, none⟩) hnz1 (.int .i64 (num : Nat))).far (p := ⟨w.heap.size, 2, none⟩) hnz1 (.int .i64 base)).far (p := ⟨w.heap.size, 3, none⟩) hnz1 (.int .i64 (at_ : Int))).far (p := ⟨w.heap.size, 4, none⟩) hnz1 (.int .i64 (done.length : Nat))).far (p := ⟨w.heap.size, 5, none⟩) hnz1 (.int .i64 lst)).far (p := ⟨w.heap.size, 6, none⟩) hnz1 (.bool false))
          have hc7 := (((((((hx3.far (p := ⟨w.heap.size, 0, none⟩) hnz2 (.int .i64 (topic : Nat))).far (p := ⟨w.heap.size, 1, none⟩) hnz2 (.int .i64 (num : Nat))).far (p := ⟨w.heap.size, 2, none⟩) hnz2 (.int .i64 base)).far (p := ⟨w.heap.size, 3, none⟩) hnz2 (.int .i64 (at_ : Int))).far (p := ⟨w.heap.size, 4, none⟩) hnz2 (.int .i64 (done.length : Nat))).far (p := ⟨w.heap.size, 5, none⟩) hnz2 (.int .i64 lst)).far (p := ⟨w.heap.size, 6, none⟩) hnz2 (.bool false))
          have hS1 : (fun w' : World => w'.cell? ⟨p, 0, none⟩ = some (.int .i64 (topic : Nat)) ∧ w'.cell? ⟨p, 1, none⟩ = some (.int .i64 (num : Nat)) ∧ w'.cell? ⟨p, 2, none⟩ = some (.int .i64 base) ∧ w'.cell? ⟨p, 3, none⟩ = some (.int .i64 (at_ : Int)) ∧ w'.cell? ⟨p, 4, none⟩ = some (.int .i64 (done.length : Nat)) ∧ w'.cell? ⟨p, 5, none⟩ = some (.int .i64 lst) ∧ w'.cell? ⟨p, 6, none⟩ = some (.bool false) ∧ w'.cell? ⟨p + 1, 0, none⟩ = some (.slice vb done.length vc) ∧ w'.cell? ⟨q, 0, none⟩ = some (.int .i64 0) ∧ w'.cell? ⟨q, 1, none⟩ = some (.int .i64 (at_ : Int))) (World.setCell (World.setCell (World.setCell (World.setCell (World.setCell (World.setCell (World.setCell wz ⟨w.heap.size, 0, none⟩ (.int .i64 (topic : Nat))) ⟨w.heap.size, 1, none⟩ (.int .i64 (num : Nat))) ⟨w.heap.size, 2, none⟩ (.int .i64 base)) ⟨w.heap.size, 3, none⟩ (.int .i64 (at_ : Int))) ⟨w.heap.size, 4, none⟩ (.int .i64 (done.length : Nat))) ⟨w.heap.size, 5, none⟩ (.int .i64 lst)) ⟨w.heap.size, 6, none⟩ (.bool false)) := ⟨ha7.cell 0, ha7.cell 1, ha7.cell 2, ha7.cell 3, ha7.cell 4, ha7.cell 5, ha7.cell 6, hb7.cell 0, hc7.cell 0, hc7.cell 1⟩
          have hzc := hk2.z2.cell
          have hzf := hk2.z2.free
          have hzl := hk2.z2.lt
          have hyc := hk2.z4.cell
          have hyf := hk2.z4.free
          have hyl := hk2.z4.lt
          have HK2 := Lib.hid hk2
          clear ha7 hb7 hc7 hb2 hx2 hx3 hk2 hvc1 hvl1 hpc1 hpf1 hpl1
          refine safe_wp ?_
          refine WT.start (fun w' : World => w'.cell? ⟨p, 0, none⟩ = some (.int .i64 (topic : Nat)) ∧ w'.cell? ⟨p, 1, none⟩ = some (.int .i64 (num : Nat)) ∧ w'.cell? ⟨p, 2, none⟩ = some (.int .i64 base) ∧ w'.cell? ⟨p, 3, none⟩ = some (.int .i64 (at_ : Int)) ∧ w'.cell? ⟨p, 4, none⟩ = some (.int .i64 (done.length : Nat)) ∧ w'.cell? ⟨p, 5, none⟩ = some (.int .i64 lst) ∧ w'.cell? ⟨p, 6, none⟩ = some (.bool false) ∧ w'.cell? ⟨p + 1, 0, none⟩ = some (.slice vb done.length vc) ∧ w'.cell? ⟨q, 0, none⟩ = some (.int .i64 0) ∧ w'.cell? ⟨q, 1, none⟩ = some (.int .i64 (at_ : Int))) 5 (by kernel_rfl) ?_
          rw [hwz]
          clear hwz
          refine WT.take 0 (v := ?_) rfl (by kernel_rfl) (by kernel_rfl) (by kernel_rfl) (by kernel_rfl) (fun _ _ _ h => h) (Or.inl ⟨by rfl, ?hy⟩) hS0 ?_
          case hy => first | (intro w hSw; go_simp; done) | (intro w hSw; go_simp; with_reducible rfl)
          simp only [Act.put, List.setIfInBounds_toArray, List.set_cons_zero, List.set_cons_succ]
          refine WT.take 1 (v := ?_) rfl (by kernel_rfl) (by kernel_rfl) (by kernel_rfl) (by kernel_rfl) (fun _ _ _ h => h) (Or.inl ⟨by rfl, ?hy⟩) hS0 ?_
          case hy => first | (intro w hSw; go_simp; done) | (intro w hSw; go_simp; with_reducible rfl)
          simp only [Act.put, List.setIfInBounds_toArray, List.set_cons_zero, List.set_cons_succ]
          refine WT.take 2 (v := ?_) rfl (by kernel_rfl) (by kernel_rfl) (by kernel_rfl) (by kernel_rfl) (fun _ _ _ h => h) (Or.inl ⟨by rfl, ?hy⟩) hS0 ?_
          case hy => first | (intro w hSw; go_simp; done) | (intro w hSw; go_simp; with_reducible rfl)
          simp only [Act.put, List.setIfInBounds_toArray, List.set_cons_zero, List.set_cons_succ]
          refine WT.step 3 rfl (by kernel_rfl) (by decide) fun K hK => ?_
          go_simp
          refine hK.out _ _ hS1 ?_
          clear hK K
          refine WT.step 4 rfl (by kernel_rfl) (by decide) fun K hK => ?_
          go_simp
          refine hK.out _ _ hS1 ?_
          clear hK K
          refine WT.last 5 rfl (by kernel_rfl) rfl fun K hK => ?_
          go_simp
          refine hK.out _ _ ?_
          clear hK K
          refine WT.done (by kernel_rfl) ?_
          unfold safeQ
          dsimp only
          go_wp2
          have hC : Chg (fun k => w.heap.size ≤ k ∧ k ≤ p + 3) wz (World.setCell (World.setCell (World.setCell (World.setCell (World.setCell (World.setCell (World.setCell (World.setCell (World.setCell wz ⟨w.heap.size, 0, none⟩ (.int .i64 (topic : Nat))) ⟨w.heap.size, 1, none⟩ (.int .i64 (num : Nat))) ⟨w.heap.size, 2, none⟩ (.int .i64 base)) ⟨w.heap.size, 3, none⟩ (.int .i64 (at_ : Int))) ⟨w.heap.size, 4, none⟩ (.int .i64 (done.length : Nat))) ⟨w.heap.size, 5, none⟩ (.int .i64 lst)) ⟨w.heap.size, 6, none⟩ (.bool false)) ⟨w.heap.size + 1, 0, none⟩ (.int .i64 0)) ⟨w.heap.size + 1, 1, none⟩ (.int .i64 (at_ : Int))) := by
            have hCc := Chg.refl (fun k => w.heap.size ≤ k ∧ k ≤ p + 3) wz
            repeat (first | with_reducible exact hCc | with_reducible refine Chg.setCell ?_ (.inl ⟨by simp, by simp <;> omega⟩) _)
          have hE := HK2.out.end_ hC
          have hput := put_cell hE.1
          refine marks_end (v := .tuple #[.agg #[.int .i64 (topic : Nat), .int .i64 (num : Nat), .int .i64 base, .int .i64 (at_ : Int), .int .i64 (done.length : Nat), .int .i64 lst, .bool false], .slice vb done.length vc, .agg #[.int .i64 0, .int .i64 (at_ : Int)]]) hE.1 ?_ ?_
          · simp [results, Tryz.results5, go_sem, hput, hzc, hzl, hyc, hyl]
          unfold LkA
          rw [HO.out]
          exact ⟨_, rfl, hE.2.1, hE.2.2⟩
        have hq : (at_ : Int) < (n : Int) := by omega
        have HO := Lib.hid (HOpen.out at_ lst done rfl HNN.out 50 (by rw [HL.out]; simp; omega))
        clear hnn
        have hvc1 := HK1.out.hv.cell
        have hvl1 := HK1.out.hv.lt
        have hpc1 := HK1.out.box.cell
        have hpf1 := HK1.out.box.free
        have hpl1 := HK1.out.box.lt
        have hb2 : Below W1.heap.size W1 (W1.alloc (.cells #[.int .i64 50, .int .i64 (at_ : Int)] 28)) := bal W1 _
        have hx2 := Box.new W1 28 #[.int .i64 50, .int .i64 (at_ : Int)]
        go_upto_region 19 with fail
        obtain ⟨wz, hwz⟩ : ∃ wz, World.drew (W1.alloc (.cells #[.int .i64 50, .int .i64 (at_ : Int)] 28)) = wz := ⟨_, rfl⟩
        have hk2 : LkT w wz p D #[.int .i64 (topic : Nat), .int .i64 (num : Nat), .int .i64 base, .int .i64 (at_ : Int), .int .i64 (done.length : Nat), .int .i64 lst, .bool false] (.slice vb done.length vc) done := by
          rw [← hwz]
          exact (HK1.out.on hb2).on (Below.drew (Below.refl _ _))
        have hx3 : Box wz W1.heap.size 28 #[.int .i64 50, .int .i64 (at_ : Int)] := by
          rw [← hwz]
          exact hx2.drew
        have hqs : p + 1 < W1.heap.size := HK1.out.hv.lt
        generalize W1.heap.size = q at hx3 hqs hwz ⊢
        have hS0 : (fun w' : World => w'.cell? ⟨p, 0, none⟩ = some (.int .i64 (topic : Nat)) ∧ w'.cell? ⟨p, 1, none⟩ = some (.int .i64 (num : Nat)) ∧ w'.cell? ⟨p, 2, none⟩ = some (.int .i64 base) ∧ w'.cell? ⟨p, 3, none⟩ = some (.int .i64 (at_ : Int)) ∧ w'.cell? ⟨p, 4, none⟩ = some (.int .i64 (done.length : Nat)) ∧ w'.cell? ⟨p, 5, none⟩ = some (.int .i64 lst) ∧ w'.cell? ⟨p, 6, none⟩ = some (.bool false) ∧ w'.cell? ⟨p + 1, 0, none⟩ = some (.slice vb done.length vc) ∧ w'.cell? ⟨q, 0, none⟩ = some (.int .i64 50) ∧ w'.cell? ⟨q, 1, none⟩ = some (.int .i64 (at_ : Int))) wz := ⟨hk2.box.cell 0, hk2.box.cell 1, hk2.box.cell 2, hk2.box.cell 3, hk2.box.cell 4, hk2.box.cell 5, hk2.box.cell 6, hk2.hv.cell 0, hx3.cell 0, hx3.cell 1⟩
        have hnz : p ≠ w.heap.size := by omega
        have hnz1 : p + 1 ≠ w.heap.size := by omega
        have hnz2 : q ≠ w.heap.size := by omega
        have ha7 := (((((((hk2.box.far (p := ⟨w.heap.size, 0, none⟩) hnz (.int .i64 (topic : Nat))).far (p := ⟨w.heap.size, 1, none⟩) hnz (.int .i64 (num : Nat))).far (p := ⟨w.heap.size, 2, none⟩) hnz (.int .i64 base)).far (p := ⟨w.heap.size, 3, none⟩) hnz (.int .i64 (at_ : Int))).far (p := ⟨w.heap.size, 4, none⟩) hnz (.int .i64 (done.length : Nat))).far (p := ⟨w.heap.size, 5, none⟩) hnz (.int .i64 lst)).far (p := ⟨w.heap.size, 6, none⟩) hnz (.bool false))
        have hb7 := (((((((hk2.hv.far (p := ⟨w.heap.size, 0, none⟩) hnz1 (.int .i64 (topic : Nat))).far (p := ⟨w.heap.size, 1, none⟩) hnz1 (.int .i64 (num : Nat))).far (p := ⟨w.heap.size, 2, none⟩) hnz1 (.int .i64 base)).far (p := ⟨w.heap.size, 3, none⟩) hnz1 (.int .i64 (at_ : Int))).far (p := ⟨w.heap.size, 4, none⟩) hnz1 (.int .i64 (done.length : Nat))).far (p := ⟨w.heap.size, 5, none⟩) hnz1 (.int .i64 lst)).far (p := ⟨w.heap.size, 6, none⟩) hnz1 (.bool false))
        have hc7 := (((((((hx3.far (p := ⟨w.heap.size, 0, none⟩) hnz2 (.int .i64 (topic : Nat))).far (p := ⟨w.heap.size, 1, none⟩) hnz2 (.int .i64 (num : Nat))).far (p := ⟨w.heap.size, 2, none⟩) hnz2 (.int .i64 base)).far (p := ⟨w.heap.size, 3, none⟩) hnz2 (.int .i64 (at_ : Int))).far (p := ⟨w.heap.size, 4, none⟩) hnz2 (.int .i64 (done.length : Nat))).far (p := ⟨w.heap.size, 5, none⟩) hnz2 (.int .i64 lst)).far (p := ⟨w.heap.size, 6, none⟩) hnz2 (.bool false))
        have hS1 : (fun w' : World => w'.cell? ⟨p, 0, none⟩ = some (.int .i64 (topic : Nat)) ∧ w'.cell? ⟨p, 1, none⟩ = some (.int .i64 (num : Nat)) ∧ w'.cell? ⟨p, 2, none⟩ = some (.int .i64 base) ∧ w'.cell? ⟨p, 3, none⟩ = some (.int .i64 (at_ : Int)) ∧ w'.cell? ⟨p, 4, none⟩ = some (.int .i64 (done.length : Nat)) ∧ w'.cell? ⟨p, 5, none⟩ = some (.int .i64 lst) ∧ w'.cell? ⟨p, 6, none⟩ = some (.bool false) ∧ w'.cell? ⟨p + 1, 0, none⟩ = some (.slice vb done.length vc) ∧ w'.cell? ⟨q, 0, none⟩ = some (.int .i64 50) ∧ w'.cell? ⟨q, 1, none⟩ = some (.int .i64 (at_ : Int))) (World.setCell (World.setCell (World.setCell (World.setCell (World.setCell (World.setCell (World.setCell wz ⟨w.heap.size, 0, none⟩ (.int .i64 (topic : Nat))) ⟨w.heap.size, 1, none⟩ (.int .i64 (num : Nat))) ⟨w.heap.size, 2, none⟩ (.int .i64 base)) ⟨w.heap.size, 3, none⟩ (.int .i64 (at_ : Int))) ⟨w.heap.size, 4, none⟩ (.int .i64 (done.length : Nat))) ⟨w.heap.size, 5, none⟩ (.int .i64 lst)) ⟨w.heap.size, 6, none⟩ (.bool false)) := ⟨ha7.cell 0, ha7.cell 1, ha7.cell 2, ha7.cell 3, ha7.cell 4, ha7.cell 5, ha7.cell 6, hb7.cell 0, hc7.cell 0, hc7.cell 1⟩
        have hzc := hk2.z2.cell
        have hzf := hk2.z2.free
        have hzl := hk2.z2.lt
        have hyc := hk2.z4.cell
        have hyf := hk2.z4.free
        have hyl := hk2.z4.lt
        have HK2 := Lib.hid hk2
        clear ha7 hb7 hc7 hb2 hx2 hx3 hk2 hvc1 hvl1 hpc1 hpf1 hpl1
        refine safe_wp ?_
        refine WT.start (fun w' : World => w'.cell? ⟨p, 0, none⟩ = some (.int .i64 (topic : Nat)) ∧ w'.cell? ⟨p, 1, none⟩ = some (.int .i64 (num : Nat)) ∧ w'.cell? ⟨p, 2, none⟩ = some (.int .i64 base) ∧ w'.cell? ⟨p, 3, none⟩ = some (.int .i64 (at_ : Int)) ∧ w'.cell? ⟨p, 4, none⟩ = some (.int .i64 (done.length : Nat)) ∧ w'.cell? ⟨p, 5, none⟩ = some (.int .i64 lst) ∧ w'.cell? ⟨p, 6, none⟩ = some (.bool false) ∧ w'.cell? ⟨p + 1, 0, none⟩ = some (.slice vb done.length vc) ∧ w'.cell? ⟨q, 0, none⟩ = some (.int .i64 50) ∧ w'.cell? ⟨q, 1, none⟩ = some (.int .i64 (at_ : Int))) 5 (by kernel_rfl) ?_
        rw [hwz]
        clear hwz
        refine WT.take 0 (v := ?_) rfl (by kernel_rfl) (by kernel_rfl) (by kernel_rfl) (by kernel_rfl) (fun _ _ _ h => h) (Or.inl ⟨by rfl, ?hy⟩) hS0 ?_
        case hy => first | (intro w hSw; go_simp; done) | (intro w hSw; go_simp; with_reducible rfl)
        simp only [Act.put, List.setIfInBounds_toArray, List.set_cons_zero, List.set_cons_succ]
        refine WT.take 1 (v := ?_) rfl (by kernel_rfl) (by kernel_rfl) (by kernel_rfl) (by kernel_rfl) (fun _ _ _ h => h) (Or.inl ⟨by rfl, ?hy⟩) hS0 ?_
        case hy => first | (intro w hSw; go_simp; done) | (intro w hSw; go_simp; with_reducible rfl)
        simp only [Act.put, List.setIfInBounds_toArray, List.set_cons_zero, List.set_cons_succ]
        refine WT.take 2 (v := ?_) rfl (by kernel_rfl) (by kernel_rfl) (by kernel_rfl) (by kernel_rfl) (fun _ _ _ h => h) (Or.inl ⟨by rfl, ?hy⟩) hS0 ?_
        case hy => first | (intro w hSw; go_simp; done) | (intro w hSw; go_simp; with_reducible rfl)
        simp only [Act.put, List.setIfInBounds_toArray, List.set_cons_zero, List.set_cons_succ]
        refine WT.step 3 rfl (by kernel_rfl) (by decide) fun K hK => ?_
        go_simp
        refine hK.out _ _ hS1 ?_
        clear hK K
        refine WT.step 4 rfl (by kernel_rfl) (by decide) fun K hK => ?_
        go_simp
        refine hK.out _ _ hS1 ?_
        clear hK K
        refine WT.last 5 rfl (by kernel_rfl) rfl fun K hK => ?_
        go_simp
        refine hK.out _ _ ?_
        clear hK K
        refine WT.done (by kernel_rfl) ?_
        unfold safeQ
        dsimp only
        go_wp2
        have hC : Chg (fun k => w.heap.size ≤ k ∧ k ≤ p + 3) wz (World.setCell (World.setCell (World.setCell (World.setCell (World.setCell (World.setCell (World.setCell (World.setCell (World.setCell wz ⟨w.heap.size, 0, none⟩ (.int .i64 (topic : Nat))) ⟨w.heap.size, 1, none⟩ (.int .i64 (num : Nat))) ⟨w.heap.size, 2, none⟩ (.int .i64 base)) ⟨w.heap.size, 3, none⟩ (.int .i64 (at_ : Int))) ⟨w.heap.size, 4, none⟩ (.int .i64 (done.length : Nat))) ⟨w.heap.size, 5, none⟩ (.int .i64 lst)) ⟨w.heap.size, 6, none⟩ (.bool false)) ⟨w.heap.size + 1, 0, none⟩ (.int .i64 50)) ⟨w.heap.size + 1, 1, none⟩ (.int .i64 (at_ : Int))) := by
          have hCc := Chg.refl (fun k => w.heap.size ≤ k ∧ k ≤ p + 3) wz
          repeat (first | with_reducible exact hCc | with_reducible refine Chg.setCell ?_ (.inl ⟨by simp, by simp <;> omega⟩) _)
        have hE := HK2.out.end_ hC
        have hput := put_cell hE.1
        refine marks_end (v := .tuple #[.agg #[.int .i64 (topic : Nat), .int .i64 (num : Nat), .int .i64 base, .int .i64 (at_ : Int), .int .i64 (done.length : Nat), .int .i64 lst, .bool false], .slice vb done.length vc, .agg #[.int .i64 50, .int .i64 (at_ : Int)]]) hE.1 ?_ ?_
        · simp [results, Tryz.results5, go_sem, hput, hzc, hzl, hyc, hyl]
        unfold LkA
        rw [HO.out]
        exact ⟨_, rfl, hE.2.1, hE.2.2⟩
      have hgb : decide ((at_ : Int) + 17 ≤ n) = true := decide_eq_true (by omega)
      have hs2 : ∀ W, (Instr.slice 22 (.slice A n c) (some (.int .i64 (at_ : Int))) (some (.int .i64 ((at_ : Int) + 17))) none).run Tryz.prog W = .ok (.slice (tailA A c at_) 17 (c - at_)) W := fun W => run_part2 W A n c at_ 17 (at_ : Int) ((at_ : Int) + 17) rfl (by omega) (by omega)
      obtain ⟨x17, hx17⟩ : ∃ x17, (b.drop at_).take 17 = x17 := ⟨_, rfl⟩
      have hxl17 : x17.length = 17 := by rw [← hx17, List.length_take, List.length_drop, HL.out]; omega
      have hrd17 : Rd W w.heap.size (tailA A c at_) (bv x17) := by rw [← hx17]; exact (HAW.out.tail_ (cap := c) at_ (by rw [HL.out]; exact hc)).take_ 17
      have HRS : Hid (∀ w' : World, Rd w' w.heap.size (tailA A c at_) (bv x17) → (convert 22 9 (.slice (tailA A c at_) 17 (c - at_))).run Tryz.prog w' = .ok (.string ⟨x17.toArray⟩) w') := fun w' h => run_str w' _ _ 17 (c - at_) x17 hxl17 h
      obtain ⟨tt, htt⟩ : ∃ tt, tailS (b.take at_) done.length lst = tt := ⟨_, rfl⟩
      have HT17 : Hid (tt.length = 17) := by show _ = _; rw [← htt]; rfl
      obtain ⟨sm, hsm⟩ : ∃ sm, csum (b.take at_) = sm := ⟨_, rfl⟩
      have HTL := Lib.hid (tail_any sm ⟨topic, num, base, at_, done.length, lst, false⟩ (b.take at_))
      have HSM := Lib.hid hsm
      have HSUM := Lib.hid (octSum A at_ at_ (b.take at_))
      have HTK : Hid ((b.take at_).length = at_) := by show _ = _; rw [List.length_take, HL.out]; omega
      by_cases hxt : x17 = tt
      · have HTT : Hid ((b.drop at_).take 17 = tailS (b.take at_) done.length lst) := by show _ = _; rw [hx17, htt]; exact hxt
        have hbe : (x17 == tt) = true := by simp [hxt]
        clear hxt
        go_upto_region 13 with fail
        obtain ⟨wz, hwz⟩ : ∃ wz, W.drew = wz := ⟨_, rfl⟩
        have hkz : LkT w wz p D #[.int .i64 (topic : Nat), .int .i64 (num : Nat), .int .i64 base, .int .i64 (at_ : Int), .int .i64 (done.length : Nat), .int .i64 lst, .bool false] (.slice vb done.length vc) done := by
          rw [← hwz]
          exact HK0.out.on (Below.drew (Below.refl _ _))
        have hrz : Rd wz w.heap.size (tailA A c at_) (bv x17) := by rw [← hwz]; exact hrd17
        have hS0 : (fun w' : World => w'.cell? ⟨p, 0, none⟩ = some (.int .i64 (topic : Nat)) ∧ w'.cell? ⟨p, 1, none⟩ = some (.int .i64 (num : Nat)) ∧ w'.cell? ⟨p, 2, none⟩ = some (.int .i64 base) ∧ w'.cell? ⟨p, 3, none⟩ = some (.int .i64 (at_ : Int)) ∧ w'.cell? ⟨p, 4, none⟩ = some (.int .i64 (done.length : Nat)) ∧ w'.cell? ⟨p, 5, none⟩ = some (.int .i64 lst) ∧ w'.cell? ⟨p, 6, none⟩ = some (.bool false) ∧ Rd w' w.heap.size (tailA A c at_) (bv x17)) wz := ⟨hkz.box.cell 0, hkz.box.cell 1, hkz.box.cell 2, hkz.box.cell 3, hkz.box.cell 4, hkz.box.cell 5, hkz.box.cell 6, hrz⟩
        have HKZ := Lib.hid hkz
        have hrs : ∀ w', (fun w' : World => w'.cell? ⟨p, 0, none⟩ = some (.int .i64 (topic : Nat)) ∧ w'.cell? ⟨p, 1, none⟩ = some (.int .i64 (num : Nat)) ∧ w'.cell? ⟨p, 2, none⟩ = some (.int .i64 base) ∧ w'.cell? ⟨p, 3, none⟩ = some (.int .i64 (at_ : Int)) ∧ w'.cell? ⟨p, 4, none⟩ = some (.int .i64 (done.length : Nat)) ∧ w'.cell? ⟨p, 5, none⟩ = some (.int .i64 lst) ∧ w'.cell? ⟨p, 6, none⟩ = some (.bool false) ∧ Rd w' w.heap.size (tailA A c at_) (bv x17)) w' → (convert 22 9 (.slice (tailA A c at_) 17 (c - at_))).run Tryz.prog w' = .ok (.string ⟨x17.toArray⟩) w' := fun w' h => HRS.out w' h.2.2.2.2.2.2.2
        have HRZ := Lib.hid hrz
        clear hvc0 hvl0 hpc0 hpf0 hpl0 hkz hrz hrd17
        refine safe_wp ?_
        refine HT.start (fun w' : World => w'.cell? ⟨p, 0, none⟩ = some (.int .i64 (topic : Nat)) ∧ w'.cell? ⟨p, 1, none⟩ = some (.int .i64 (num : Nat)) ∧ w'.cell? ⟨p, 2, none⟩ = some (.int .i64 base) ∧ w'.cell? ⟨p, 3, none⟩ = some (.int .i64 (at_ : Int)) ∧ w'.cell? ⟨p, 4, none⟩ = some (.int .i64 (done.length : Nat)) ∧ w'.cell? ⟨p, 5, none⟩ = some (.int .i64 lst) ∧ w'.cell? ⟨p, 6, none⟩ = some (.bool false) ∧ Rd w' w.heap.size (tailA A c at_) (bv x17)) (by kernel_rfl) ?_
        rw [hwz]
        clear hwz
        refine HT.take 0 (v := ?_) rfl (by kernel_rfl) (by kernel_rfl) (by kernel_rfl) (fun _ _ _ h => h) (Or.inl ⟨by rfl, ?hy⟩) hS0 ?_
        case hy => first | (intro w hSw; go_simp; done) | (intro w hSw; go_simp; with_reducible rfl) | (intro w hSw; have hr := hrs w hSw; go_simp; done) | (intro w hSw; have hr := hrs w hSw; go_simp; with_reducible rfl)
        simp only [Act.put, List.setIfInBounds_toArray, List.set_cons_zero, List.set_cons_succ]
        refine HT.take 1 (v := ?_) rfl (by kernel_rfl) (by kernel_rfl) (by kernel_rfl) (fun _ _ _ h => h) (Or.inl ⟨by rfl, ?hy⟩) hS0 ?_
        case hy => first | (intro w hSw; go_simp; done) | (intro w hSw; go_simp; with_reducible rfl) | (intro w hSw; have hr := hrs w hSw; go_simp; done) | (intro w hSw; have hr := hrs w hSw; go_simp; with_reducible rfl)
        simp only [Act.put, List.setIfInBounds_toArray, List.set_cons_zero, List.set_cons_succ]
        refine HT.take 2 (v := ?_) rfl (by kernel_rfl) (by kernel_rfl) (by kernel_rfl) (fun _ _ _ h => h) (Or.inl ⟨by rfl, ?hy⟩) hS0 ?_
        case hy => first | (intro w hSw; go_simp; done) | (intro w hSw; go_simp; with_reducible rfl) | (intro w hSw; have hr := hrs w hSw; go_simp; done) | (intro w hSw; have hr := hrs w hSw; go_simp; with_reducible rfl)
        simp only [Act.put, List.setIfInBounds_toArray, List.set_cons_zero, List.set_cons_succ]
        refine HT.take 3 (v := ?_) rfl (by kernel_rfl) (by kernel_rfl) (by kernel_rfl) (fun _ _ _ h => h) (Or.inl ⟨by rfl, ?hy⟩) hS0 ?_
        case hy => first | (intro w hSw; go_simp; done) | (intro w hSw; go_simp; with_reducible rfl) | (intro w hSw; have hr := hrs w hSw; go_simp; done) | (intro w hSw; have hr := hrs w hSw; go_simp; with_reducible rfl)
        simp only [Act.put, List.setIfInBounds_toArray, List.set_cons_zero, List.set_cons_succ]
        refine HT.take 4 (v := ?_) rfl (by kernel_rfl) (by kernel_rfl) (by kernel_rfl) (fun _ _ _ h => h) (Or.inl ⟨by rfl, ?hy⟩) hS0 ?_
        case hy => first | (intro w hSw; go_simp; done) | (intro w hSw; go_simp; with_reducible rfl) | (intro w hSw; have hr := hrs w hSw; go_simp; done) | (intro w hSw; have hr := hrs w hSw; go_simp; with_reducible rfl)
        simp only [Act.put, List.setIfInBounds_toArray, List.set_cons_zero, List.set_cons_succ]
        refine HT.take 5 (v := ?_) rfl (by kernel_rfl) (by kernel_rfl) (by kernel_rfl) (fun _ _ _ h => h) (Or.inl ⟨by rfl, ?hy⟩) hS0 ?_
        case hy => first | (intro w hSw; go_simp; done) | (intro w hSw; go_simp; with_reducible rfl) | (intro w hSw; have hr := hrs w hSw; go_simp; done) | (intro w hSw; have hr := hrs w hSw; go_simp; with_reducible rfl)
        simp only [Act.put, List.setIfInBounds_toArray, List.set_cons_zero, List.set_cons_succ]
        refine HT.take 6 (v := ?_) rfl (by kernel_rfl) (by kernel_rfl) (by kernel_rfl) (fun _ _ _ h => h) (Or.inl ⟨by rfl, ?hy⟩) hS0 ?_
        case hy => first | (intro w hSw; go_simp; done) | (intro w hSw; go_simp; with_reducible rfl) | (intro w hSw; have hr := hrs w hSw; go_simp; done) | (intro w hSw; have hr := hrs w hSw; go_simp; with_reducible rfl)
        simp only [Act.put, List.setIfInBounds_toArray, List.set_cons_zero, List.set_cons_succ]
        refine HT.take 7 (v := ?_) rfl (by kernel_rfl) (by kernel_rfl) (by kernel_rfl) (fun _ _ _ h => h) (Or.inl ⟨by rfl, ?hy⟩) hS0 ?_
        case hy => first | (intro w hSw; go_simp; done) | (intro w hSw; go_simp; with_reducible rfl) | (intro w hSw; have hr := hrs w hSw; go_simp; done) | (intro w hSw; have hr := hrs w hSw; go_simp; with_reducible rfl)
        simp only [Act.put, List.setIfInBounds_toArray, List.set_cons_zero, List.set_cons_succ]
        refine HT.take 8 (v := ?_) rfl (by kernel_rfl) (by kernel_rfl) (by kernel_rfl) (fun _ _ _ h => h) (Or.inl ⟨by rfl, ?hy⟩) hS0 ?_
        case hy => first | (intro w hSw; go_simp; done) | (intro w hSw; go_simp; with_reducible rfl) | (intro w hSw; have hr := hrs w hSw; go_simp; done) | (intro w hSw; have hr := hrs w hSw; go_simp; with_reducible rfl)
        simp only [Act.put, List.setIfInBounds_toArray, List.set_cons_zero, List.set_cons_succ]
        refine HT.take 9 (v := ?_) rfl (by kernel_rfl) (by kernel_rfl) (by kernel_rfl) (fun _ _ _ h => h) (Or.inl ⟨by rfl, ?hy⟩) hS0 ?_
        case hy => first | (intro w hSw; go_simp; done) | (intro w hSw; go_simp; with_reducible rfl) | (intro w hSw; have hr := hrs w hSw; go_simp; done) | (intro w hSw; have hr := hrs w hSw; go_simp; with_reducible rfl)
        simp only [Act.put, List.setIfInBounds_toArray, List.set_cons_zero, List.set_cons_succ]
        refine HT.take 10 (v := ?_) rfl (by kernel_rfl) (by kernel_rfl) (by kernel_rfl) (fun _ _ _ h => h) (Or.inl ⟨by rfl, ?hy⟩) hS0 ?_
        case hy => first | (intro w hSw; go_simp; done) | (intro w hSw; go_simp; with_reducible rfl) | (intro w hSw; have hr := hrs w hSw; go_simp; done) | (intro w hSw; have hr := hrs w hSw; go_simp; with_reducible rfl)
        simp only [Act.put, List.setIfInBounds_toArray, List.set_cons_zero, List.set_cons_succ]
        refine HT.take 11 (v := ?_) rfl (by kernel_rfl) (by kernel_rfl) (by kernel_rfl) (fun _ _ _ h => h) (Or.inl ⟨by rfl, ?hy⟩) hS0 ?_
        case hy => first | (intro w hSw; go_simp; done) | (intro w hSw; go_simp; with_reducible rfl) | (intro w hSw; have hr := hrs w hSw; go_simp; done) | (intro w hSw; have hr := hrs w hSw; go_simp; with_reducible rfl)
        simp only [Act.put, List.setIfInBounds_toArray, List.set_cons_zero, List.set_cons_succ]
        refine HT.take 13 (v := ?_) rfl (by kernel_rfl) (by kernel_rfl) (by kernel_rfl) (fun _ _ _ h => h) (Or.inl ⟨by rfl, ?hy⟩) hS0 ?_
        case hy => first | (intro w hSw; go_simp; done) | (intro w hSw; go_simp; with_reducible rfl) | (intro w hSw; have hr := hrs w hSw; go_simp; done) | (intro w hSw; have hr := hrs w hSw; go_simp; with_reducible rfl)
        simp only [Act.put, List.setIfInBounds_toArray, List.set_cons_zero, List.set_cons_succ]
        clear hrs
        refine HT.step 12 rfl (by kernel_rfl) fun K hK => ?_
        go_simp
        go_at_call 15
        refine (HSUM.out _ (((HA.out.below HKZ.out.bel).mono HKZ.out.bel.size).take_ at_) HTK.out (by unfold maxLen; omega)).mono ?_
        rintro e w14 ⟨rfl, hb⟩
        rw [show crcE 0 (b.take at_) = sm from HSM.out]
        have hk14 := HKZ.out.on hb
        have hr14 := HRZ.out.below (hb.mono HKZ.out.bel.size)
        have hS1 : (fun w' : World => w'.cell? ⟨p, 0, none⟩ = some (.int .i64 (topic : Nat)) ∧ w'.cell? ⟨p, 1, none⟩ = some (.int .i64 (num : Nat)) ∧ w'.cell? ⟨p, 2, none⟩ = some (.int .i64 base) ∧ w'.cell? ⟨p, 3, none⟩ = some (.int .i64 (at_ : Int)) ∧ w'.cell? ⟨p, 4, none⟩ = some (.int .i64 (done.length : Nat)) ∧ w'.cell? ⟨p, 5, none⟩ = some (.int .i64 lst) ∧ w'.cell? ⟨p, 6, none⟩ = some (.bool false) ∧ Rd w' w.heap.size (tailA A c at_) (bv x17)) w14 := ⟨hk14.box.cell 0, hk14.box.cell 1, hk14.box.cell 2, hk14.box.cell 3, hk14.box.cell 4, hk14.box.cell 5, hk14.box.cell 6, hr14⟩
        have HK14 := Lib.hid (And.intro hk14 hr14)
        clear hb hk14 hr14
        go_simp
        refine hK.out _ _ hS1 ?_
        clear hK K
        refine HT.step 14 rfl (by kernel_rfl) fun K hK => ?_
        go_simp
        go_at_call 14
        refine (HTL.out _ HSM.out (by show done.length < _; omega)).mono ?_
        rintro e w15 ⟨bt, ct, rfl, ho, hb⟩
        have hk15 := HK14.out.1.on hb
        have hr15 := HK14.out.2.below (hb.mono HK14.out.1.bel.size)
        have hS2 : (fun w' : World => w'.cell? ⟨p, 0, none⟩ = some (.int .i64 (topic : Nat)) ∧ w'.cell? ⟨p, 1, none⟩ = some (.int .i64 (num : Nat)) ∧ w'.cell? ⟨p, 2, none⟩ = some (.int .i64 base) ∧ w'.cell? ⟨p, 3, none⟩ = some (.int .i64 (at_ : Int)) ∧ w'.cell? ⟨p, 4, none⟩ = some (.int .i64 (done.length : Nat)) ∧ w'.cell? ⟨p, 5, none⟩ = some (.int .i64 lst) ∧ w'.cell? ⟨p, 6, none⟩ = some (.bool false) ∧ Rd w' w.heap.size (tailA A c at_) (bv x17)) w15 := ⟨hk15.box.cell 0, hk15.box.cell 1, hk15.box.cell 2, hk15.box.cell 3, hk15.box.cell 4, hk15.box.cell 5, hk15.box.cell 6, hr15⟩
        have hro := ownsRow_rd ho
        try dsimp only at hro
        rw [htt] at hro
        have hr2 := run_str w15 _ bt 17 ct tt HT17.out hro
        have HK15 := Lib.hid hk15
        clear ho hb hk15 hr15 hro
        go_simp
        refine hK.out _ _ hS2 ?_
        clear hK K
        refine HT.step 15 rfl (by kernel_rfl) fun K hK => ?_
        go_simp
        refine hK.out _ _ hS2 ?_
        clear hK K
        clear hr2
        refine HT.step 16 rfl (by kernel_rfl) fun K hK => ?_
        go_simp
        refine hK.out _ _ hS2 ?_
        clear hK K
        refine HT.step 17 rfl (by kernel_rfl) fun K hK => ?_
        go_simp
        refine hK.out _ _ hS2 ?_
        clear hK K
        refine HT.done (by kernel_rfl) ?_
        unfold safeQ
        try dsimp only
        have hvc5 := HK15.out.hv.cell
        have hvl5 := HK15.out.hv.lt
        have hpc5 := HK15.out.box.cell
        have hpf5 := HK15.out.box.free
        have hpl5 := HK15.out.box.lt
        have hk1 := (HK15.out.set_ 3 (.int .i64 ((at_ : Int) + 17))).set_ 6 (.bool true)
        go_upto_region 16 with fail
        obtain ⟨W1, hW1⟩ : ∃ W1, (World.setCell (World.setCell w15 ⟨p, 3, none⟩ (.int .i64 ((at_ : Int) + 17))) ⟨p, 6, none⟩ (.bool true)) = W1 := ⟨_, rfl⟩
        rw [hW1] at hk1 ⊢
        have HK1 : Hid (LkT w W1 p D #[.int .i64 (topic : Nat), .int .i64 (num : Nat), .int .i64 base, .int .i64 ((at_ : Int) + 17), .int .i64 (done.length : Nat), .int .i64 lst, .bool true] (.slice vb done.length vc) done) := by
          show LkT _ _ _ _ _ _ _
          simpa using hk1
        clear hW1 hk1 hvc5 hvl5 hpc5 hpf5 hpl5 hs1 hs2 hbe
        by_cases hnn : at_ + 17 = n
        · have hq : ¬ ((at_ : Int) + 17) < (n : Int) := by omega
          have HO := Lib.hid (HSeal.out at_ lst done rfl (by rw [HL.out]; omega) HTT.out 0 (by rw [HL.out]; simp; omega))
          clear hnn
          have hvc1 := HK1.out.hv.cell
          have hvl1 := HK1.out.hv.lt
          have hpc1 := HK1.out.box.cell
          have hpf1 := HK1.out.box.free
          have hpl1 := HK1.out.box.lt
          have hb2 : Below W1.heap.size W1 (W1.alloc (.cells #[.int .i64 0, .int .i64 ((at_ : Int) + 17)] 28)) := bal W1 _
          have hx2 := Box.new W1 28 #[.int .i64 0, .int .i64 ((at_ : Int) + 17)]
          go_upto_region 19 with fail
          obtain ⟨wz, hwz⟩ : ∃ wz, World.drew (W1.alloc (.cells #[.int .i64 0, .int .i64 ((at_ : Int) + 17)] 28)) = wz := ⟨_, rfl⟩
          have hk2 : LkT w wz p D #[.int .i64 (topic : Nat), .int .i64 (num : Nat), .int .i64 base, .int .i64 ((at_ : Int) + 17), .int .i64 (done.length : Nat), .int .i64 lst, .bool true] (.slice vb done.length vc) done := by
            rw [← hwz]
            exact (HK1.out.on hb2).on (Below.drew (Below.refl _ _))
          have hx3 : Box wz W1.heap.size 28 #[.int .i64 0, .int .i64 ((at_ : Int) + 17)] := by
            rw [← hwz]
            exact hx2.drew
          have hqs : p + 1 < W1.heap.size := HK1.out.hv.lt
          generalize W1.heap.size = q at hx3 hqs hwz ⊢
          have hS0 : (fun w' : World => w'.cell? ⟨p, 0, none⟩ = some (.int .i64 (topic : Nat)) ∧ w'.cell? ⟨p, 1, none⟩ = some (.int .i64 (num : Nat)) ∧ w'.cell? ⟨p, 2, none⟩ = some (.int .i64 base) ∧ w'.cell? ⟨p, 3, none⟩ = some (.int .i64 ((at_ : Int) + 17)) ∧ w'.cell? ⟨p, 4, none⟩ = some (.int .i64 (done.length : Nat)) ∧ w'.cell? ⟨p, 5, none⟩ = some (.int .i64 lst) ∧ w'.cell? ⟨p, 6, none⟩ = some (.bool true) ∧ w'.cell? ⟨p + 1, 0, none⟩ = some (.slice vb done.length vc) ∧ w'.cell? ⟨q, 0, none⟩ = some (.int .i64 0) ∧ w'.cell? ⟨q, 1, none⟩ = some (.int .i64 ((at_ : Int) + 17))) wz := ⟨hk2.box.cell 0, hk2.box.cell 1, hk2.box.cell 2, hk2.box.cell 3, hk2.box.cell 4, hk2.box.cell 5, hk2.box.cell 6, hk2.hv.cell 0, hx3.cell 0, hx3.cell 1⟩
          have hnz : p ≠ w.heap.size := by omega
          have hnz1 : p + 1 ≠ w.heap.size := by omega
          have hnz2 : q ≠ w.heap.size := by omega
          have ha7 := (((((((hk2.box.far (p := ⟨w.heap.size, 0, none⟩) hnz (.int .i64 (topic : Nat))).far (p := ⟨w.heap.size, 1, none⟩) hnz (.int .i64 (num : Nat))).far (p := ⟨w.heap.size, 2, none⟩) hnz (.int .i64 base)).far (p := ⟨w.heap.size, 3, none⟩) hnz (.int .i64 ((at_ : Int) + 17))).far (p := ⟨w.heap.size, 4, none⟩) hnz (.int .i64 (done.length : Nat))).far (p := ⟨w.heap.size, 5, none⟩) hnz (.int .i64 lst)).far (p := ⟨w.heap.size, 6, none⟩) hnz (.bool true))
          have hb7 := (((((((hk2.hv.far (p := ⟨w.heap.size, 0, none⟩) hnz1 (.int .i64 (topic : Nat))).far (p := ⟨w.heap.size, 1, none⟩) hnz1 (.int .i64 (num : Nat))).far (p := ⟨w.heap.size, 2, none⟩) hnz1 (.int .i64 base)).far (p := ⟨w.heap.size, 3, none⟩) hnz1 (.int .i64 ((at_ : Int) + 17))).far (p := ⟨w.heap.size, 4, none⟩) hnz1 (.int .i64 (done.length : Nat))).far (p := ⟨w.heap.size, 5, none⟩) hnz1 (.int .i64 lst)).far (p := ⟨w.heap.size, 6, none⟩) hnz1 (.bool true))
          have hc7 := (((((((hx3.far (p := ⟨w.heap.size, 0, none⟩) hnz2 (.int .i64 (topic : Nat))).far (p := ⟨w.heap.size, 1, none⟩) hnz2 (.int .i64 (num : Nat))).far (p := ⟨w.heap.size, 2, none⟩) hnz2 (.int .i64 base)).far (p := ⟨w.heap.size, 3, none⟩) hnz2 (.int .i64 ((at_ : Int) + 17))).far (p := ⟨w.heap.size, 4, none⟩) hnz2 (.int .i64 (done.length : Nat))).far (p := ⟨w.heap.size, 5, none⟩) hnz2 (.int .i64 lst)).far (p := ⟨w.heap.size, 6, none⟩) hnz2 (.bool true))
          have hS1 : (fun w' : World => w'.cell? ⟨p, 0, none⟩ = some (.int .i64 (topic : Nat)) ∧ w'.cell? ⟨p, 1, none⟩ = some (.int .i64 (num : Nat)) ∧ w'.cell? ⟨p, 2, none⟩ = some (.int .i64 base) ∧ w'.cell? ⟨p, 3, none⟩ = some (.int .i64 ((at_ : Int) + 17)) ∧ w'.cell? ⟨p, 4, none⟩ = some (.int .i64 (done.length : Nat)) ∧ w'.cell? ⟨p, 5, none⟩ = some (.int .i64 lst) ∧ w'.cell? ⟨p, 6, none⟩ = some (.bool true) ∧ w'.cell? ⟨p + 1, 0, none⟩ = some (.slice vb done.length vc) ∧ w'.cell? ⟨q, 0, none⟩ = some (.int .i64 0) ∧ w'.cell? ⟨q, 1, none⟩ = some (.int .i64 ((at_ : Int) + 17))) (World.setCell (World.setCell (World.setCell (World.setCell (World.setCell (World.setCell (World.setCell wz ⟨w.heap.size, 0, none⟩ (.int .i64 (topic : Nat))) ⟨w.heap.size, 1, none⟩ (.int .i64 (num : Nat))) ⟨w.heap.size, 2, none⟩ (.int .i64 base)) ⟨w.heap.size, 3, none⟩ (.int .i64 ((at_ : Int) + 17))) ⟨w.heap.size, 4, none⟩ (.int .i64 (done.length : Nat))) ⟨w.heap.size, 5, none⟩ (.int .i64 lst)) ⟨w.heap.size, 6, none⟩ (.bool true)) := ⟨ha7.cell 0, ha7.cell 1, ha7.cell 2, ha7.cell 3, ha7.cell 4, ha7.cell 5, ha7.cell 6, hb7.cell 0, hc7.cell 0, hc7.cell 1⟩
          have hzc := hk2.z2.cell
          have hzf := hk2.z2.free
          have hzl := hk2.z2.lt
          have hyc := hk2.z4.cell
          have hyf := hk2.z4.free
          have hyl := hk2.z4.lt
          have HK2 := Lib.hid hk2
          clear ha7 hb7 hc7 hb2 hx2 hx3 hk2 hvc1 hvl1 hpc1 hpf1 hpl1
          refine safe_wp ?_
          refine WT.start (fun w' : World => w'.cell? ⟨p, 0, none⟩ = some (.int .i64 (topic : Nat)) ∧ w'.cell? ⟨p, 1, none⟩ = some (.int .i64 (num : Nat)) ∧ w'.cell? ⟨p, 2, none⟩ = some (.int .i64 base) ∧ w'.cell? ⟨p, 3, none⟩ = some (.int .i64 ((at_ : Int) + 17)) ∧ w'.cell? ⟨p, 4, none⟩ = some (.int .i64 (done.length : Nat)) ∧ w'.cell? ⟨p, 5, none⟩ = some (.int .i64 lst) ∧ w'.cell? ⟨p, 6, none⟩ = some (.bool true) ∧ w'.cell? ⟨p + 1, 0, none⟩ = some (.slice vb done.length vc) ∧ w'.cell? ⟨q, 0, none⟩ = some (.int .i64 0) ∧ w'.cell? ⟨q, 1, none⟩ = some (.int .i64 ((at_ : Int) + 17))) 5 (by kernel_rfl) ?_
          rw [hwz]
          clear hwz
          refine WT.take 0 (v := ?_) rfl (by kernel_rfl) (by kernel_rfl) (by kernel_rfl) (by kernel_rfl) (fun _ _ _ h => h) (Or.inl ⟨by rfl, ?hy⟩) hS0 ?_
          case hy => first | (intro w hSw; go_simp; done) | (intro w hSw; go_simp; with_reducible rfl)
          simp only [Act.put, List.setIfInBounds_toArray, List.set_cons_zero, List.set_cons_succ]
          refine WT.take 1 (v := ?_) rfl (by kernel_rfl) (by kernel_rfl) (by kernel_rfl) (by kernel_rfl) (fun _ _ _ h => h) (Or.inl ⟨by rfl, ?hy⟩) hS0 ?_
          case hy => first | (intro w hSw; go_simp; done) | (intro w hSw; go_simp; with_reducible rfl)
          simp only [Act.put, List.setIfInBounds_toArray, List.set_cons_zero, List.set_cons_succ]
          refine WT.take 2 (v := ?_) rfl (by kernel_rfl) (by kernel_rfl) (by kernel_rfl) (by kernel_rfl) (fun _ _ _ h => h) (Or.inl ⟨by rfl, ?hy⟩) hS0 ?_
          case hy => first | (intro w hSw; go_simp; done) | (intro w hSw; go_simp; with_reducible rfl)
          simp only [Act.put, List.setIfInBounds_toArray, List.set_cons_zero, List.set_cons_succ]
          refine WT.step 3 rfl (by kernel_rfl) (by decide) fun K hK => ?_
          go_simp
          refine hK.out _ _ hS1 ?_
          clear hK K
          refine WT.step 4 rfl (by kernel_rfl) (by decide) fun K hK => ?_
          go_simp
          refine hK.out _ _ hS1 ?_
          clear hK K
          refine WT.last 5 rfl (by kernel_rfl) rfl fun K hK => ?_
          go_simp
          refine hK.out _ _ ?_
          clear hK K
          refine WT.done (by kernel_rfl) ?_
          unfold safeQ
          dsimp only
          go_wp2
          have hC : Chg (fun k => w.heap.size ≤ k ∧ k ≤ p + 3) wz (World.setCell (World.setCell (World.setCell (World.setCell (World.setCell (World.setCell (World.setCell (World.setCell (World.setCell wz ⟨w.heap.size, 0, none⟩ (.int .i64 (topic : Nat))) ⟨w.heap.size, 1, none⟩ (.int .i64 (num : Nat))) ⟨w.heap.size, 2, none⟩ (.int .i64 base)) ⟨w.heap.size, 3, none⟩ (.int .i64 ((at_ : Int) + 17))) ⟨w.heap.size, 4, none⟩ (.int .i64 (done.length : Nat))) ⟨w.heap.size, 5, none⟩ (.int .i64 lst)) ⟨w.heap.size, 6, none⟩ (.bool true)) ⟨w.heap.size + 1, 0, none⟩ (.int .i64 0)) ⟨w.heap.size + 1, 1, none⟩ (.int .i64 ((at_ : Int) + 17))) := by
            have hCc := Chg.refl (fun k => w.heap.size ≤ k ∧ k ≤ p + 3) wz
            repeat (first | with_reducible exact hCc | with_reducible refine Chg.setCell ?_ (.inl ⟨by simp, by simp <;> omega⟩) _)
          have hE := HK2.out.end_ hC
          have hput := put_cell hE.1
          refine marks_end (v := .tuple #[.agg #[.int .i64 (topic : Nat), .int .i64 (num : Nat), .int .i64 base, .int .i64 ((at_ : Int) + 17), .int .i64 (done.length : Nat), .int .i64 lst, .bool true], .slice vb done.length vc, .agg #[.int .i64 0, .int .i64 ((at_ : Int) + 17)]]) hE.1 ?_ ?_
          · simp [results, Tryz.results5, go_sem, hput, hzc, hzl, hyc, hyl]
          unfold LkA
          rw [HO.out]
          exact ⟨_, rfl, hE.2.1, hE.2.2⟩
        have hq : ((at_ : Int) + 17) < (n : Int) := by omega
        have HO := Lib.hid (HSeal.out at_ lst done rfl (by rw [HL.out]; omega) HTT.out 50 (by rw [HL.out]; simp; omega))
        clear hnn
        have hvc1 := HK1.out.hv.cell
        have hvl1 := HK1.out.hv.lt
        have hpc1 := HK1.out.box.cell
        have hpf1 := HK1.out.box.free
        have hpl1 := HK1.out.box.lt
        have hb2 : Below W1.heap.size W1 (W1.alloc (.cells #[.int .i64 50, .int .i64 ((at_ : Int) + 17)] 28)) := bal W1 _
        have hx2 := Box.new W1 28 #[.int .i64 50, .int .i64 ((at_ : Int) + 17)]
        go_upto_region 19 with fail
        obtain ⟨wz, hwz⟩ : ∃ wz, World.drew (W1.alloc (.cells #[.int .i64 50, .int .i64 ((at_ : Int) + 17)] 28)) = wz := ⟨_, rfl⟩
        have hk2 : LkT w wz p D #[.int .i64 (topic : Nat), .int .i64 (num : Nat), .int .i64 base, .int .i64 ((at_ : Int) + 17), .int .i64 (done.length : Nat), .int .i64 lst, .bool true] (.slice vb done.length vc) done := by
          rw [← hwz]
          exact (HK1.out.on hb2).on (Below.drew (Below.refl _ _))
        have hx3 : Box wz W1.heap.size 28 #[.int .i64 50, .int .i64 ((at_ : Int) + 17)] := by
          rw [← hwz]
          exact hx2.drew
        have hqs : p + 1 < W1.heap.size := HK1.out.hv.lt
        generalize W1.heap.size = q at hx3 hqs hwz ⊢
        have hS0 : (fun w' : World => w'.cell? ⟨p, 0, none⟩ = some (.int .i64 (topic : Nat)) ∧ w'.cell? ⟨p, 1, none⟩ = some (.int .i64 (num : Nat)) ∧ w'.cell? ⟨p, 2, none⟩ = some (.int .i64 base) ∧ w'.cell? ⟨p, 3, none⟩ = some (.int .i64 ((at_ : Int) + 17)) ∧ w'.cell? ⟨p, 4, none⟩ = some (.int .i64 (done.length : Nat)) ∧ w'.cell? ⟨p, 5, none⟩ = some (.int .i64 lst) ∧ w'.cell? ⟨p, 6, none⟩ = some (.bool true) ∧ w'.cell? ⟨p + 1, 0, none⟩ = some (.slice vb done.length vc) ∧ w'.cell? ⟨q, 0, none⟩ = some (.int .i64 50) ∧ w'.cell? ⟨q, 1, none⟩ = some (.int .i64 ((at_ : Int) + 17))) wz := ⟨hk2.box.cell 0, hk2.box.cell 1, hk2.box.cell 2, hk2.box.cell 3, hk2.box.cell 4, hk2.box.cell 5, hk2.box.cell 6, hk2.hv.cell 0, hx3.cell 0, hx3.cell 1⟩
        have hnz : p ≠ w.heap.size := by omega
        have hnz1 : p + 1 ≠ w.heap.size := by omega
        have hnz2 : q ≠ w.heap.size := by omega
        have ha7 := (((((((hk2.box.far (p := ⟨w.heap.size, 0, none⟩) hnz (.int .i64 (topic : Nat))).far (p := ⟨w.heap.size, 1, none⟩) hnz (.int .i64 (num : Nat))).far (p := ⟨w.heap.size, 2, none⟩) hnz (.int .i64 base)).far (p := ⟨w.heap.size, 3, none⟩) hnz (.int .i64 ((at_ : Int) + 17))).far (p := ⟨w.heap.size, 4, none⟩) hnz (.int .i64 (done.length : Nat))).far (p := ⟨w.heap.size, 5, none⟩) hnz (.int .i64 lst)).far (p := ⟨w.heap.size, 6, none⟩) hnz (.bool true))
        have hb7 := (((((((hk2.hv.far (p := ⟨w.heap.size, 0, none⟩) hnz1 (.int .i64 (topic : Nat))).far (p := ⟨w.heap.size, 1, none⟩) hnz1 (.int .i64 (num : Nat))).far (p := ⟨w.heap.size, 2, none⟩) hnz1 (.int .i64 base)).far (p := ⟨w.heap.size, 3, none⟩) hnz1 (.int .i64 ((at_ : Int) + 17))).far (p := ⟨w.heap.size, 4, none⟩) hnz1 (.int .i64 (done.length : Nat))).far (p := ⟨w.heap.size, 5, none⟩) hnz1 (.int .i64 lst)).far (p := ⟨w.heap.size, 6, none⟩) hnz1 (.bool true))
        have hc7 := (((((((hx3.far (p := ⟨w.heap.size, 0, none⟩) hnz2 (.int .i64 (topic : Nat))).far (p := ⟨w.heap.size, 1, none⟩) hnz2 (.int .i64 (num : Nat))).far (p := ⟨w.heap.size, 2, none⟩) hnz2 (.int .i64 base)).far (p := ⟨w.heap.size, 3, none⟩) hnz2 (.int .i64 ((at_ : Int) + 17))).far (p := ⟨w.heap.size, 4, none⟩) hnz2 (.int .i64 (done.length : Nat))).far (p := ⟨w.heap.size, 5, none⟩) hnz2 (.int .i64 lst)).far (p := ⟨w.heap.size, 6, none⟩) hnz2 (.bool true))
        have hS1 : (fun w' : World => w'.cell? ⟨p, 0, none⟩ = some (.int .i64 (topic : Nat)) ∧ w'.cell? ⟨p, 1, none⟩ = some (.int .i64 (num : Nat)) ∧ w'.cell? ⟨p, 2, none⟩ = some (.int .i64 base) ∧ w'.cell? ⟨p, 3, none⟩ = some (.int .i64 ((at_ : Int) + 17)) ∧ w'.cell? ⟨p, 4, none⟩ = some (.int .i64 (done.length : Nat)) ∧ w'.cell? ⟨p, 5, none⟩ = some (.int .i64 lst) ∧ w'.cell? ⟨p, 6, none⟩ = some (.bool true) ∧ w'.cell? ⟨p + 1, 0, none⟩ = some (.slice vb done.length vc) ∧ w'.cell? ⟨q, 0, none⟩ = some (.int .i64 50) ∧ w'.cell? ⟨q, 1, none⟩ = some (.int .i64 ((at_ : Int) + 17))) (World.setCell (World.setCell (World.setCell (World.setCell (World.setCell (World.setCell (World.setCell wz ⟨w.heap.size, 0, none⟩ (.int .i64 (topic : Nat))) ⟨w.heap.size, 1, none⟩ (.int .i64 (num : Nat))) ⟨w.heap.size, 2, none⟩ (.int .i64 base)) ⟨w.heap.size, 3, none⟩ (.int .i64 ((at_ : Int) + 17))) ⟨w.heap.size, 4, none⟩ (.int .i64 (done.length : Nat))) ⟨w.heap.size, 5, none⟩ (.int .i64 lst)) ⟨w.heap.size, 6, none⟩ (.bool true)) := ⟨ha7.cell 0, ha7.cell 1, ha7.cell 2, ha7.cell 3, ha7.cell 4, ha7.cell 5, ha7.cell 6, hb7.cell 0, hc7.cell 0, hc7.cell 1⟩
        have hzc := hk2.z2.cell
        have hzf := hk2.z2.free
        have hzl := hk2.z2.lt
        have hyc := hk2.z4.cell
        have hyf := hk2.z4.free
        have hyl := hk2.z4.lt
        have HK2 := Lib.hid hk2
        clear ha7 hb7 hc7 hb2 hx2 hx3 hk2 hvc1 hvl1 hpc1 hpf1 hpl1
        refine safe_wp ?_
        refine WT.start (fun w' : World => w'.cell? ⟨p, 0, none⟩ = some (.int .i64 (topic : Nat)) ∧ w'.cell? ⟨p, 1, none⟩ = some (.int .i64 (num : Nat)) ∧ w'.cell? ⟨p, 2, none⟩ = some (.int .i64 base) ∧ w'.cell? ⟨p, 3, none⟩ = some (.int .i64 ((at_ : Int) + 17)) ∧ w'.cell? ⟨p, 4, none⟩ = some (.int .i64 (done.length : Nat)) ∧ w'.cell? ⟨p, 5, none⟩ = some (.int .i64 lst) ∧ w'.cell? ⟨p, 6, none⟩ = some (.bool true) ∧ w'.cell? ⟨p + 1, 0, none⟩ = some (.slice vb done.length vc) ∧ w'.cell? ⟨q, 0, none⟩ = some (.int .i64 50) ∧ w'.cell? ⟨q, 1, none⟩ = some (.int .i64 ((at_ : Int) + 17))) 5 (by kernel_rfl) ?_
        rw [hwz]
        clear hwz
        refine WT.take 0 (v := ?_) rfl (by kernel_rfl) (by kernel_rfl) (by kernel_rfl) (by kernel_rfl) (fun _ _ _ h => h) (Or.inl ⟨by rfl, ?hy⟩) hS0 ?_
        case hy => first | (intro w hSw; go_simp; done) | (intro w hSw; go_simp; with_reducible rfl)
        simp only [Act.put, List.setIfInBounds_toArray, List.set_cons_zero, List.set_cons_succ]
        refine WT.take 1 (v := ?_) rfl (by kernel_rfl) (by kernel_rfl) (by kernel_rfl) (by kernel_rfl) (fun _ _ _ h => h) (Or.inl ⟨by rfl, ?hy⟩) hS0 ?_
        case hy => first | (intro w hSw; go_simp; done) | (intro w hSw; go_simp; with_reducible rfl)
        simp only [Act.put, List.setIfInBounds_toArray, List.set_cons_zero, List.set_cons_succ]
        refine WT.take 2 (v := ?_) rfl (by kernel_rfl) (by kernel_rfl) (by kernel_rfl) (by kernel_rfl) (fun _ _ _ h => h) (Or.inl ⟨by rfl, ?hy⟩) hS0 ?_
        case hy => first | (intro w hSw; go_simp; done) | (intro w hSw; go_simp; with_reducible rfl)
        simp only [Act.put, List.setIfInBounds_toArray, List.set_cons_zero, List.set_cons_succ]
        refine WT.step 3 rfl (by kernel_rfl) (by decide) fun K hK => ?_
        go_simp
        refine hK.out _ _ hS1 ?_
        clear hK K
        refine WT.step 4 rfl (by kernel_rfl) (by decide) fun K hK => ?_
        go_simp
        refine hK.out _ _ hS1 ?_
        clear hK K
        refine WT.last 5 rfl (by kernel_rfl) rfl fun K hK => ?_
        go_simp
        refine hK.out _ _ ?_
        clear hK K
        refine WT.done (by kernel_rfl) ?_
        unfold safeQ
        dsimp only
        go_wp2
        have hC : Chg (fun k => w.heap.size ≤ k ∧ k ≤ p + 3) wz (World.setCell (World.setCell (World.setCell (World.setCell (World.setCell (World.setCell (World.setCell (World.setCell (World.setCell wz ⟨w.heap.size, 0, none⟩ (.int .i64 (topic : Nat))) ⟨w.heap.size, 1, none⟩ (.int .i64 (num : Nat))) ⟨w.heap.size, 2, none⟩ (.int .i64 base)) ⟨w.heap.size, 3, none⟩ (.int .i64 ((at_ : Int) + 17))) ⟨w.heap.size, 4, none⟩ (.int .i64 (done.length : Nat))) ⟨w.heap.size, 5, none⟩ (.int .i64 lst)) ⟨w.heap.size, 6, none⟩ (.bool true)) ⟨w.heap.size + 1, 0, none⟩ (.int .i64 50)) ⟨w.heap.size + 1, 1, none⟩ (.int .i64 ((at_ : Int) + 17))) := by
          have hCc := Chg.refl (fun k => w.heap.size ≤ k ∧ k ≤ p + 3) wz
          repeat (first | with_reducible exact hCc | with_reducible refine Chg.setCell ?_ (.inl ⟨by simp, by simp <;> omega⟩) _)
        have hE := HK2.out.end_ hC
        have hput := put_cell hE.1
        refine marks_end (v := .tuple #[.agg #[.int .i64 (topic : Nat), .int .i64 (num : Nat), .int .i64 base, .int .i64 ((at_ : Int) + 17), .int .i64 (done.length : Nat), .int .i64 lst, .bool true], .slice vb done.length vc, .agg #[.int .i64 50, .int .i64 ((at_ : Int) + 17)]]) hE.1 ?_ ?_
        · simp [results, Tryz.results5, go_sem, hput, hzc, hzl, hyc, hyl]
        unfold LkA
        rw [HO.out]
        exact ⟨_, rfl, hE.2.1, hE.2.2⟩
      have HNN : Hid (¬ (at_ + 17 ≤ b.length ∧ (b.drop at_).take 17 = tailS (b.take at_) done.length lst)) := fun h => hxt (by rw [← hx17, ← htt]; exact h.2)
      have hbe : (x17 == tt) = false := by simp [hxt]
      clear hxt
      go_upto_region 13 with fail
      obtain ⟨wz, hwz⟩ : ∃ wz, W.drew = wz := ⟨_, rfl⟩
      have hkz : LkT w wz p D #[.int .i64 (topic : Nat), .int .i64 (num : Nat), .int .i64 base, .int .i64 (at_ : Int), .int .i64 (done.length : Nat), .int .i64 lst, .bool false] (.slice vb done.length vc) done := by
        rw [← hwz]
        exact HK0.out.on (Below.drew (Below.refl _ _))
      have hrz : Rd wz w.heap.size (tailA A c at_) (bv x17) := by rw [← hwz]; exact hrd17
      have hS0 : (fun w' : World => w'.cell? ⟨p, 0, none⟩ = some (.int .i64 (topic : Nat)) ∧ w'.cell? ⟨p, 1, none⟩ = some (.int .i64 (num : Nat)) ∧ w'.cell? ⟨p, 2, none⟩ = some (.int .i64 base) ∧ w'.cell? ⟨p, 3, none⟩ = some (.int .i64 (at_ : Int)) ∧ w'.cell? ⟨p, 4, none⟩ = some (.int .i64 (done.length : Nat)) ∧ w'.cell? ⟨p, 5, none⟩ = some (.int .i64 lst) ∧ w'.cell? ⟨p, 6, none⟩ = some (.bool false) ∧ Rd w' w.heap.size (tailA A c at_) (bv x17)) wz := ⟨hkz.box.cell 0, hkz.box.cell 1, hkz.box.cell 2, hkz.box.cell 3, hkz.box.cell 4, hkz.box.cell 5, hkz.box.cell 6, hrz⟩
      have HKZ := Lib.hid hkz
      have hrs : ∀ w', (fun w' : World => w'.cell? ⟨p, 0, none⟩ = some (.int .i64 (topic : Nat)) ∧ w'.cell? ⟨p, 1, none⟩ = some (.int .i64 (num : Nat)) ∧ w'.cell? ⟨p, 2, none⟩ = some (.int .i64 base) ∧ w'.cell? ⟨p, 3, none⟩ = some (.int .i64 (at_ : Int)) ∧ w'.cell? ⟨p, 4, none⟩ = some (.int .i64 (done.length : Nat)) ∧ w'.cell? ⟨p, 5, none⟩ = some (.int .i64 lst) ∧ w'.cell? ⟨p, 6, none⟩ = some (.bool false) ∧ Rd w' w.heap.size (tailA A c at_) (bv x17)) w' → (convert 22 9 (.slice (tailA A c at_) 17 (c - at_))).run Tryz.prog w' = .ok (.string ⟨x17.toArray⟩) w' := fun w' h => HRS.out w' h.2.2.2.2.2.2.2
      have HRZ := Lib.hid hrz
      clear hvc0 hvl0 hpc0 hpf0 hpl0 hkz hrz hrd17
      refine safe_wp ?_
      refine HT.start (fun w' : World => w'.cell? ⟨p, 0, none⟩ = some (.int .i64 (topic : Nat)) ∧ w'.cell? ⟨p, 1, none⟩ = some (.int .i64 (num : Nat)) ∧ w'.cell? ⟨p, 2, none⟩ = some (.int .i64 base) ∧ w'.cell? ⟨p, 3, none⟩ = some (.int .i64 (at_ : Int)) ∧ w'.cell? ⟨p, 4, none⟩ = some (.int .i64 (done.length : Nat)) ∧ w'.cell? ⟨p, 5, none⟩ = some (.int .i64 lst) ∧ w'.cell? ⟨p, 6, none⟩ = some (.bool false) ∧ Rd w' w.heap.size (tailA A c at_) (bv x17)) (by kernel_rfl) ?_
      rw [hwz]
      clear hwz
      refine HT.take 0 (v := ?_) rfl (by kernel_rfl) (by kernel_rfl) (by kernel_rfl) (fun _ _ _ h => h) (Or.inl ⟨by rfl, ?hy⟩) hS0 ?_
      case hy => first | (intro w hSw; go_simp; done) | (intro w hSw; go_simp; with_reducible rfl) | (intro w hSw; have hr := hrs w hSw; go_simp; done) | (intro w hSw; have hr := hrs w hSw; go_simp; with_reducible rfl)
      simp only [Act.put, List.setIfInBounds_toArray, List.set_cons_zero, List.set_cons_succ]
      refine HT.take 1 (v := ?_) rfl (by kernel_rfl) (by kernel_rfl) (by kernel_rfl) (fun _ _ _ h => h) (Or.inl ⟨by rfl, ?hy⟩) hS0 ?_
      case hy => first | (intro w hSw; go_simp; done) | (intro w hSw; go_simp; with_reducible rfl) | (intro w hSw; have hr := hrs w hSw; go_simp; done) | (intro w hSw; have hr := hrs w hSw; go_simp; with_reducible rfl)
      simp only [Act.put, List.setIfInBounds_toArray, List.set_cons_zero, List.set_cons_succ]
      refine HT.take 2 (v := ?_) rfl (by kernel_rfl) (by kernel_rfl) (by kernel_rfl) (fun _ _ _ h => h) (Or.inl ⟨by rfl, ?hy⟩) hS0 ?_
      case hy => first | (intro w hSw; go_simp; done) | (intro w hSw; go_simp; with_reducible rfl) | (intro w hSw; have hr := hrs w hSw; go_simp; done) | (intro w hSw; have hr := hrs w hSw; go_simp; with_reducible rfl)
      simp only [Act.put, List.setIfInBounds_toArray, List.set_cons_zero, List.set_cons_succ]
      refine HT.take 3 (v := ?_) rfl (by kernel_rfl) (by kernel_rfl) (by kernel_rfl) (fun _ _ _ h => h) (Or.inl ⟨by rfl, ?hy⟩) hS0 ?_
      case hy => first | (intro w hSw; go_simp; done) | (intro w hSw; go_simp; with_reducible rfl) | (intro w hSw; have hr := hrs w hSw; go_simp; done) | (intro w hSw; have hr := hrs w hSw; go_simp; with_reducible rfl)
      simp only [Act.put, List.setIfInBounds_toArray, List.set_cons_zero, List.set_cons_succ]
      refine HT.take 4 (v := ?_) rfl (by kernel_rfl) (by kernel_rfl) (by kernel_rfl) (fun _ _ _ h => h) (Or.inl ⟨by rfl, ?hy⟩) hS0 ?_
      case hy => first | (intro w hSw; go_simp; done) | (intro w hSw; go_simp; with_reducible rfl) | (intro w hSw; have hr := hrs w hSw; go_simp; done) | (intro w hSw; have hr := hrs w hSw; go_simp; with_reducible rfl)
      simp only [Act.put, List.setIfInBounds_toArray, List.set_cons_zero, List.set_cons_succ]
      refine HT.take 5 (v := ?_) rfl (by kernel_rfl) (by kernel_rfl) (by kernel_rfl) (fun _ _ _ h => h) (Or.inl ⟨by rfl, ?hy⟩) hS0 ?_
      case hy => first | (intro w hSw; go_simp; done) | (intro w hSw; go_simp; with_reducible rfl) | (intro w hSw; have hr := hrs w hSw; go_simp; done) | (intro w hSw; have hr := hrs w hSw; go_simp; with_reducible rfl)
      simp only [Act.put, List.setIfInBounds_toArray, List.set_cons_zero, List.set_cons_succ]
      refine HT.take 6 (v := ?_) rfl (by kernel_rfl) (by kernel_rfl) (by kernel_rfl) (fun _ _ _ h => h) (Or.inl ⟨by rfl, ?hy⟩) hS0 ?_
      case hy => first | (intro w hSw; go_simp; done) | (intro w hSw; go_simp; with_reducible rfl) | (intro w hSw; have hr := hrs w hSw; go_simp; done) | (intro w hSw; have hr := hrs w hSw; go_simp; with_reducible rfl)
      simp only [Act.put, List.setIfInBounds_toArray, List.set_cons_zero, List.set_cons_succ]
      refine HT.take 7 (v := ?_) rfl (by kernel_rfl) (by kernel_rfl) (by kernel_rfl) (fun _ _ _ h => h) (Or.inl ⟨by rfl, ?hy⟩) hS0 ?_
      case hy => first | (intro w hSw; go_simp; done) | (intro w hSw; go_simp; with_reducible rfl) | (intro w hSw; have hr := hrs w hSw; go_simp; done) | (intro w hSw; have hr := hrs w hSw; go_simp; with_reducible rfl)
      simp only [Act.put, List.setIfInBounds_toArray, List.set_cons_zero, List.set_cons_succ]
      refine HT.take 8 (v := ?_) rfl (by kernel_rfl) (by kernel_rfl) (by kernel_rfl) (fun _ _ _ h => h) (Or.inl ⟨by rfl, ?hy⟩) hS0 ?_
      case hy => first | (intro w hSw; go_simp; done) | (intro w hSw; go_simp; with_reducible rfl) | (intro w hSw; have hr := hrs w hSw; go_simp; done) | (intro w hSw; have hr := hrs w hSw; go_simp; with_reducible rfl)
      simp only [Act.put, List.setIfInBounds_toArray, List.set_cons_zero, List.set_cons_succ]
      refine HT.take 9 (v := ?_) rfl (by kernel_rfl) (by kernel_rfl) (by kernel_rfl) (fun _ _ _ h => h) (Or.inl ⟨by rfl, ?hy⟩) hS0 ?_
      case hy => first | (intro w hSw; go_simp; done) | (intro w hSw; go_simp; with_reducible rfl) | (intro w hSw; have hr := hrs w hSw; go_simp; done) | (intro w hSw; have hr := hrs w hSw; go_simp; with_reducible rfl)
      simp only [Act.put, List.setIfInBounds_toArray, List.set_cons_zero, List.set_cons_succ]
      refine HT.take 10 (v := ?_) rfl (by kernel_rfl) (by kernel_rfl) (by kernel_rfl) (fun _ _ _ h => h) (Or.inl ⟨by rfl, ?hy⟩) hS0 ?_
      case hy => first | (intro w hSw; go_simp; done) | (intro w hSw; go_simp; with_reducible rfl) | (intro w hSw; have hr := hrs w hSw; go_simp; done) | (intro w hSw; have hr := hrs w hSw; go_simp; with_reducible rfl)
      simp only [Act.put, List.setIfInBounds_toArray, List.set_cons_zero, List.set_cons_succ]
      refine HT.take 11 (v := ?_) rfl (by kernel_rfl) (by kernel_rfl) (by kernel_rfl) (fun _ _ _ h => h) (Or.inl ⟨by rfl, ?hy⟩) hS0 ?_
      case hy => first | (intro w hSw; go_simp; done) | (intro w hSw; go_simp; with_reducible rfl) | (intro w hSw; have hr := hrs w hSw; go_simp; done) | (intro w hSw; have hr := hrs w hSw; go_simp; with_reducible rfl)
      simp only [Act.put, List.setIfInBounds_toArray, List.set_cons_zero, List.set_cons_succ]
      refine HT.take 13 (v := ?_) rfl (by kernel_rfl) (by kernel_rfl) (by kernel_rfl) (fun _ _ _ h => h) (Or.inl ⟨by rfl, ?hy⟩) hS0 ?_
      case hy => first | (intro w hSw; go_simp; done) | (intro w hSw; go_simp; with_reducible rfl) | (intro w hSw; have hr := hrs w hSw; go_simp; done) | (intro w hSw; have hr := hrs w hSw; go_simp; with_reducible rfl)
      simp only [Act.put, List.setIfInBounds_toArray, List.set_cons_zero, List.set_cons_succ]
      clear hrs
      refine HT.step 12 rfl (by kernel_rfl) fun K hK => ?_
      go_simp
      go_at_call 15
      refine (HSUM.out _ (((HA.out.below HKZ.out.bel).mono HKZ.out.bel.size).take_ at_) HTK.out (by unfold maxLen; omega)).mono ?_
      rintro e w14 ⟨rfl, hb⟩
      rw [show crcE 0 (b.take at_) = sm from HSM.out]
      have hk14 := HKZ.out.on hb
      have hr14 := HRZ.out.below (hb.mono HKZ.out.bel.size)
      have hS1 : (fun w' : World => w'.cell? ⟨p, 0, none⟩ = some (.int .i64 (topic : Nat)) ∧ w'.cell? ⟨p, 1, none⟩ = some (.int .i64 (num : Nat)) ∧ w'.cell? ⟨p, 2, none⟩ = some (.int .i64 base) ∧ w'.cell? ⟨p, 3, none⟩ = some (.int .i64 (at_ : Int)) ∧ w'.cell? ⟨p, 4, none⟩ = some (.int .i64 (done.length : Nat)) ∧ w'.cell? ⟨p, 5, none⟩ = some (.int .i64 lst) ∧ w'.cell? ⟨p, 6, none⟩ = some (.bool false) ∧ Rd w' w.heap.size (tailA A c at_) (bv x17)) w14 := ⟨hk14.box.cell 0, hk14.box.cell 1, hk14.box.cell 2, hk14.box.cell 3, hk14.box.cell 4, hk14.box.cell 5, hk14.box.cell 6, hr14⟩
      have HK14 := Lib.hid (And.intro hk14 hr14)
      clear hb hk14 hr14
      go_simp
      refine hK.out _ _ hS1 ?_
      clear hK K
      refine HT.step 14 rfl (by kernel_rfl) fun K hK => ?_
      go_simp
      go_at_call 14
      refine (HTL.out _ HSM.out (by show done.length < _; omega)).mono ?_
      rintro e w15 ⟨bt, ct, rfl, ho, hb⟩
      have hk15 := HK14.out.1.on hb
      have hr15 := HK14.out.2.below (hb.mono HK14.out.1.bel.size)
      have hS2 : (fun w' : World => w'.cell? ⟨p, 0, none⟩ = some (.int .i64 (topic : Nat)) ∧ w'.cell? ⟨p, 1, none⟩ = some (.int .i64 (num : Nat)) ∧ w'.cell? ⟨p, 2, none⟩ = some (.int .i64 base) ∧ w'.cell? ⟨p, 3, none⟩ = some (.int .i64 (at_ : Int)) ∧ w'.cell? ⟨p, 4, none⟩ = some (.int .i64 (done.length : Nat)) ∧ w'.cell? ⟨p, 5, none⟩ = some (.int .i64 lst) ∧ w'.cell? ⟨p, 6, none⟩ = some (.bool false) ∧ Rd w' w.heap.size (tailA A c at_) (bv x17)) w15 := ⟨hk15.box.cell 0, hk15.box.cell 1, hk15.box.cell 2, hk15.box.cell 3, hk15.box.cell 4, hk15.box.cell 5, hk15.box.cell 6, hr15⟩
      have hro := ownsRow_rd ho
      try dsimp only at hro
      rw [htt] at hro
      have hr2 := run_str w15 _ bt 17 ct tt HT17.out hro
      have HK15 := Lib.hid hk15
      clear ho hb hk15 hr15 hro
      go_simp
      refine hK.out _ _ hS2 ?_
      clear hK K
      refine HT.step 15 rfl (by kernel_rfl) fun K hK => ?_
      go_simp
      refine hK.out _ _ hS2 ?_
      clear hK K
      clear hr2
      refine HT.step 16 rfl (by kernel_rfl) fun K hK => ?_
      go_simp
      refine hK.out _ _ hS2 ?_
      clear hK K
      refine HT.step 17 rfl (by kernel_rfl) fun K hK => ?_
      go_simp
      refine hK.out _ _ hS2 ?_
      clear hK K
      refine HT.done (by kernel_rfl) ?_
      unfold safeQ
      try dsimp only
      have hvc5 := HK15.out.hv.cell
      have hvl5 := HK15.out.hv.lt
      have hpc5 := HK15.out.box.cell
      have hpf5 := HK15.out.box.free
      have hpl5 := HK15.out.box.lt
      have hk1 := HK15.out
      go_upto_region 16 with fail
      obtain ⟨W1, hW1⟩ : ∃ W1, w15 = W1 := ⟨_, rfl⟩
      rw [hW1] at hk1 ⊢
      have HK1 : Hid (LkT w W1 p D #[.int .i64 (topic : Nat), .int .i64 (num : Nat), .int .i64 base, .int .i64 (at_ : Int), .int .i64 (done.length : Nat), .int .i64 lst, .bool false] (.slice vb done.length vc) done) := by
        show LkT _ _ _ _ _ _ _
        simpa using hk1
      clear hW1 hk1 hvc5 hvl5 hpc5 hpf5 hpl5 hs1 hs2 hbe
      by_cases hnn : at_ = n
      · exfalso; omega
      have hq : (at_ : Int) < (n : Int) := by omega
      have HO := Lib.hid (HOpen.out at_ lst done rfl HNN.out 50 (by rw [HL.out]; simp; omega))
      clear hnn
      have hvc1 := HK1.out.hv.cell
      have hvl1 := HK1.out.hv.lt
      have hpc1 := HK1.out.box.cell
      have hpf1 := HK1.out.box.free
      have hpl1 := HK1.out.box.lt
      have hb2 : Below W1.heap.size W1 (W1.alloc (.cells #[.int .i64 50, .int .i64 (at_ : Int)] 28)) := bal W1 _
      have hx2 := Box.new W1 28 #[.int .i64 50, .int .i64 (at_ : Int)]
      go_upto_region 19 with fail
      obtain ⟨wz, hwz⟩ : ∃ wz, World.drew (W1.alloc (.cells #[.int .i64 50, .int .i64 (at_ : Int)] 28)) = wz := ⟨_, rfl⟩
      have hk2 : LkT w wz p D #[.int .i64 (topic : Nat), .int .i64 (num : Nat), .int .i64 base, .int .i64 (at_ : Int), .int .i64 (done.length : Nat), .int .i64 lst, .bool false] (.slice vb done.length vc) done := by
        rw [← hwz]
        exact (HK1.out.on hb2).on (Below.drew (Below.refl _ _))
      have hx3 : Box wz W1.heap.size 28 #[.int .i64 50, .int .i64 (at_ : Int)] := by
        rw [← hwz]
        exact hx2.drew
      have hqs : p + 1 < W1.heap.size := HK1.out.hv.lt
      generalize W1.heap.size = q at hx3 hqs hwz ⊢
      have hS0 : (fun w' : World => w'.cell? ⟨p, 0, none⟩ = some (.int .i64 (topic : Nat)) ∧ w'.cell? ⟨p, 1, none⟩ = some (.int .i64 (num : Nat)) ∧ w'.cell? ⟨p, 2, none⟩ = some (.int .i64 base) ∧ w'.cell? ⟨p, 3, none⟩ = some (.int .i64 (at_ : Int)) ∧ w'.cell? ⟨p, 4, none⟩ = some (.int .i64 (done.length : Nat)) ∧ w'.cell? ⟨p, 5, none⟩ = some (.int .i64 lst) ∧ w'.cell? ⟨p, 6, none⟩ = some (.bool false) ∧ w'.cell? ⟨p + 1, 0, none⟩ = some (.slice vb done.length vc) ∧ w'.cell? ⟨q, 0, none⟩ = some (.int .i64 50) ∧ w'.cell? ⟨q, 1, none⟩ = some (.int .i64 (at_ : Int))) wz := ⟨hk2.box.cell 0, hk2.box.cell 1, hk2.box.cell 2, hk2.box.cell 3, hk2.box.cell 4, hk2.box.cell 5, hk2.box.cell 6, hk2.hv.cell 0, hx3.cell 0, hx3.cell 1⟩
      have hnz : p ≠ w.heap.size := by omega
      have hnz1 : p + 1 ≠ w.heap.size := by omega
      have hnz2 : q ≠ w.heap.size := by omega
      have ha7 := (((((((hk2.box.far (p := ⟨w.heap.size, 0, none⟩) hnz (.int .i64 (topic : Nat))).far (p := ⟨w.heap.size, 1, none⟩) hnz (.int .i64 (num : Nat))).far (p := ⟨w.heap.size, 2, none⟩) hnz (.int .i64 base)).far (p := ⟨w.heap.size, 3, none⟩) hnz (.int .i64 (at_ : Int))).far (p := ⟨w.heap.size, 4, none⟩) hnz (.int .i64 (done.length : Nat))).far (p := ⟨w.heap.size, 5, none⟩) hnz (.int .i64 lst)).far (p := ⟨w.heap.size, 6, none⟩) hnz (.bool false))
      have hb7 := (((((((hk2.hv.far (p := ⟨w.heap.size, 0, none⟩) hnz1 (.int .i64 (topic : Nat))).far (p := ⟨w.heap.size, 1, none⟩) hnz1 (.int .i64 (num : Nat))).far (p := ⟨w.heap.size, 2, none⟩) hnz1 (.int .i64 base)).far (p := ⟨w.heap.size, 3, none⟩) hnz1 (.int .i64 (at_ : Int))).far (p := ⟨w.heap.size, 4, none⟩) hnz1 (.int .i64 (done.length : Nat))).far (p := ⟨w.heap.size, 5, none⟩) hnz1 (.int .i64 lst)).far (p := ⟨w.heap.size, 6, none⟩) hnz1 (.bool false))
      have hc7 := (((((((hx3.far (p := ⟨w.heap.size, 0, none⟩) hnz2 (.int .i64 (topic : Nat))).far (p := ⟨w.heap.size, 1, none⟩) hnz2 (.int .i64 (num : Nat))).far (p := ⟨w.heap.size, 2, none⟩) hnz2 (.int .i64 base)).far (p := ⟨w.heap.size, 3, none⟩) hnz2 (.int .i64 (at_ : Int))).far (p := ⟨w.heap.size, 4, none⟩) hnz2 (.int .i64 (done.length : Nat))).far (p := ⟨w.heap.size, 5, none⟩) hnz2 (.int .i64 lst)).far (p := ⟨w.heap.size, 6, none⟩) hnz2 (.bool false))
      have hS1 : (fun w' : World => w'.cell? ⟨p, 0, none⟩ = some (.int .i64 (topic : Nat)) ∧ w'.cell? ⟨p, 1, none⟩ = some (.int .i64 (num : Nat)) ∧ w'.cell? ⟨p, 2, none⟩ = some (.int .i64 base) ∧ w'.cell? ⟨p, 3, none⟩ = some (.int .i64 (at_ : Int)) ∧ w'.cell? ⟨p, 4, none⟩ = some (.int .i64 (done.length : Nat)) ∧ w'.cell? ⟨p, 5, none⟩ = some (.int .i64 lst) ∧ w'.cell? ⟨p, 6, none⟩ = some (.bool false) ∧ w'.cell? ⟨p + 1, 0, none⟩ = some (.slice vb done.length vc) ∧ w'.cell? ⟨q, 0, none⟩ = some (.int .i64 50) ∧ w'.cell? ⟨q, 1, none⟩ = some (.int .i64 (at_ : Int))) (World.setCell (World.setCell (World.setCell (World.setCell (World.setCell (World.setCell (World.setCell wz ⟨w.heap.size, 0, none⟩ (.int .i64 (topic : Nat))) ⟨w.heap.size, 1, none⟩ (.int .i64 (num : Nat))) ⟨w.heap.size, 2, none⟩ (.int .i64 base)) ⟨w.heap.size, 3, none⟩ (.int .i64 (at_ : Int))) ⟨w.heap.size, 4, none⟩ (.int .i64 (done.length : Nat))) ⟨w.heap.size, 5, none⟩ (.int .i64 lst)) ⟨w.heap.size, 6, none⟩ (.bool false)) := ⟨ha7.cell 0, ha7.cell 1, ha7.cell 2, ha7.cell 3, ha7.cell 4, ha7.cell 5, ha7.cell 6, hb7.cell 0, hc7.cell 0, hc7.cell 1⟩
      have hzc := hk2.z2.cell
      have hzf := hk2.z2.free
      have hzl := hk2.z2.lt
      have hyc := hk2.z4.cell
      have hyf := hk2.z4.free
      have hyl := hk2.z4.lt
      have HK2 := Lib.hid hk2
      clear ha7 hb7 hc7 hb2 hx2 hx3 hk2 hvc1 hvl1 hpc1 hpf1 hpl1
      refine safe_wp ?_
      refine WT.start (fun w' : World => w'.cell? ⟨p, 0, none⟩ = some (.int .i64 (topic : Nat)) ∧ w'.cell? ⟨p, 1, none⟩ = some (.int .i64 (num : Nat)) ∧ w'.cell? ⟨p, 2, none⟩ = some (.int .i64 base) ∧ w'.cell? ⟨p, 3, none⟩ = some (.int .i64 (at_ : Int)) ∧ w'.cell? ⟨p, 4, none⟩ = some (.int .i64 (done.length : Nat)) ∧ w'.cell? ⟨p, 5, none⟩ = some (.int .i64 lst) ∧ w'.cell? ⟨p, 6, none⟩ = some (.bool false) ∧ w'.cell? ⟨p + 1, 0, none⟩ = some (.slice vb done.length vc) ∧ w'.cell? ⟨q, 0, none⟩ = some (.int .i64 50) ∧ w'.cell? ⟨q, 1, none⟩ = some (.int .i64 (at_ : Int))) 5 (by kernel_rfl) ?_
      rw [hwz]
      clear hwz
      refine WT.take 0 (v := ?_) rfl (by kernel_rfl) (by kernel_rfl) (by kernel_rfl) (by kernel_rfl) (fun _ _ _ h => h) (Or.inl ⟨by rfl, ?hy⟩) hS0 ?_
      case hy => first | (intro w hSw; go_simp; done) | (intro w hSw; go_simp; with_reducible rfl)
      simp only [Act.put, List.setIfInBounds_toArray, List.set_cons_zero, List.set_cons_succ]
      refine WT.take 1 (v := ?_) rfl (by kernel_rfl) (by kernel_rfl) (by kernel_rfl) (by kernel_rfl) (fun _ _ _ h => h) (Or.inl ⟨by rfl, ?hy⟩) hS0 ?_
      case hy => first | (intro w hSw; go_simp; done) | (intro w hSw; go_simp; with_reducible rfl)
      simp only [Act.put, List.setIfInBounds_toArray, List.set_cons_zero, List.set_cons_succ]
      refine WT.take 2 (v := ?_) rfl (by kernel_rfl) (by kernel_rfl) (by kernel_rfl) (by kernel_rfl) (fun _ _ _ h => h) (Or.inl ⟨by rfl, ?hy⟩) hS0 ?_
      case hy => first | (intro w hSw; go_simp; done) | (intro w hSw; go_simp; with_reducible rfl)
      simp only [Act.put, List.setIfInBounds_toArray, List.set_cons_zero, List.set_cons_succ]
      refine WT.step 3 rfl (by kernel_rfl) (by decide) fun K hK => ?_
      go_simp
      refine hK.out _ _ hS1 ?_
      clear hK K
      refine WT.step 4 rfl (by kernel_rfl) (by decide) fun K hK => ?_
      go_simp
      refine hK.out _ _ hS1 ?_
      clear hK K
      refine WT.last 5 rfl (by kernel_rfl) rfl fun K hK => ?_
      go_simp
      refine hK.out _ _ ?_
      clear hK K
      refine WT.done (by kernel_rfl) ?_
      unfold safeQ
      dsimp only
      go_wp2
      have hC : Chg (fun k => w.heap.size ≤ k ∧ k ≤ p + 3) wz (World.setCell (World.setCell (World.setCell (World.setCell (World.setCell (World.setCell (World.setCell (World.setCell (World.setCell wz ⟨w.heap.size, 0, none⟩ (.int .i64 (topic : Nat))) ⟨w.heap.size, 1, none⟩ (.int .i64 (num : Nat))) ⟨w.heap.size, 2, none⟩ (.int .i64 base)) ⟨w.heap.size, 3, none⟩ (.int .i64 (at_ : Int))) ⟨w.heap.size, 4, none⟩ (.int .i64 (done.length : Nat))) ⟨w.heap.size, 5, none⟩ (.int .i64 lst)) ⟨w.heap.size, 6, none⟩ (.bool false)) ⟨w.heap.size + 1, 0, none⟩ (.int .i64 50)) ⟨w.heap.size + 1, 1, none⟩ (.int .i64 (at_ : Int))) := by
        have hCc := Chg.refl (fun k => w.heap.size ≤ k ∧ k ≤ p + 3) wz
        repeat (first | with_reducible exact hCc | with_reducible refine Chg.setCell ?_ (.inl ⟨by simp, by simp <;> omega⟩) _)
      have hE := HK2.out.end_ hC
      have hput := put_cell hE.1
      refine marks_end (v := .tuple #[.agg #[.int .i64 (topic : Nat), .int .i64 (num : Nat), .int .i64 base, .int .i64 (at_ : Int), .int .i64 (done.length : Nat), .int .i64 lst, .bool false], .slice vb done.length vc, .agg #[.int .i64 50, .int .i64 (at_ : Int)]]) hE.1 ?_ ?_
      · simp [results, Tryz.results5, go_sem, hput, hzc, hzl, hyc, hyl]
      unfold LkA
      rw [HO.out]
      exact ⟨_, rfl, hE.2.1, hE.2.2⟩
    case stop =>
      rintro D cc pre W hD _ hf hK
      exact hf.elim
end Go.Proofs.YtmhlgbpgdhhfnaaGreat
