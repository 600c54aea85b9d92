import Derived.Test.YtociadicjbkjcaaKd38
import Derived.Test.YtociadicjbkjcaaKd33
import Derived.Test.YtociadicjbkjcaaKd24
/- KeydirOrder: the law of the program, walked. -/
namespace Go.Proofs.Ytociadicjbkjcaa
open Go.RowKit Go.Maps Go.Shelf
attribute [local go_sem] Oper.semAt_some

theorem rank_is (d : Nat) (key : ByteArray) (xs : List KE) (r : Nat) (w : World) (h : DR w d xs) (hz : key.size ≤ maxLen) (hc : xs.length ≤ 800000000000000) (hr : (lo key xs).length = r) :
    Calls Try.prog 26 #[.pointer (some ⟨d, 0, none⟩), .string key] w fun e w' => e = .returned (.int .i64 (r : Int)) ∧ ∃ n, w' = w.drewN n := by
  subst hr
  exact rank_any d key xs w h hz hc
theorem good_q {key : ByteArray} {b : Bool} {w : World} (h : goodB key = b) (hz : key.size ≤ maxLen) : Calls Try.prog 11 #[.string key] w fun e w' => e = .returned (.bool b) ∧ ∃ n, w' = w.drewN n :=
  (good_is h hz).mono fun _ _ ⟨h1, h2⟩ => ⟨h1, 0, h2.symm⟩

theorem TR2.to {B c1 c2 : Nat} {v1 v2 : Value} {xs ys : List KE} {W W' : World} {n : Nat} (h : TR2 B c1 c2 v1 v2 xs ys W) (hw : W' = W.drewN n) : TR2 B c1 c2 v1 v2 xs ys W' := by
  subst hw
  exact h.kept (grown_drewN1 _ _)
theorem below_to {B : Nat} {w0 W W' : World} {n : Nat} (h : Below B w0 W) (hw : W' = W.drewN n) : Below B w0 W' := by
  subst hw
  exact below_drewN h _
theorem prefix_snoc {pre l : List KE} {x : KE} (h : pre <+: l) (hl : pre.length < l.length) : (pre ++ [x] <+: l) ↔ l[pre.length] = x := by
  obtain ⟨r, rfl⟩ := h
  cases r with
  | nil => simp at hl
  | cons y r => 
    constructor
    · intro h
      rw [List.prefix_append_right_inj] at h
      have := (List.cons_prefix_cons.1 h).1
      simp [this]
    · intro h
      have h2 : y = x := by simpa using h
      subst h2
      exact ⟨r, by simp⟩
set_option maxRecDepth 100000 in
theorem ke_neq (y x : KE) (h : ¬ y = x) (W : World) : (binOp .neq 28 (keV y) (keV x)).run Try.prog W = .ok (.bool true) W := by
  go_simp
  intro h0 h1 h2 h3 h4 h5 h6
  refine h ?_
  obtain ⟨yk, y1, y2, y3, y4, y5, y6⟩ := y
  obtain ⟨xk, x1, x2, x3, x4, x5, x6⟩ := x
  simp only at h0 h1 h2 h3 h4 h5 h6
  rw [ByteArray.toList_eq, ByteArray.toList_eq] at h0
  have hk := WideShapes.bytes_inj h0
  subst hk h1 h2 h3 h4 h5 h6
  rfl
theorem one_ke1 (x : KE) : ∀ u ∈ keC x, u.oneCell' = true := by
  intro u hu
  exact one_ke [x] u (by simpa using hu)

set_option maxRecDepth 100000 in
set_option maxHeartbeats 40000000 in
theorem keydirOrder_any (A0 : Option Addr) (n0 c0 : Nat) (l0 : List KE) (slo shi sp : ByteArray) (w : World)
    (h0 : Rd w w.heap.size A0 (l0.flatMap keC)) (e0 : l0.length = n0) (b0 : n0 ≤ 2199023255488) (z0 : ∀ x ∈ l0, x.1.size ≤ maxLen) (z1 : slo.size ≤ maxLen) (z2 : shi.size ≤ maxLen) (z3 : sp.size ≤ maxLen) :
    Calls Try.prog 6 #[.slice A0 n0 c0, .string slo, .string shi, .string sp] w fun e w' => e = .returned (.bool true) ∧ Below w.heap.size w w' := by
  obtain ⟨i1, hi1, hz1, hs1, hy1⟩ := info_parts infoKE
  have hbw := bal w (.cells #[.bool false] 4)
  have H0 := Lib.hid (And.intro hbw (And.intro (Box.new w 4 #[.bool false]) (And.intro h0 e0)))
  have HZ := Lib.hid z0
  have hbl := build_len l0 n0 (by omega)
  rw [List.take_of_length_le (by omega)] at hbl
  have hbg := fun x hx hg => build_has (l := l0) (x := x) hx hg
  have HBG := Lib.hid hbg
  clear h0 e0 z0 hbw hbg
  obtain ⟨xs, hxs⟩ : ∃ xs, build l0 = xs := ⟨_, rfl⟩
  rw [hxs] at hbl HBG
  have HXS := Lib.hid hxs
  clear hxs
  have hfe := fun f cs W => fn_eq f cs W
  refine cfw (n := 9) ?_
  refine callsIn_of_wp_marks Try.func6 rfl trivial ?_ rfl
  simp only [Try.ntmps6, List.size_toArray, List.length_cons, List.length_nil, Nat.reduceAdd, Nat.reduceSub, Array.replicate_succ, Array.replicate_zero, List.push_toArray, List.append_toArray, List.nil_append, List.cons_append]
  gi_wp2_with (first
    | (gi_at_call 18
       (with_reducible refine (wfc (laid_any A0 n0 c0 l0 _ ?_ ?_ ?_ ?_)).mono ?_)
       · exact (H0.out.2.2.1.below H0.out.1).mono (by simp)
       · exact H0.out.2.2.2
       · omega
       · exact HZ.out
       rintro e w1 ⟨rfl, hd1, hb1⟩
       rw [HXS.out] at hd1
       rw [World.size_alloc] at hd1
       have H1 := Lib.hid (And.intro hd1 (And.intro (H0.out.1.trans (hb1.mono H0.out.1.size)) (H0.out.2.1.below hb1 H0.out.2.1.lt)))
       clear hd1 hb1)
    | (gi_at_call 16
       (with_reducible refine (wfc (range_dir (w.heap.size + 1) xs ⟨#[]⟩ ⟨#[]⟩ _ _ ?_ ?_ ?_ ?_ ?_ ?_)).mono ?_)
       · exact H1.out.1
       · exact Nat.zero_le _
       · exact Nat.zero_le _
       · omega
       · first | omega | go_num
       · first | omega | go_num
       rintro e w2 ⟨v2, rfl, hw2, hb2⟩
       rw [sel_whole, List.take_of_length_le (by omega)] at hw2
       obtain ⟨A2, c2, rfl⟩ := row_slice hw2
       have hr2 := row_rd' hw2
       have H2 := Lib.hid (And.intro hr2 (And.intro (H1.out.1.next hb2) (And.intro (H1.out.2.1.trans (hb2.mono H1.out.2.1.size)) (H1.out.2.2.below hb2 H1.out.2.2.lt))))
       clear hw2 hr2 hb2)
    | (gi_at_call 23
       refine (wfc (len_any (w.heap.size + 1) xs _ H2.out.2.1)).mono ?_
       rintro e w' ⟨rfl, hw'⟩
       subst hw'))
  obtain ⟨nx, hnx⟩ : ∃ nx, xs.length = nx := ⟨_, rfl⟩
  rw [hnx] at hbl ⊢
  have HNX := Lib.hid hnx
  have hr3 : ∀ W, Below w2.heap.size w2 W → Rd W w2.heap.size A2 (xs.flatMap keC) ∧ Rd W w2.heap.size A0 (l0.flatMap keC) ∧ DR W (w.heap.size + 1) xs ∧ Box W w.heap.size 4 #[.bool false] ∧ Below w.heap.size w W := fun W hB =>
    ⟨H2.out.1.below hB, (H0.out.2.2.1.below (H2.out.2.2.1.trans (hB.mono H2.out.2.2.1.size))).mono H2.out.2.2.1.size, H2.out.2.1.next hB, H2.out.2.2.2.below hB H2.out.2.2.2.lt, H2.out.2.2.1.trans (hB.mono H2.out.2.2.1.size)⟩
  have Hr := Lib.hid hr3
  have HSRT := Lib.hid (And.intro H2.out.2.1.sorted H2.out.2.1.keys)
  clear hr3 hnx
  gi_loopw [12] (fun i wr => ∃ k : Nat, k ≤ nx ∧ i = .int .i64 k ∧ Below w2.heap.size w2 wr) (fun i _ => nx - (intOf i).toNat)
  case atStart => exact ⟨0, Nat.zero_le _, rfl, Below.refl _ _⟩
  case round =>
    obtain ⟨k, hk, rfl, hB⟩ := hrel
    have H := Lib.hid hB
    clear hB
    by_cases hlt : k < nx
    · have hkl : k < xs.length := by rw [HNX.out]; exact hlt
      obtain ⟨ad, rfl, had, a0, a1, a2, a3, a4, a5, a6⟩ := (Hr.out _ H.out).1.ke hkl
      have hzk := sz64 (HSRT.out.2 xs[k] (List.getElem_mem hkl)).2
      have hrk := rank_at HSRT.out.1 k hkl
      have hnth : xs[k]? = some xs[k] := List.getElem?_eq_getElem hkl
      have hprev : k = 0 ∨ ∃ m, ∃ hm : m < xs.length, k = m + 1 ∧ kc xs[m].1 xs[k].1 = -1 ∧ xs[m].1.size ≤ maxLen := by
        cases k with
        | zero => exact .inl rfl
        | succ m => exact .inr ⟨m, by omega, rfl, sorted_at HSRT.out.1 m hkl, sz64 (HSRT.out.2 xs[m] (List.getElem_mem _)).2⟩
      have hk0' : (0 : Int) ≤ k := by omega
      have hk1' : (k : Int) < nx := by omega
      generalize hxx : xs[k] = x at a0 a1 a2 a3 a4 a5 a6 hzk hrk hnth hprev
      have HXX := Lib.hid (And.intro hxx (And.intro hrk hnth))
      clear hxx hrk hnth
      rcases hprev with hke | ⟨m, hm, hke, hkc, hzm⟩
      · have hkp : decide ((0 : Int) < k) = false := decide_eq_false (by omega)
        have hkp2 : decide (0 < k) = false := decide_eq_false (by omega)
        clear hke
        gi_wp2
        gi_quiet (fail)
        generalize hW1 : World.drewN _ _ = W1
        have hb1 : Below w2.heap.size w2 W1 := by rw [← hW1]; exact below_drewN H.out _
        have HB1 := Lib.hid hb1
        obtain ⟨ad2, e2, _, q0, q1, q2, q3, q4, q5, q6⟩ := (Hr.out _ hb1).1.ke hkl
        rw [HXX.out.1] at q0 q1 q2 q3 q4 q5 q6
        cases e2
        clear hW1 hb1 a0 a1 a2 a3 a4 a5 a6 hkp hkp2
        gi_wp2_with (first
          | (gi_at_call 25
             (with_reducible refine (wfc (nth_some (w.heap.size + 1) k xs _ ?_ ?_ x ?_ ?_)).mono ?_)
             · exact (Hr.out _ HB1.out).2.2.1
             · rw [HNX.out]; omega
             · exact HXX.out.2.2
             · omega
             rintro e w4 ⟨rfl, hb4⟩
             have hb4' := HB1.out.trans (hb4.mono HB1.out.size)
             have hb5 := hb4'.alloc hb4'.size (.cells #[.string x.1, .int .i64 x.2.seg, .int .i64 x.2.at_, .int .i64 x.2.size, .int .i64 x.2.off, .int .i64 x.2.time, .bool x.2.tomb] 28)
             obtain ⟨ad3, e3, hbk, r0, r1, r2, r3, r4, r5, r6⟩ := (Hr.out _ hb4').1.ke hkl
             rw [HXX.out.1] at r0 r1 r2 r3 r4 r5 r6
             cases e3
             have hblk : (ad.add (k * 7)).block < w4.heap.size := by rw [add_block]; have := hb4'.size; omega
             have HB5 := Lib.hid hb5
             clear hb4 hb4' hb5 hbk q0 q1 q2 q3 q4 q5 q6))
        gi_quiet ((gi_at_call 26; exact CallsIn.quiet_of (wfc (rank_is (w.heap.size + 1) x.1 xs k _ (Hr.out _ (below_drewN HB5.out _)).2.2.1 hzk (by rw [HNX.out]; omega) HXX.out.2.1))))
        generalize hW6 : World.drewN _ _ = W6
        have hb6 : Below w2.heap.size w2 W6 := by rw [← hW6]; exact below_drewN HB5.out _
        have HB6 := Lib.hid hb6
        clear hW6 hb6 r0 r1 r2 r3 r4 r5 r6
        gi_wp2
        go_roundw
        case rel => exact ⟨k + 1, by omega, by go_num, HB6.out⟩
        case measure => simp [intOf]; omega
      · obtain ⟨ad2, e2, _, p0, p1, p2, p3, p4, p5, p6⟩ := (Hr.out _ H.out).1.ke hm
        cases e2
        have hkp : decide ((0 : Int) < k) = true := decide_eq_true (by omega)
        have hkp2 : decide (0 < k) = true := decide_eq_true (by omega)
        have hkm : (k : Int) - 1 = m := by omega
        have hm0 : (0 : Int) ≤ m := by omega
        have hm1 : (m : Int) < nx := by omega
        have hkd := decide_eq_true hkc
        clear hke
        generalize xs[m] = y at p0 p1 p2 p3 p4 p5 p6 hkc hzm hkd
        gi_wp2
        gi_quiet ((gi_at_call 24; exact CallsIn.quiet_of (wfc (below_any y.1 x.1 _ hzm true hkd))))
        generalize hW1 : World.drewN _ _ = W1
        have hb1 : Below w2.heap.size w2 W1 := by rw [← hW1]; exact below_drewN H.out _
        have HB1 := Lib.hid hb1
        obtain ⟨ad2, e2, _, q0, q1, q2, q3, q4, q5, q6⟩ := (Hr.out _ hb1).1.ke hkl
        rw [HXX.out.1] at q0 q1 q2 q3 q4 q5 q6
        cases e2
        clear hW1 hb1 a0 a1 a2 a3 a4 a5 a6 p0 p1 p2 p3 p4 p5 p6 hkp hkp2 hkm hm0 hm1 hkd hkc
        gi_wp2_with (first
          | (gi_at_call 25
             (with_reducible refine (wfc (nth_some (w.heap.size + 1) k xs _ ?_ ?_ x ?_ ?_)).mono ?_)
             · exact (Hr.out _ HB1.out).2.2.1
             · rw [HNX.out]; omega
             · exact HXX.out.2.2
             · omega
             rintro e w4 ⟨rfl, hb4⟩
             have hb4' := HB1.out.trans (hb4.mono HB1.out.size)
             have hb5 := hb4'.alloc hb4'.size (.cells #[.string x.1, .int .i64 x.2.seg, .int .i64 x.2.at_, .int .i64 x.2.size, .int .i64 x.2.off, .int .i64 x.2.time, .bool x.2.tomb] 28)
             obtain ⟨ad3, e3, hbk, r0, r1, r2, r3, r4, r5, r6⟩ := (Hr.out _ hb4').1.ke hkl
             rw [HXX.out.1] at r0 r1 r2 r3 r4 r5 r6
             cases e3
             have hblk : (ad.add (k * 7)).block < w4.heap.size := by rw [add_block]; have := hb4'.size; omega
             have HB5 := Lib.hid hb5
             clear hb4 hb4' hb5 hbk q0 q1 q2 q3 q4 q5 q6))
        gi_quiet ((gi_at_call 26; exact CallsIn.quiet_of (wfc (rank_is (w.heap.size + 1) x.1 xs k _ (Hr.out _ (below_drewN HB5.out _)).2.2.1 hzk (by rw [HNX.out]; omega) HXX.out.2.1))))
        generalize hW6 : World.drewN _ _ = W6
        have hb6 : Below w2.heap.size w2 W6 := by rw [← hW6]; exact below_drewN HB5.out _
        have HB6 := Lib.hid hb6
        clear hW6 hb6 r0 r1 r2 r3 r4 r5 r6
        gi_wp2
        go_roundw
        case rel => exact ⟨k + 1, by omega, by go_num, HB6.out⟩
        case measure => simp [intOf]; omega
    · gi_wp2
      gi_loopw [15] (fun i wr => ∃ k : Nat, k ≤ n0 ∧ i = .int .i64 k ∧ Below w2.heap.size w2 wr) (fun i _ => n0 - (intOf i).toNat)
      case atStart => exact ⟨0, Nat.zero_le _, rfl, H.out⟩
      case round =>
        clear H hlt hk
        obtain ⟨k, hk, rfl, hB⟩ := hrel
        have H := Lib.hid hB
        clear hB
        by_cases hlt : k < n0
        · have hkl : k < l0.length := by rw [H0.out.2.2.2]; exact hlt
          obtain ⟨ad, rfl, had, a0, a1, a2, a3, a4, a5, a6⟩ := (Hr.out _ H.out).2.1.ke hkl
          have hzk := HZ.out _ (List.getElem_mem hkl)
          have hbg := HBG.out l0[k] (List.getElem_mem hkl)
          have hk0' : (0 : Int) ≤ k := by omega
          have hk1' : (k : Int) < n0 := by omega
          generalize hxx : l0[k] = x at a0 a1 a2 a3 a4 a5 a6 hzk hbg
          obtain ⟨r, hr⟩ : ∃ r, (lo x.1 xs).length = r := ⟨_, rfl⟩
          have HXX := Lib.hid (And.intro hxx hr)
          clear hxx
          have hgg : goodB x.1 = true ∨ goodB x.1 = false := by cases goodB x.1 <;> simp
          rcases hgg with hg | hg
          · obtain ⟨en, hmem⟩ := hbg hg
            obtain ⟨hri, hre⟩ : ∃ h : r < xs.length, (xs[r]'h).1 = x.1 := hr ▸ rank_of HSRT.out.1 hmem
            clear hr
            obtain ⟨ad2, rfl, _, p0, p1, p2, p3, p4, p5, p6⟩ := (Hr.out _ H.out).1.ke hri
            rw [hre] at p0
            have hrx : r < nx := by rw [← HNX.out]; exact hri
            have hr0 : (0 : Int) ≤ r := by omega
            have hr1 : (r : Int) < nx := by omega
            have hr2 : decide ((nx : Int) ≤ r) = false := decide_eq_false (by omega)
            have hr3 : decide (nx ≤ r) = false := decide_eq_false (by omega)
            clear p0 p1 p2 p3 p4 p5 p6 hbg hmem
            gi_wp2_with (first
              | (gi_at_call 26
                 (with_reducible refine (wfc (rank_is (w.heap.size + 1) x.1 xs r _ ?_ hzk ?_ HXX.out.2)).mono ?_)
                 · exact (Hr.out _ H.out).2.2.1
                 · rw [HNX.out]; omega
                 rintro e w3 ⟨rfl, n3, hw3⟩
                 have hb3 : Below w2.heap.size w2 w3 := by rw [hw3]; exact below_drewN H.out _
                 obtain ⟨ad3, e3, _, q0, q1, q2, q3, q4, q5, q6⟩ := (Hr.out _ hb3).2.1.ke hkl
                 rw [HXX.out.1] at q0 q1 q2 q3 q4 q5 q6
                 cases e3
                 obtain ⟨ad4, e4, _, s0, s1, s2, s3, s4, s5, s6⟩ := (Hr.out _ hb3).1.ke hri
                 rw [hre] at s0
                 cases e4
                 clear s1 s2 s3 s4 s5 s6
                 have HB3 := Lib.hid hb3
                 clear hb3 hw3 q1 q2 q3 q4 q5 q6))
            gi_quiet ((gi_at_call 11; exact CallsIn.quiet_of (wfc (good_q hg hzk))))
            generalize hW6 : World.drewN _ _ = W6
            have hb6 : Below w2.heap.size w2 W6 := by rw [← hW6]; exact below_drewN HB3.out _
            have HB6 := Lib.hid hb6
            clear hW6 hb6 a0 a1 a2 a3 a4 a5 a6
            gi_wp2
            go_roundw
            case rel => exact ⟨k + 1, by omega, by go_num, HB6.out⟩
            case measure => simp [intOf]; omega
          · clear hr hbg
            gi_wp2_with (first
              | (gi_at_call 26
                 (with_reducible refine (wfc (rank_is (w.heap.size + 1) x.1 xs r _ ?_ hzk ?_ HXX.out.2)).mono ?_)
                 · exact (Hr.out _ H.out).2.2.1
                 · rw [HNX.out]; omega
                 rintro e w3 ⟨rfl, n3, hw3⟩
                 have hb3 : Below w2.heap.size w2 w3 := by rw [hw3]; exact below_drewN H.out _
                 obtain ⟨ad3, e3, _, q0, q1, q2, q3, q4, q5, q6⟩ := (Hr.out _ hb3).2.1.ke hkl
                 rw [HXX.out.1] at q0 q1 q2 q3 q4 q5 q6
                 cases e3
                 have HB3 := Lib.hid hb3
                 clear hb3 hw3 q1 q2 q3 q4 q5 q6))
            gi_quiet ((gi_at_call 11; exact CallsIn.quiet_of (wfc (good_q hg hzk))))
            generalize hW6 : World.drewN _ _ = W6
            have hb6 : Below w2.heap.size w2 W6 := by rw [← hW6]; exact below_drewN HB3.out _
            have HB6 := Lib.hid hb6
            clear hW6 hb6 a0 a1 a2 a3 a4 a5 a6
            gi_wp2
            go_roundw
            case rel => exact ⟨k + 1, by omega, by go_num, HB6.out⟩
            case measure => simp [intOf]; omega
        · gi_upto_region 27 with (first
            | (gi_at_call 25
               (with_reducible refine (wfc (nth_none (w.heap.size + 1) nx xs _ ?_ ?_ ?_ ?_)).mono ?_)
               · exact (Hr.out _ H.out).2.2.1
               · rw [HNX.out]; omega
               · exact List.getElem?_eq_none (by rw [HNX.out]; exact Nat.le_refl _)
               · omega
               rintro e w5 ⟨rfl, hb5⟩
               have hb5' := H.out.trans (hb5.mono H.out.size)
               have HB5 := Lib.hid (hb5'.alloc hb5'.size (.cells #[.string ⟨#[]⟩, .int .i64 0, .int .i64 0, .int .i64 0, .int .i64 0, .int .i64 0, .bool false] 28))
               clear hb5 hb5')
            | (gi_at_call 25
               (with_reducible refine (wfc (nth_neg (w.heap.size + 1) xs _ ?_)).mono ?_)
               · exact (Hr.out _ HB5.out).2.2.1
               rintro e w6 ⟨rfl, hb6⟩
               have hb6' := HB5.out.trans (hb6.mono HB5.out.size)
               have HB6 := Lib.hid (hb6'.alloc hb6'.size (.cells #[.string ⟨#[]⟩, .int .i64 0, .int .i64 0, .int .i64 0, .int .i64 0, .int .i64 0, .bool false] 28))
               clear hb6 hb6'))
          have hts := TR2.start (w6.alloc (.cells #[.string ⟨#[]⟩, .int .i64 0, .int .i64 0, .int .i64 0, .int .i64 0, .int .i64 0, .bool false] 28)) (w6.heap.size + 1) (by simp)
          have hbs := (HB6.out.alloc HB6.out.size (.cells #[.slice none 0 0] 24)).alloc (by have := HB6.out.size; simp at this ⊢; omega) (.cells #[.slice none 0 0] 24)
          rw [World.size_alloc] at hts
          have hb26 : w2.heap.size ≤ w6.heap.size + 1 := by have := HB6.out.size; simpa using this
          have HS := Lib.hid (And.intro hts hbs)
          clear hts hbs
          gi_wp2
          gi_loopw [23] (fun i wr => ∃ (k : Nat) (v1 v2 : Value), k ≤ nx ∧ i = .int .i64 k ∧ TR2 (w6.heap.size + 1) (w6.heap.size + 1) (w6.heap.size + 1 + 1) v1 v2 (sel slo shi (xs.take k)) ((xs.take k).filter (preB sp)) wr ∧ Below w2.heap.size w2 wr) (fun i _ => nx - (intOf i).toNat)
          case atStart => exact ⟨0, _, _, Nat.zero_le _, rfl, HS.out.1, HS.out.2⟩
          case round =>
            clear HS H hlt hk
            obtain ⟨k, v1, v2, hk, rfl, hT, hB⟩ := hrel
            have H := Lib.hid (And.intro hT hB)
            clear hT hB
            by_cases hlt : k < nx
            · have hkl : k < xs.length := by rw [HNX.out]; exact hlt
              obtain ⟨ad, rfl, had, a0, a1, a2, a3, a4, a5, a6⟩ := (Hr.out _ H.out.2).1.ke hkl
              have hzk := sz64 (HSRT.out.2 xs[k] (List.getElem_mem hkl)).2
              have hts := take_snoc xs k hkl
              have hk0' : (0 : Int) ≤ k := by omega
              have hk1' : (k : Int) < nx := by omega
              generalize hxx : xs[k] = x at a0 a1 a2 a3 a4 a5 a6 hzk hts
              have HXX := Lib.hid (And.intro hxx hts)
              clear hxx hts
              gi_upto_region 31 with fail
              gi_cut [177] from 269 (fun s177 wx => s177 = .bool (inR slo shi x) ∧ TR2 (w6.heap.size + 1) (w6.heap.size + 1) (w6.heap.size + 1 + 1) v1 v2 (sel slo shi (xs.take k)) ((xs.take k).filter (preB sp)) wx ∧ Below w2.heap.size w2 wx)
              case first =>
                clear a0 a1 a2 a3 a4 a5 a6
                rcases (show kc x.1 slo = -1 ∨ (kc x.1 slo ≠ -1 ∧ shi.size = 0) ∨ (kc x.1 slo ≠ -1 ∧ shi.size ≠ 0 ∧ kc x.1 shi = -1) ∨ (kc x.1 slo ≠ -1 ∧ shi.size ≠ 0 ∧ kc x.1 shi ≠ -1) by omega) with y1 | ⟨y1, y2⟩ | ⟨y1, y2, y3⟩ | ⟨y1, y2, y3⟩
                · have d1 : decide (kc x.1 slo = -1) = true := decide_eq_true y1
                  have HY := Lib.hid (show inR slo shi x = false by unfold inR; simp [y1])
                  gi_wp2_with (first
                    | (gi_at_call 24
                       (with_reducible refine (wfc (below_any x.1 slo _ hzk true d1)).mono ?_)
                       rintro e w7 ⟨rfl, n7, hw7⟩
                       have HT7 := Lib.hid (And.intro (H.out.1.to hw7) (below_to H.out.2 hw7))
                       clear hw7))
                  all_goals first
                    | (rename_i hu _; exact absurd hu (by simp [undef]))
                    | (gi_meet; exact ⟨by rw [HY.out], HT7.out⟩)
                · have d1 : decide (kc x.1 slo = -1) = false := decide_eq_false y1
                  have HY := Lib.hid (show inR slo shi x = true by unfold inR; simp [y1, y2])
                  have ht' : shi.toList = [] := by
                    rw [ByteArray.toList_eq]
                    exact List.eq_nil_of_length_eq_zero (by simpa using y2)
                  gi_wp2_with (first
                    | (gi_at_call 24
                       (with_reducible refine (wfc (below_any x.1 slo _ hzk false d1)).mono ?_)
                       rintro e w7 ⟨rfl, n7, hw7⟩
                       have HT7 := Lib.hid (And.intro (H.out.1.to hw7) (below_to H.out.2 hw7))
                       clear hw7))
                  gi_meet
                  case rel => exact ⟨by rw [HY.out], HT7.out⟩
                · have d1 : decide (kc x.1 slo = -1) = false := decide_eq_false y1
                  have HY := Lib.hid (show inR slo shi x = true by unfold inR; simp [y1, y3])
                  have d2 : decide (kc x.1 shi = -1) = true := decide_eq_true y3
                  have ht' : ¬ shi.toList = [] := fun e => by
                    rw [ByteArray.toList_eq] at e
                    exact y2 (by rw [← ByteArray.size_data, ← Array.length_toList, e]; rfl)
                  have ht'' : shi.toList.isEmpty = false := by simpa using ht'
                  gi_wp2_with (first
                    | (gi_at_call 24
                       (with_reducible refine (wfc (below_any x.1 slo _ hzk false d1)).mono ?_)
                       rintro e w7 ⟨rfl, n7, hw7⟩
                       have HT7 := Lib.hid (And.intro (H.out.1.to hw7) (below_to H.out.2 hw7))
                       clear hw7)
                    | (gi_at_call 24
                       (with_reducible refine (wfc (below_any x.1 shi _ hzk true d2)).mono ?_)
                       rintro e w8 ⟨rfl, n8, hw8⟩
                       have HT8 := Lib.hid (And.intro (HT7.out.1.to hw8) (below_to HT7.out.2 hw8))
                       clear hw8))
                  gi_meet
                  case rel => exact ⟨by rw [HY.out], HT8.out⟩
                · have d1 : decide (kc x.1 slo = -1) = false := decide_eq_false y1
                  have HY := Lib.hid (show inR slo shi x = false by unfold inR; simp [y2, y3])
                  have d2 : decide (kc x.1 shi = -1) = false := decide_eq_false y3
                  have ht' : ¬ shi.toList = [] := fun e => by
                    rw [ByteArray.toList_eq] at e
                    exact y2 (by rw [← ByteArray.size_data, ← Array.length_toList, e]; rfl)
                  have ht'' : shi.toList.isEmpty = false := by simpa using ht'
                  gi_wp2_with (first
                    | (gi_at_call 24
                       (with_reducible refine (wfc (below_any x.1 slo _ hzk false d1)).mono ?_)
                       rintro e w7 ⟨rfl, n7, hw7⟩
                       have HT7 := Lib.hid (And.intro (H.out.1.to hw7) (below_to H.out.2 hw7))
                       clear hw7)
                    | (gi_at_call 24
                       (with_reducible refine (wfc (below_any x.1 shi _ hzk false d2)).mono ?_)
                       rintro e w8 ⟨rfl, n8, hw8⟩
                       have HT8 := Lib.hid (And.intro (HT7.out.1.to hw8) (below_to HT7.out.2 hw8))
                       clear hw8))
                  gi_meet
                  case rel => exact ⟨by rw [HY.out], HT8.out⟩
              case rest =>
                obtain ⟨rfl, hT, hB⟩ := hcut
                have HC := Lib.hid (And.intro hT hB)
                clear hT hB
                gi_upto_if 177 with fail
                gi_cut [177] from 269 (fun _ wx => ∃ v1' : Value, TR2 (w6.heap.size + 1) (w6.heap.size + 1) (w6.heap.size + 1 + 1) v1' v2 (sel slo shi (xs.take (k + 1))) ((xs.take k).filter (preB sp)) wx ∧ Below w2.heap.size w2 wx)
                case first =>
                  cases hin : inR slo shi x with
                  | false =>
                    have hsl : sel slo shi (xs.take (k + 1)) = sel slo shi (xs.take k) := by rw [HXX.out.2]; unfold sel; rw [List.filter_append]; simp [hin]
                    have HSL := Lib.hid hsl
                    clear hsl
                    gi_wp2
                    gi_meet
                    case rel => exact ⟨v1, by rw [HSL.out]; exact HC.out.1, HC.out.2⟩
                  | true =>
                    have hsl : sel slo shi (xs.take (k + 1)) = sel slo shi (xs.take k) ++ [x] := by rw [HXX.out.2]; unfold sel; rw [List.filter_append]; simp [hin]
                    have HSL := Lib.hid hsl
                    clear hsl
                    have hl1 : (sel slo shi (xs.take k)).length ≤ k := Nat.le_trans (List.length_filter_le _ _) (by rw [List.length_take]; omega)
                    obtain ⟨W8, hW8⟩ : ∃ W8, wc.drew = W8 := ⟨_, rfl⟩
                    have ht8 := HC.out.1.kept (grown_drew1 wc)
                    have hb8 := HC.out.2.drew
                    rw [hW8] at ht8 hb8
                    obtain ⟨ad8, e8, _, p0, p1, p2, p3, p4, p5, p6⟩ := (Hr.out _ hb8).1.ke hkl
                    rw [HXX.out.1] at p0 p1 p2 p3 p4 p5 p6
                    cases e8
                    have hvc := ht8.b1.cell
                    have HT8 := Lib.hid (And.intro ht8 hb8)
                    clear ht8 hb8
                    gi_wp2
                    refine wpIn_wide.2 (wp_mono ?_ qn_mono)
                    have hS0 : (fun w' : World => w'.cell? ⟨w6.heap.size + 1, 0, none⟩ = some v1 ∧ w'.cell? (ad.add (k * 7)) = some (.string x.1) ∧ w'.cell? ⟨(ad.add (k * 7)).block, (ad.add (k * 7)).off + 1, none⟩ = some (.int .i64 x.2.seg) ∧ w'.cell? ⟨(ad.add (k * 7)).block, (ad.add (k * 7)).off + 2, none⟩ = some (.int .i64 x.2.at_) ∧ w'.cell? ⟨(ad.add (k * 7)).block, (ad.add (k * 7)).off + 3, none⟩ = some (.int .i64 x.2.size) ∧ w'.cell? ⟨(ad.add (k * 7)).block, (ad.add (k * 7)).off + 4, none⟩ = some (.int .i64 x.2.off) ∧ w'.cell? ⟨(ad.add (k * 7)).block, (ad.add (k * 7)).off + 5, none⟩ = some (.int .i64 x.2.time) ∧ w'.cell? ⟨(ad.add (k * 7)).block, (ad.add (k * 7)).off + 6, none⟩ = some (.bool x.2.tomb)) W8 := ⟨hvc, p0, p1, p2, p3, p4, p5, p6⟩
                    refine WT.start (fun w' : World => w'.cell? ⟨w6.heap.size + 1, 0, none⟩ = some v1 ∧ w'.cell? (ad.add (k * 7)) = some (.string x.1) ∧ w'.cell? ⟨(ad.add (k * 7)).block, (ad.add (k * 7)).off + 1, none⟩ = some (.int .i64 x.2.seg) ∧ w'.cell? ⟨(ad.add (k * 7)).block, (ad.add (k * 7)).off + 2, none⟩ = some (.int .i64 x.2.at_) ∧ w'.cell? ⟨(ad.add (k * 7)).block, (ad.add (k * 7)).off + 3, none⟩ = some (.int .i64 x.2.size) ∧ w'.cell? ⟨(ad.add (k * 7)).block, (ad.add (k * 7)).off + 4, none⟩ = some (.int .i64 x.2.off) ∧ w'.cell? ⟨(ad.add (k * 7)).block, (ad.add (k * 7)).off + 5, none⟩ = some (.int .i64 x.2.time) ∧ w'.cell? ⟨(ad.add (k * 7)).block, (ad.add (k * 7)).off + 6, none⟩ = some (.bool x.2.tomb)) 7 (by kernel_rfl) ?_
                    rw [hW8]
                    clear hW8
                    refine WT.take 0 (v := ?_) rfl (by kernel_rfl) (by kernel_rfl) (by kernel_rfl) (by kernel_rfl) (fun _ _ _ h => h) (Or.inl ⟨by rfl, ?hy⟩) hS0 ?_
                    case hy => first | (intro w hSw; go_simp; done) | (intro w hSw; go_simp; with_reducible rfl)
                    simp only [Act.put, List.setIfInBounds_toArray, List.set_cons_zero, List.set_cons_succ]
                    refine WT.take 1 (v := ?_) rfl (by kernel_rfl) (by kernel_rfl) (by kernel_rfl) (by kernel_rfl) (fun _ _ _ h => h) (Or.inl ⟨by rfl, ?hy⟩) hS0 ?_
                    case hy => first | (intro w hSw; go_simp; done) | (intro w hSw; go_simp; with_reducible rfl)
                    simp only [Act.put, List.setIfInBounds_toArray, List.set_cons_zero, List.set_cons_succ]
                    refine WT.take 2 (v := ?_) rfl (by kernel_rfl) (by kernel_rfl) (by kernel_rfl) (by kernel_rfl) (fun _ _ _ h => h) (Or.inl ⟨by rfl, ?hy⟩) hS0 ?_
                    case hy => first | (intro w hSw; go_simp; done) | (intro w hSw; go_simp; with_reducible rfl)
                    simp only [Act.put, List.setIfInBounds_toArray, List.set_cons_zero, List.set_cons_succ]
                    refine WT.take 3 (v := ?_) rfl (by kernel_rfl) (by kernel_rfl) (by kernel_rfl) (by kernel_rfl) (fun _ _ _ h => h) (Or.inl ⟨by rfl, ?hy⟩) hS0 ?_
                    case hy => first | (intro w hSw; go_simp; done) | (intro w hSw; go_simp; with_reducible rfl)
                    simp only [Act.put, List.setIfInBounds_toArray, List.set_cons_zero, List.set_cons_succ]
                    refine WT.take 4 (v := ?_) rfl (by kernel_rfl) (by kernel_rfl) (by kernel_rfl) (by kernel_rfl) (fun _ _ _ h => h) (Or.inl ⟨by rfl, ?hy⟩) hS0 ?_
                    case hy => first | (intro w hSw; go_simp; done) | (intro w hSw; go_simp; with_reducible rfl)
                    simp only [Act.put, List.setIfInBounds_toArray, List.set_cons_zero, List.set_cons_succ]
                    refine WT.step 5 rfl (by kernel_rfl) (by decide) fun K hK => ?_
                    go_simp
                    have hb9 : Below w2.heap.size w2 (W8.alloc (.cells (keC x).toArray 28)) := HT8.out.2.alloc HT8.out.2.size _
                    obtain ⟨ad9, e9, _, r0, r1, r2, r3, r4, r5, r6⟩ := (Hr.out _ hb9).1.ke hkl
                    rw [HXX.out.1] at r0 r1 r2 r3 r4 r5 r6
                    cases e9
                    refine hK.out _ _ ⟨(HT8.out.1.b1.alloc _).cell, r0, r1, r2, r3, r4, r5, r6⟩ ?_
                    clear hK K r0 r1 r2 r3 r4 r5 r6 hb9
                    refine WT.step 6 rfl (by kernel_rfl) (by decide) fun K hK => ?_
                    refine step_app _ _ 24 (by rfl) (w6.heap.size + 1) 28 i1 _ 7 64 Try.underlying24 hi1 hz1 hs1 hy1 rfl (by decide) v1 (sel slo shi (xs.take k)).length ((sel slo shi (xs.take k)).flatMap keC) (by rfl) (HT8.out.1.r1.alloc _) _ _ 1 1 (keC x) (by rfl) (by rfl) (rd_new _ _ _) (one_ke1 x) (by unfold maxLen; omega) (by omega) (by have := HT8.out.1.b2.lt; simp; omega) ?_
                    intro v' w9 hown hgr hor
                    obtain ⟨b', c', rfl⟩ := row_slice hown
                    obtain ⟨hk1, hT9, hB9⟩ := HT8.out.1.grow (by omega) (by omega) (by have := HT8.out.1.b2.lt; omega) hown rfl rfl hgr hor
                    have hkc := hk1.cell
                    have hkf := hk1.frozen
                    have hb9 : Below w2.heap.size w2 w9 := (HT8.out.2.alloc HT8.out.2.size _).grown hgr (by have := HT8.out.2.size; simp; omega) (fun j e => by have := (HT8.out.1.r1.lt j e).1; omega)
                    obtain ⟨ad9, e9, _, r0, r1, r2, r3, r4, r5, r6⟩ := (Hr.out _ hb9).1.ke hkl
                    rw [HXX.out.1] at r0 r1 r2 r3 r4 r5 r6
                    cases e9
                    have H9 := Lib.hid (And.intro hT9 (HT8.out.2.trans (hB9.mono hb26)))
                    go_simp
                    refine hK.out _ _ ⟨hkc, r0, r1, r2, r3, r4, r5, r6⟩ ?_
                    clear hK K hown hgr hor hk1 hT9 hB9 hb9 r0 r1 r2 r3 r4 r5 r6 p0 p1 p2 p3 p4 p5 p6 hS0 hvc
                    refine WT.last 7 rfl (by kernel_rfl) rfl fun K hK => ?_
                    go_simp
                    refine hK.out _ _ ?_
                    clear hK K
                    refine WT.done (by kernel_rfl) (qn_in ?_)
                    gi_wp2
                    gi_meet
                    case rel => exact ⟨_, by rw [HSL.out]; exact H9.out.1, H9.out.2⟩
                case rest =>
                  clear HC
                  obtain ⟨v1', hT, hB⟩ := hcut
                  have HD := Lib.hid (And.intro hT hB)
                  clear hT hB
                  rcases (show x.1.size < sp.size ∨ (sp.size ≤ x.1.size ∧ x.1.extract 0 sp.size = sp) ∨ (sp.size ≤ x.1.size ∧ ¬ x.1.extract 0 sp.size = sp) by
                    rcases Nat.lt_or_ge x.1.size sp.size with h | h
                    · exact .inl h
                    · exact .inr ((Classical.em (x.1.extract 0 sp.size = sp)).imp (fun e => ⟨h, e⟩) (fun e => ⟨h, e⟩))) with y1 | ⟨y1, y2⟩ | ⟨y1, y2⟩
                  · have hpf : preB sp x = false := by
                      cases hh : preB sp x with
                      | false => rfl
                      | true => have := ((pre_iff sp x).1 hh).1; omega
                    have HFL := Lib.hid (show (xs.take (k + 1)).filter (preB sp) = (xs.take k).filter (preB sp) by rw [HXX.out.2, List.filter_append]; simp [hpf])
                    have d1 : decide ((sp.size : Int) ≤ x.1.size) = false := decide_eq_false (by omega)
                    have d2 : decide (sp.size ≤ x.1.size) = false := decide_eq_false (by omega)
                    clear hpf
                    gi_wp2
                    go_roundw
                    case rel => exact ⟨k + 1, v1', v2, by omega, by go_num, by rw [HFL.out]; exact HD.out.1, HD.out.2⟩
                    case measure => simp [intOf]; omega
                  · have hpf : preB sp x = true := (pre_iff sp x).2 ⟨y1, y2⟩
                    have HFL := Lib.hid (show (xs.take (k + 1)).filter (preB sp) = (xs.take k).filter (preB sp) ++ [x] by rw [HXX.out.2, List.filter_append]; simp [hpf])
                    have d1 : decide ((sp.size : Int) ≤ x.1.size) = true := decide_eq_true (by omega)
                    have d2 : decide (sp.size ≤ x.1.size) = true := decide_eq_true y1
                    have d3 : ((x.1.extract 0 sp.size).toList == sp.toList) = true := by rw [y2]; simp
                    have y1' : (sp.size : Int) ≤ x.1.size := by omega
                    clear hpf
                    have hl1 : ((xs.take k).filter (preB sp)).length ≤ k := Nat.le_trans (List.length_filter_le _ _) (by rw [List.length_take]; omega)
                    obtain ⟨W8, hW8⟩ : ∃ W8, wc.drew = W8 := ⟨_, rfl⟩
                    have ht8 := HD.out.1.kept (grown_drew1 wc)
                    have hb8 := HD.out.2.drew
                    rw [hW8] at ht8 hb8
                    obtain ⟨ad8, e8, _, p0, p1, p2, p3, p4, p5, p6⟩ := (Hr.out _ hb8).1.ke hkl
                    rw [HXX.out.1] at p0 p1 p2 p3 p4 p5 p6
                    cases e8
                    have hvc := ht8.b2.cell
                    have HT8 := Lib.hid (And.intro ht8 hb8)
                    clear ht8 hb8
                    gi_wp2
                    refine wpIn_wide.2 (wp_mono ?_ qn_mono)
                    have hS0 : (fun w' : World => w'.cell? ⟨w6.heap.size + 1 + 1, 0, none⟩ = some v2 ∧ w'.cell? (ad.add (k * 7)) = some (.string x.1) ∧ w'.cell? ⟨(ad.add (k * 7)).block, (ad.add (k * 7)).off + 1, none⟩ = some (.int .i64 x.2.seg) ∧ w'.cell? ⟨(ad.add (k * 7)).block, (ad.add (k * 7)).off + 2, none⟩ = some (.int .i64 x.2.at_) ∧ w'.cell? ⟨(ad.add (k * 7)).block, (ad.add (k * 7)).off + 3, none⟩ = some (.int .i64 x.2.size) ∧ w'.cell? ⟨(ad.add (k * 7)).block, (ad.add (k * 7)).off + 4, none⟩ = some (.int .i64 x.2.off) ∧ w'.cell? ⟨(ad.add (k * 7)).block, (ad.add (k * 7)).off + 5, none⟩ = some (.int .i64 x.2.time) ∧ w'.cell? ⟨(ad.add (k * 7)).block, (ad.add (k * 7)).off + 6, none⟩ = some (.bool x.2.tomb)) W8 := ⟨hvc, p0, p1, p2, p3, p4, p5, p6⟩
                    refine WT.start (fun w' : World => w'.cell? ⟨w6.heap.size + 1 + 1, 0, none⟩ = some v2 ∧ w'.cell? (ad.add (k * 7)) = some (.string x.1) ∧ w'.cell? ⟨(ad.add (k * 7)).block, (ad.add (k * 7)).off + 1, none⟩ = some (.int .i64 x.2.seg) ∧ w'.cell? ⟨(ad.add (k * 7)).block, (ad.add (k * 7)).off + 2, none⟩ = some (.int .i64 x.2.at_) ∧ w'.cell? ⟨(ad.add (k * 7)).block, (ad.add (k * 7)).off + 3, none⟩ = some (.int .i64 x.2.size) ∧ w'.cell? ⟨(ad.add (k * 7)).block, (ad.add (k * 7)).off + 4, none⟩ = some (.int .i64 x.2.off) ∧ w'.cell? ⟨(ad.add (k * 7)).block, (ad.add (k * 7)).off + 5, none⟩ = some (.int .i64 x.2.time) ∧ w'.cell? ⟨(ad.add (k * 7)).block, (ad.add (k * 7)).off + 6, none⟩ = some (.bool x.2.tomb)) 7 (by kernel_rfl) ?_
                    rw [hW8]
                    clear hW8
                    refine WT.take 0 (v := ?_) rfl (by kernel_rfl) (by kernel_rfl) (by kernel_rfl) (by kernel_rfl) (fun _ _ _ h => h) (Or.inl ⟨by rfl, ?hy⟩) hS0 ?_
                    case hy => first | (intro w hSw; go_simp; done) | (intro w hSw; go_simp; with_reducible rfl)
                    simp only [Act.put, List.setIfInBounds_toArray, List.set_cons_zero, List.set_cons_succ]
                    refine WT.take 1 (v := ?_) rfl (by kernel_rfl) (by kernel_rfl) (by kernel_rfl) (by kernel_rfl) (fun _ _ _ h => h) (Or.inl ⟨by rfl, ?hy⟩) hS0 ?_
                    case hy => first | (intro w hSw; go_simp; done) | (intro w hSw; go_simp; with_reducible rfl)
                    simp only [Act.put, List.setIfInBounds_toArray, List.set_cons_zero, List.set_cons_succ]
                    refine WT.take 2 (v := ?_) rfl (by kernel_rfl) (by kernel_rfl) (by kernel_rfl) (by kernel_rfl) (fun _ _ _ h => h) (Or.inl ⟨by rfl, ?hy⟩) hS0 ?_
                    case hy => first | (intro w hSw; go_simp; done) | (intro w hSw; go_simp; with_reducible rfl)
                    simp only [Act.put, List.setIfInBounds_toArray, List.set_cons_zero, List.set_cons_succ]
                    refine WT.take 3 (v := ?_) rfl (by kernel_rfl) (by kernel_rfl) (by kernel_rfl) (by kernel_rfl) (fun _ _ _ h => h) (Or.inl ⟨by rfl, ?hy⟩) hS0 ?_
                    case hy => first | (intro w hSw; go_simp; done) | (intro w hSw; go_simp; with_reducible rfl)
                    simp only [Act.put, List.setIfInBounds_toArray, List.set_cons_zero, List.set_cons_succ]
                    refine WT.take 4 (v := ?_) rfl (by kernel_rfl) (by kernel_rfl) (by kernel_rfl) (by kernel_rfl) (fun _ _ _ h => h) (Or.inl ⟨by rfl, ?hy⟩) hS0 ?_
                    case hy => first | (intro w hSw; go_simp; done) | (intro w hSw; go_simp; with_reducible rfl)
                    simp only [Act.put, List.setIfInBounds_toArray, List.set_cons_zero, List.set_cons_succ]
                    refine WT.step 5 rfl (by kernel_rfl) (by decide) fun K hK => ?_
                    go_simp
                    have hb9 : Below w2.heap.size w2 (W8.alloc (.cells (keC x).toArray 28)) := HT8.out.2.alloc HT8.out.2.size _
                    obtain ⟨ad9, e9, _, r0, r1, r2, r3, r4, r5, r6⟩ := (Hr.out _ hb9).1.ke hkl
                    rw [HXX.out.1] at r0 r1 r2 r3 r4 r5 r6
                    cases e9
                    refine hK.out _ _ ⟨(HT8.out.1.b2.alloc _).cell, r0, r1, r2, r3, r4, r5, r6⟩ ?_
                    clear hK K r0 r1 r2 r3 r4 r5 r6 hb9
                    refine WT.step 6 rfl (by kernel_rfl) (by decide) fun K hK => ?_
                    refine step_app _ _ 24 (by rfl) (w6.heap.size + 1) 28 i1 _ 7 64 Try.underlying24 hi1 hz1 hs1 hy1 rfl (by decide) v2 ((xs.take k).filter (preB sp)).length (((xs.take k).filter (preB sp)).flatMap keC) (by rfl) (HT8.out.1.r2.alloc _) _ _ 1 1 (keC x) (by rfl) (by rfl) (rd_new _ _ _) (one_ke1 x) (by unfold maxLen; omega) (by omega) (by have := HT8.out.1.b2.lt; simp; omega) ?_
                    intro v' w9 hown hgr hor
                    obtain ⟨b', c', rfl⟩ := row_slice hown
                    obtain ⟨hk1, hT9, hB9⟩ := HT8.out.1.swap.grow (by omega) (by omega) (by have := HT8.out.1.b2.lt; omega) hown rfl rfl hgr hor
                    have hkc := hk1.cell
                    have hkf := hk1.frozen
                    have hb9 : Below w2.heap.size w2 w9 := (HT8.out.2.alloc HT8.out.2.size _).grown hgr (by have := HT8.out.2.size; simp; omega) (fun j e => by have := (HT8.out.1.r2.lt j e).1; omega)
                    obtain ⟨ad9, e9, _, r0, r1, r2, r3, r4, r5, r6⟩ := (Hr.out _ hb9).1.ke hkl
                    rw [HXX.out.1] at r0 r1 r2 r3 r4 r5 r6
                    cases e9
                    have H9 := Lib.hid (And.intro hT9 (HT8.out.2.trans (hB9.mono hb26)))
                    go_simp
                    refine hK.out _ _ ⟨hkc, r0, r1, r2, r3, r4, r5, r6⟩ ?_
                    clear hK K hown hgr hor hk1 hT9 hB9 hb9 r0 r1 r2 r3 r4 r5 r6 p0 p1 p2 p3 p4 p5 p6 hS0 hvc
                    refine WT.last 7 rfl (by kernel_rfl) rfl fun K hK => ?_
                    go_simp
                    refine hK.out _ _ ?_
                    clear hK K
                    refine WT.done (by kernel_rfl) (qn_in ?_)
                    gi_wp2
                    go_roundw
                    case rel => exact ⟨k + 1, v1', _, by omega, by go_num, by rw [HFL.out]; exact H9.out.1.swap, H9.out.2⟩
                    case measure => simp [intOf]; omega
                  · have hpf : preB sp x = false := by
                      cases hh : preB sp x with
                      | false => rfl
                      | true => exact absurd ((pre_iff sp x).1 hh).2 y2
                    have HFL := Lib.hid (show (xs.take (k + 1)).filter (preB sp) = (xs.take k).filter (preB sp) by rw [HXX.out.2, List.filter_append]; simp [hpf])
                    have d1 : decide ((sp.size : Int) ≤ x.1.size) = true := decide_eq_true (by omega)
                    have d2 : decide (sp.size ≤ x.1.size) = true := decide_eq_true y1
                    have d3 := key_ne y2
                    have y1' : (sp.size : Int) ≤ x.1.size := by omega
                    clear hpf
                    gi_wp2
                    go_roundw
                    case rel => exact ⟨k + 1, v1', v2, by omega, by go_num, by rw [HFL.out]; exact HD.out.1, HD.out.2⟩
                    case measure => simp [intOf]; omega
            · have ekn : xs.take k = xs := List.take_of_length_le (by rw [HNX.out]; omega)
              have hT0 := H.out.1
              rw [ekn] at hT0
              have HT0 := Lib.hid hT0
              clear hT0 ekn
              obtain ⟨T, rt, hbx, hTr, hfl, hso, hke⟩ := (Hr.out _ H.out.2).2.2.1
              have hso' : Sorted T.flat := by rw [hfl]; exact hso
              have hke' : KeysOk T.flat := by rw [hfl]; exact hke
              have HTR := Lib.hid (And.intro hbx (And.intro hTr (And.intro hfl (And.intro hso' hke'))))
              clear hbx hTr hfl hso hke hso' hke'
              gi_wp2_with (first
                | (gi_at_call 27
                   refine (wfc (all_any _ slo shi _)).mono ?_
                   rintro e w' ⟨rfl, rfl⟩)
                | (gi_at_call 28
                   refine (wfc (prefix_any _ sp _)).mono ?_
                   rintro e w' ⟨rfl, rfl⟩))
              obtain ⟨W0, hW0⟩ : ∃ W0, ((((((wr.alloc (.cells #[.pointer (some ⟨w.heap.size + 1, 0, none⟩)] 29)).alloc (.cells #[.string slo] 9)).alloc (.cells #[.string shi] 9)).alloc (.cells #[.pointer (some ⟨w.heap.size + 1, 0, none⟩)] 29)).alloc (.cells #[.string sp] 9)).alloc (.cells #[.int .i64 0] 3)) = W0 := ⟨_, rfl⟩
              have hb0 : Below wr.heap.size wr W0 := by
                rw [← hW0]
                exact ((((((Below.refl _ _).alloc (Nat.le_refl _) _).alloc (by simp <;> omega) _).alloc (by simp <;> omega) _).alloc (by simp <;> omega) _).alloc (by simp <;> omega) _).alloc (by simp <;> omega) _
              have hsz : W0.heap.size = wr.heap.size + 6 := by rw [← hW0]; simp
              have q1 : Box W0 (wr.heap.size + 0) 29 #[.pointer (some ⟨w.heap.size + 1, 0, none⟩)] := by
                rw [← hW0]
                have := Box.new wr 29 #[.pointer (some ⟨w.heap.size + 1, 0, none⟩)]
                exact (((((this.alloc _).alloc _).alloc _).alloc _).alloc _)
              have q2 : Box W0 (wr.heap.size + 1) 9 #[.string slo] := by
                rw [← hW0]
                have := Box.new (wr.alloc (.cells #[.pointer (some ⟨w.heap.size + 1, 0, none⟩)] 29)) 9 #[.string slo]
                simp only [World.size_alloc] at this
                exact ((((this.alloc _).alloc _).alloc _).alloc _)
              have q3 : Box W0 (wr.heap.size + 2) 9 #[.string shi] := by
                rw [← hW0]
                have := Box.new ((wr.alloc (.cells #[.pointer (some ⟨w.heap.size + 1, 0, none⟩)] 29)).alloc (.cells #[.string slo] 9)) 9 #[.string shi]
                simp only [World.size_alloc] at this
                exact (((this.alloc _).alloc _).alloc _)
              have q4 : Box W0 (wr.heap.size + 3) 29 #[.pointer (some ⟨w.heap.size + 1, 0, none⟩)] := by
                rw [← hW0]
                have := Box.new (((wr.alloc (.cells #[.pointer (some ⟨w.heap.size + 1, 0, none⟩)] 29)).alloc (.cells #[.string slo] 9)).alloc (.cells #[.string shi] 9)) 29 #[.pointer (some ⟨w.heap.size + 1, 0, none⟩)]
                simp only [World.size_alloc] at this
                exact ((this.alloc _).alloc _)
              have q5 : Box W0 (wr.heap.size + 4) 9 #[.string sp] := by
                rw [← hW0]
                have := Box.new ((((wr.alloc (.cells #[.pointer (some ⟨w.heap.size + 1, 0, none⟩)] 29)).alloc (.cells #[.string slo] 9)).alloc (.cells #[.string shi] 9)).alloc (.cells #[.pointer (some ⟨w.heap.size + 1, 0, none⟩)] 29)) 9 #[.string sp]
                simp only [World.size_alloc] at this
                exact (this.alloc _)
              have q6 : Box W0 (wr.heap.size + 5) 3 #[.int .i64 0] := by
                rw [← hW0]
                have := Box.new (((((wr.alloc (.cells #[.pointer (some ⟨w.heap.size + 1, 0, none⟩)] 29)).alloc (.cells #[.string slo] 9)).alloc (.cells #[.string shi] 9)).alloc (.cells #[.pointer (some ⟨w.heap.size + 1, 0, none⟩)] 29)).alloc (.cells #[.string sp] 9)) 3 #[.int .i64 0]
                simp only [World.size_alloc] at this
                exact this
              rw [hW0]
              clear hW0
              obtain ⟨A1, cp1, hv1⟩ := row_slice HT0.out.r1
              obtain ⟨A3, cp3, hv3⟩ := row_slice HT0.out.r2
              subst hv1 hv3
              have hcl1 := HT0.out.b1.lt
              have hcl2 := HT0.out.b2.lt
              have HW := Lib.hid (show ∀ V, Below (wr.heap.size + 5) W0 V → Rd V wr.heap.size A1 ((sel slo shi xs).flatMap keC) ∧ Rd V wr.heap.size A3 ((xs.filter (preB sp)).flatMap keC) ∧ V.cell? ⟨w6.heap.size + 1, 0, none⟩ = some (.slice A1 (sel slo shi xs).length cp1) ∧ V.cell? ⟨w6.heap.size + 1 + 1, 0, none⟩ = some (.slice A3 (xs.filter (preB sp)).length cp3) ∧ Below wr.heap.size wr V from fun V hB => by
                have hbv : Below wr.heap.size wr V := hb0.trans (hB.mono (by omega))
                exact ⟨(row_rd' HT0.out.r1).below hbv, (row_rd' HT0.out.r2).below hbv, (hbv.cell (p := ⟨w6.heap.size + 1, 0, none⟩) hcl1).trans HT0.out.b1.cell, (hbv.cell (p := ⟨w6.heap.size + 1 + 1, 0, none⟩) hcl2).trans HT0.out.b2.cell, hbv⟩)
              have HQ := Lib.hid (And.intro q1 (And.intro q2 (And.intro q3 (And.intro q4 (And.intro q5 q6)))))
              clear q1 q2 q3 q4 q5 q6
              obtain ⟨cn, hcn⟩ : ∃ cn, wr.heap.size + 1 + 1 + 1 + 1 + 1 = cn := ⟨_, rfl⟩
              rw [hcn]
              have hcn5 : wr.heap.size + 5 = cn := by omega
              rw [hcn5] at HW HQ
              have hszc : W0.heap.size = cn + 1 := by omega
              have hqb : Boxed W0 cn 3 (.int .i64 0) := HQ.out.2.2.2.2.2
              have HTS := Lib.hid (show sel slo shi T.flat = sel slo shi xs ∧ T.flat.filter (preB sp) = xs.filter (preB sp) by rw [HTR.out.2.2.1]; exact ⟨rfl, rfl⟩)
              generalize hA : Act.mk _ _ = act0
              refine wpIn_rangeFunc_ownH rfl (by omega) (gf := 42) (lb := #[.pointer (some ⟨wr.heap.size + 1, 0, none⟩), .pointer (some ⟨wr.heap.size + 2, 0, none⟩), .pointer (some ⟨wr.heap.size, 0, none⟩)]) (by rw [← hA]; rfl) trivial (enters_of Try.func42 (by kernel_rfl) rfl)
                (all_stops 8 slo shi z1 z2 _ _ _ (some ⟨w.heap.size + 1, 0, none⟩) rt T W0 HTR.out.2.2.2.1 HTR.out.2.2.2.2 (HTR.out.2.1.below hb0) (.inr ⟨_, rfl, HTR.out.1.below hb0 HTR.out.1.lt⟩) HQ.out.2.1 HQ.out.2.2.1 HQ.out.1) (fun h k => Kp.trans h k) (fun W l o o' _ h hc _ => kp_put W l o o' h hc) (Below.refl _ _) (fun _ => rfl)
                (fun (pre : List KE) V => (Boxed V cn 3 (.int .i64 (pre.length : Int)) ∧ Below cn W0 V) ∧ pre <+: sel slo shi xs)
                (fun c (pre : List KE) _ => c = .ret ∧ ¬ pre <+: sel slo shi xs)
                (OwnFrom.and (OwnFrom.and (Own.from (boxed_own cn _ (fun pre : List KE => Value.int .i64 (pre.length : Int))) _) (ownFrom_below (by omega) (by omega))) (ownFrom_pure _ _))
                (fun c => ownFrom_pure _ _)
                ⟨⟨hqb, Below.refl _ _⟩, List.nil_prefix⟩
                (fun (x : KE) a' V => ∃ Bx, cn < Bx ∧ Box V Bx 26 x.2.cells.toArray ∧ a' = { tmps := (((act0.tmps.setIfInBounds 219 (.string x.1)).setIfInBounds 220 x.2.v).setIfInBounds 28 (.string x.1)).setIfInBounds 29 (.pointer (some ⟨Bx, 0, none⟩)), defers := [] })
                (fun x a' s A B row h hg hr => by obtain ⟨Bx, h1, h2, h3⟩ := h; exact ⟨Bx, h1, box_own1 (β := Unit) _ Bx _ _ s A B row h2 hg hr, h3⟩)
                ?assign ?body ?done ?stop
              case assign =>
                rintro l pre x V K ⟨⟨hbc, hB⟩, hpf⟩ hK
                unfold encK
                rw [← hA] at hK ⊢
                have hlt := hbc.lt
                gi_wp2
                refine hK _ _ ((KeepsOthers.alloc _ _).from _) (Kp.of_below (bal _ _)) ⟨⟨hbc.alloc _, hB.alloc (by omega) _⟩, hpf⟩ ⟨V.heap.size, hlt, Box.new V _ _, ?_⟩
                first | rfl | simp only [List.setIfInBounds_toArray, List.set_cons_zero, List.set_cons_succ]
              case body =>
                rintro l pre x a' V hl ⟨r, hr⟩ ⟨⟨hbc, hB⟩, hpf⟩ ⟨Bx, hBx, bX, rfl⟩ hlN
                rw [HTS.out.1] at hlN
                rw [← hA]
                simp only [List.setIfInBounds_toArray, List.set_cons_zero, List.set_cons_succ]
                obtain ⟨d1, _, d3, _, _⟩ := HW.out V hB
                obtain ⟨ad1, rfl, _, p0, p1, p2, p3, p4, p5, p6⟩ := d1.ke hlN
                have hps := prefix_snoc (x := x) hpf hlN
                have hcx := bX.cell
                unfold En.cells at hcx
                have hbcc := hbc.cell
                have hbcf := hbc.frozen
                have hn0 : (0 : Int) ≤ pre.length := by omega
                have hn1 : (pre.length : Int) < (sel slo shi xs).length := by omega
                have hn2 : decide (((sel slo shi xs).length : Int) ≤ pre.length) = false := decide_eq_false (by omega)
                have hn3 : decide ((sel slo shi xs).length ≤ pre.length) = false := decide_eq_false (by omega)
                generalize (sel slo shi xs)[pre.length] = y at p0 p1 p2 p3 p4 p5 p6 hps
                have HV := Lib.hid (And.intro hbc (And.intro hB (And.intro hps (And.intro bX hlN))))
                clear hbc hB hps bX hr d1 hlN hpf
                by_cases hxy : y = x
                · subst hxy
                  gi_wp2
                  refine wpIn_region_round (by kernel_rfl) (by kernel_rfl) (by kernel_rfl) ?_
                  repeat (quiet_step_in (fail))
                  refine wpQuietIn_nil ?_
                  intro W1 hw'
                  obtain ⟨nq, hW1⟩ := hw'
                  have hbc1 : Boxed W1 cn 3 (.int .i64 (pre.length : Int)) := by rw [hW1]; exact HV.out.1.kept (grown_drewN1 V nq) (by simp)
                  have hbcc1 := hbc1.cell
                  have hbcf1 := hbc1.frozen
                  have hpl : (pre.length : Int) < 9000000000000000 := by have := HV.out.2.2.2.2; have := List.length_filter_le (inR slo shi) xs; unfold sel at hn1; have := HNX.out; omega
                  have HV1 := Lib.hid (And.intro hbc1 (And.intro (below_to HV.out.2.1 hW1) (And.intro (show KeepsFrom W0.heap.size V W1 by rw [hW1]; exact KeepsFrom.of_grownBy (grown_drewN1 V nq) (fun j e => by cases e)) (show Kp V W1 by rw [hW1]; exact (Kp.refl V).drewN nq))))
                  clear hbc1 hW1 p0 p1 p2 p3 p4 p5 p6 hcx hbcc hbcf d3
                  gi_wp2
                  have hkr : ¬ KpT 3 := by unfold KpT; decide
                  refine ⟨HV1.out.2.2.1.trans ((KeepsOthers.setCell _ _ _).from _), HV1.out.2.2.2.trans (Kp.grown (grownBy_setCell' W1 cn _) (fun k e => by cases e; exact kp_box HV1.out.1 hkr)), ⟨?_, HV1.out.2.1.setCell (p := ⟨cn, 0, none⟩) (Nat.le_refl _) _⟩, HV.out.2.2.1.2 (by first | exact rfl | trivial)⟩
                  have := HV1.out.1.set (.int .i64 ((pre.length : Int) + 1))
                  simpa using this
                · have hnq := fun W => ke_neq y x hxy W
                  gi_wp2
                  refine wpIn_region_round (by kernel_rfl) (by kernel_rfl) (by kernel_rfl) ?_
                  repeat (quiet_step_in (fail))
                  refine wpQuietIn_nil ?_
                  intro W1 hw'
                  obtain ⟨nq, hW1⟩ := hw'
                  have hb8 := (Hr.out _ (below_to (H.out.2.trans ((HW.out _ HV.out.2.1).2.2.2.2.mono H.out.2.size)) hW1)).2.2.2.1
                  have h8c := hb8.cell
                  have h8f := hb8.free
                  have h8l := hb8.lt
                  have HV1 := Lib.hid (show KeepsFrom W0.heap.size V W1 by rw [hW1]; exact KeepsFrom.of_grownBy (grown_drewN1 V nq) (fun j e => by cases e))
                  clear hb8 hW1 p0 p1 p2 p3 p4 p5 p6 hcx hbcc hbcf d3 hnq
                  gi_wp2
                  exact ⟨HV1.out.trans ((KeepsOthers.setCell _ _ _).from _), rfl, fun h => hxy (HV.out.2.2.1.1 h)⟩
              case stop =>
                rintro D c pre V hD hpre ⟨rfl, hnp⟩ hK
                rw [HTS.out.1] at hpre
                exact absurd hpre hnp
              case done =>
                rintro D ys V hD rfl ⟨⟨hbc, hB⟩, hpf⟩ hK
                rw [HTS.out.1] at hbc
                rw [← hA]
                have hvs := hB.size
                have hDl : D < V.heap.size := (Array.getElem?_eq_some_iff.1 hK).1
                have hcnl := hbc.lt
                have HV0 := Lib.hid (And.intro hbc hK)
                have hB2 : Below cn W0 (V.alloc (.cells #[.int .i64 0] 3)) := hB.alloc (by omega) _
                have HVB := Lib.hid hB2
                have hqm := Boxed.new V 3 (.int .i64 0)
                have hdv : Below V.heap.size V (V.alloc (.cells #[.int .i64 0] 3)) := bal V _
                clear hbc hK hpf hB2
                gi_wp2
                obtain ⟨cm, hcm⟩ : ∃ cm, V.heap.size = cm := ⟨_, rfl⟩
                rw [hcm] at hqm hdv hcnl hDl hvs ⊢
                obtain ⟨W2, hW2⟩ : ∃ W2, V.alloc (.cells #[.int .i64 0] 3) = W2 := ⟨_, rfl⟩
                have hszm : W2.heap.size = cm + 1 := by rw [← hW2, ← hcm]; simp
                rw [hW2] at hqm hdv HVB ⊢
                clear hW2
                generalize hA2 : Act.mk _ _ = act1
                refine wpIn_rangeFunc_ownM rfl (by omega) (gf := 44) (lb := #[.pointer (some ⟨wr.heap.size + 1 + 1 + 1 + 1, 0, none⟩), .pointer (some ⟨wr.heap.size + 1 + 1 + 1, 0, none⟩)]) (by rw [← hA2]; rfl) trivial (enters_of Try.func44 (by kernel_rfl) rfl)
                  (prefix_seq 8 (by omega) sp z3 _ _ (some ⟨w.heap.size + 1, 0, none⟩) rt T W2 HTR.out.2.2.2.1 HTR.out.2.2.2.2 (HTR.out.2.1.below (HW.out _ HVB.out).2.2.2.2) (.inr ⟨_, rfl, HTR.out.1.below (HW.out _ HVB.out).2.2.2.2 HTR.out.1.lt⟩) (HQ.out.2.2.2.2.1.below HVB.out (by omega)) (HQ.out.2.2.2.1.below HVB.out (by omega))) (fun h k => Kp.trans h k) (fun W l o o' _ h hc _ => kp_put W l o o' h hc) (Below.refl _ _) (fun _ => rfl)
                  (fun (pre : List KE) V2 => (Boxed V2 cm 3 (.int .i64 (pre.length : Int)) ∧ Below cm W2 V2) ∧ pre <+: xs.filter (preB sp))
                  (fun c (pre : List KE) _ => c = .ret ∧ ¬ pre <+: xs.filter (preB sp))
                  (OwnFrom.and (OwnFrom.and (Own.from (boxed_own cm _ (fun pre : List KE => Value.int .i64 (pre.length : Int))) _) (ownFrom_below (by omega) (by omega))) (ownFrom_pure _ _))
                  (fun c => ownFrom_pure _ _)
                  ⟨⟨hqm, Below.refl _ _⟩, List.nil_prefix⟩
                  (fun (x : KE) a' V2 => ∃ Bx, cm < Bx ∧ Box V2 Bx 26 x.2.cells.toArray ∧ a' = { tmps := (((act1.tmps.setIfInBounds 238 (.string x.1)).setIfInBounds 239 x.2.v).setIfInBounds 31 (.string x.1)).setIfInBounds 32 (.pointer (some ⟨Bx, 0, none⟩)), defers := [] })
                  (fun x a' s A B row h hg hr => by obtain ⟨Bx, h1, h2, h3⟩ := h; exact ⟨Bx, h1, box_own1 (β := Unit) _ Bx _ _ s A B row h2 hg hr, h3⟩)
                  ?assign2 ?body2 ?done2 ?stop2
                case assign2 =>
                  rintro l pre x V2 K ⟨⟨hbc, hB⟩, hpf⟩ hK
                  unfold encK
                  rw [← hA2] at hK ⊢
                  have hlt := hbc.lt
                  gi_wp2
                  refine hK _ _ ((KeepsOthers.alloc _ _).from _) (Kp.of_below (bal _ _)) ⟨⟨hbc.alloc _, hB.alloc (by omega) _⟩, hpf⟩ ⟨V2.heap.size, hlt, Box.new V2 _ _, ?_⟩
                  first | rfl | simp only [List.setIfInBounds_toArray, List.set_cons_zero, List.set_cons_succ]
                case body2 =>
                  rintro l pre x a' V2 hl ⟨r, hr⟩ ⟨⟨hbc, hB⟩, hpf⟩ ⟨Bx, hBx, bX, rfl⟩ hlN
                  rw [HTS.out.2] at hlN
                  rw [← hA2]
                  simp only [List.setIfInBounds_toArray, List.set_cons_zero, List.set_cons_succ]
                  obtain ⟨_, d1, _, d3, _⟩ := HW.out V2 (HVB.out.trans (hB.mono (by omega)))
                  obtain ⟨ad1, rfl, _, p0, p1, p2, p3, p4, p5, p6⟩ := d1.ke hlN
                  have hps := prefix_snoc (x := x) hpf hlN
                  have hcx := bX.cell
                  unfold En.cells at hcx
                  have hbcc := hbc.cell
                  have hbcf := hbc.frozen
                  have hn0 : (0 : Int) ≤ pre.length := by omega
                  have hn1 : (pre.length : Int) < (xs.filter (preB sp)).length := by omega
                  have hn2 : decide (((xs.filter (preB sp)).length : Int) ≤ pre.length) = false := decide_eq_false (by omega)
                  have hn3 : decide ((xs.filter (preB sp)).length ≤ pre.length) = false := decide_eq_false (by omega)
                  generalize (xs.filter (preB sp))[pre.length] = y at p0 p1 p2 p3 p4 p5 p6 hps
                  have HV := Lib.hid (And.intro hbc (And.intro hB (And.intro hps (And.intro bX hlN))))
                  clear hbc hB hps bX hr d1 hlN hpf
                  by_cases hxy : y = x
                  · subst hxy
                    gi_wp2
                    refine wpIn_region_round (by kernel_rfl) (by kernel_rfl) (by kernel_rfl) ?_
                    repeat (quiet_step_in (fail))
                    refine wpQuietIn_nil ?_
                    intro W1 hw'
                    obtain ⟨nq, hW1⟩ := hw'
                    have hbc1 : Boxed W1 cm 3 (.int .i64 (pre.length : Int)) := by rw [hW1]; exact HV.out.1.kept (grown_drewN1 V2 nq) (by simp)
                    have hbcc1 := hbc1.cell
                    have hbcf1 := hbc1.frozen
                    have hpl : (pre.length : Int) < 9000000000000000 := by have := HV.out.2.2.2.2; have := List.length_filter_le (preB sp) xs; have := HNX.out; omega
                    have HV1 := Lib.hid (And.intro hbc1 (And.intro (below_to HV.out.2.1 hW1) (And.intro (show KeepsFrom W2.heap.size V2 W1 by rw [hW1]; exact KeepsFrom.of_grownBy (grown_drewN1 V2 nq) (fun j e => by cases e)) (show Kp V2 W1 by rw [hW1]; exact (Kp.refl V2).drewN nq))))
                    clear hbc1 hW1 p0 p1 p2 p3 p4 p5 p6 hcx hbcc hbcf d3
                    gi_wp2
                    have hkr : ¬ KpT 3 := by unfold KpT; decide
                    refine ⟨HV1.out.2.2.1.trans ((KeepsOthers.setCell _ _ _).from _), HV1.out.2.2.2.trans (Kp.grown (grownBy_setCell' W1 cm _) (fun k e => by cases e; exact kp_box HV1.out.1 hkr)), ⟨?_, HV1.out.2.1.setCell (p := ⟨cm, 0, none⟩) (Nat.le_refl _) _⟩, HV.out.2.2.1.2 (by first | exact rfl | trivial)⟩
                    have := HV1.out.1.set (.int .i64 ((pre.length : Int) + 1))
                    simpa using this
                  · have hnq := fun W => ke_neq y x hxy W
                    gi_wp2
                    refine wpIn_region_round (by kernel_rfl) (by kernel_rfl) (by kernel_rfl) ?_
                    repeat (quiet_step_in (fail))
                    refine wpQuietIn_nil ?_
                    intro W1 hw'
                    obtain ⟨nq, hW1⟩ := hw'
                    have hb8 := (Hr.out _ (below_to (H.out.2.trans ((HW.out _ (HVB.out.trans (HV.out.2.1.mono (by omega)))).2.2.2.2.mono H.out.2.size)) hW1)).2.2.2.1
                    have h8c := hb8.cell
                    have h8f := hb8.free
                    have h8l := hb8.lt
                    have HV1 := Lib.hid (show KeepsFrom W2.heap.size V2 W1 by rw [hW1]; exact KeepsFrom.of_grownBy (grown_drewN1 V2 nq) (fun j e => by cases e))
                    clear hb8 hW1 p0 p1 p2 p3 p4 p5 p6 hcx hbcc hbcf d3 hnq
                    gi_wp2
                    exact ⟨HV1.out.trans ((KeepsOthers.setCell _ _ _).from _), rfl, fun h => hxy (HV.out.2.2.1.1 h)⟩
                case stop2 =>
                  rintro D c pre V2 hD hpre ⟨rfl, hnp⟩ hK
                  rw [HTS.out.2] at hpre
                  exact absurd hpre hnp
                case done2 =>
                  rintro D2 ys V2 hD2 rfl ⟨⟨hbc, hB⟩, hpf⟩ hK
                  rw [HTS.out.2] at hbc
                  rw [← hA2]
                  have hbv2 : Below cm V V2 := hdv.trans (hB.mono (by omega))
                  have hbcn : Boxed V2 cn 3 (.int .i64 ((sel slo shi xs).length : Int)) := (hbv2.block cn (by omega)).trans HV0.out.1
                  have hkD : V2.heap[D]? = some (.deferred (some [])) := (hbv2.block D (by omega)).trans HV0.out.2
                  have hww := HW.out V2 (HVB.out.trans (hB.mono (by omega)))
                  obtain ⟨_, _, d3, d4, d5⟩ := hww
                  have hb2 : Below w2.heap.size w2 V2 := H.out.2.trans (d5.mono H.out.2.size)
                  have hcnc := hbcn.cell
                  have hcmc := hbc.cell
                  have hD2l : D2 < V2.heap.size := (Array.getElem?_eq_some_iff.1 hK).1
                  have hv3 := hB.size
                  have HE := Lib.hid (And.intro hkD (And.intro hK (And.intro (Hr.out _ hb2).2.2.2.1 (Hr.out _ hb2).2.2.2.2)))
                  clear hbc hB hpf hK hkD hbcn d5 hb2
                  gi_wp2_with (first
                    | (gi_at_call 17
                       refine (wfc (head_any _)).mono ?_
                       rintro e w9 ⟨rfl, hb9⟩
                       have hx9 := HE.out.2.2.1.below hb9 HE.out.2.2.1.lt
                       have h9c := hx9.cell
                       have h9f := hx9.free
                       have h9l := hx9.lt
                       have HF := Lib.hid (And.intro ((hb9.block D (by omega)).trans HE.out.1) (And.intro ((hb9.block D2 hD2l).trans HE.out.2.1) (And.intro hx9 (HE.out.2.2.2.trans (hb9.mono HE.out.2.2.2.size)))))
                       clear hb9 hx9))
                  have hk2 : (w9.setCell ⟨w.heap.size, 0, none⟩ (.bool true)).heap[D2]? = some (.deferred (some [])) := (KeepsOthers.setCell _ _ _).same D2 _ HF.out.2.1 rfl
                  have hk1 : (w9.setCell ⟨w.heap.size, 0, none⟩ (.bool true)).heap[D]? = some (.deferred (some [])) := (KeepsOthers.setCell _ _ _).same D _ HF.out.1 rfl
                  have hk1' : ((w9.setCell ⟨w.heap.size, 0, none⟩ (.bool true)).putObj D2 (.deferred none)).heap[D]? = some (.deferred (some [])) := (World.putObj_heap_other (by omega)).trans hk1
                  have hcc : (w9.setCell ⟨w.heap.size, 0, none⟩ (.bool true)).cell? ⟨w.heap.size, 0, none⟩ = some (.bool true) := World.cell?_setCell_same' _ _ _ (by rw [h9c]; rfl)
                  have hcc2 := cell_kept hcc (grownBy_putObj' _ D2 (.deferred none)) (fun r e => by cases e; exact ⟨_, hk2, rfl⟩)
                  have hcc3 := cell_kept hcc2 (grownBy_putObj' _ D (.deferred none)) (fun r e => by cases e; exact ⟨_, hk1', rfl⟩)
                  have hbz : Below w.heap.size w (w9.setCell ⟨w.heap.size, 0, none⟩ (.bool true)) := HF.out.2.2.2.setCell (p := ⟨w.heap.size, 0, none⟩) (Nat.le_refl _) _
                  have hlw : w.heap.size ≤ W0.heap.size := by have := H2.out.2.2.1.size; have := H.out.2.size; omega
                  have HG := Lib.hid (And.intro hk2 (And.intro hk1' (And.intro hcc3 hbz)))
                  clear hk2 hk1 hk1' hcc hcc2 hcc3 hbz
                  refine ⟨by simp, .inl ⟨_, _, rfl, run_takeDeferred HG.out.1, ⟨by simp, .inl ⟨_, _, rfl, run_takeDeferred HG.out.2.1, ?_⟩⟩⟩⟩
                  refine ⟨.bool true, ?_, rfl, ?_⟩
                  · have hcx := HG.out.2.2.1
                    simp [results, Try.results6, go_sem, hcx]
                  · exact (HG.out.2.2.2.trans (belowK_b (w := w) (Nat.le_refl _) _ D2 _ _ (by omega) HG.out.1 rfl rfl)).trans (belowK_b (w := w) (Nat.le_refl _) _ D _ _ (by omega) HG.out.2.1 rfl rfl)
end Go.Proofs.Ytociadicjbkjcaa
