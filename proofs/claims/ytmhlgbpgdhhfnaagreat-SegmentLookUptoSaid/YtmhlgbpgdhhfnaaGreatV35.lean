import Derived.Test.YtmhlgbpgdhhfnaaGreatV34
set_option linter.unusedVariables false
set_option linter.unusedSimpArgs false
namespace Go.Proofs.YtmhlgbpgdhhfnaaGreat
open Go.RowKit Go.Maps Sqz

/-! chronicleref5.headIn -/
theorem run_head2 (W : World) (b : Option Addr) (len cap m : Nat) (h : Int) (hh : h = m) (hm : m ≤ cap) :
    (Instr.slice 22 (.slice b len cap) none (some (.int .i64 h)) none).run Tryz.prog W = .ok (.slice b m cap) W := by
  have ht : Tryz.prog.underlying 22 = some (.slice 5) := Tryz.underlying22
  have he : Tryz.prog.elem 22 = 5 := by simp [Program.elem, ht]
  have ht' : Tryz.prog.underlying 22 = some (.slice (Tryz.prog.elem 22)) := by rw [he]; exact ht
  subst hh
  rw [run_slice_h W _ _ _ _ ht' .i64 _ (by omega) (by omega), he, sizeU8]
  simp only [Result.andThen, sliced]
  have add0 : ∀ a : Addr, a.add 0 = a := fun a => by unfold Addr.add; split <;> simp_all
  cases b with
  | none => simp
  | some x => simp [add0]
theorem run_hm2 (W : World) (b : Option Addr) (len cap m : Nat) (h : Int) (hh : h = m) (hm : m ≤ cap) :
    (Instr.slice 22 (.slice b len cap) none (some (.int .i64 h)) (some (.int .i64 h))).run Tryz.prog W = .ok (.slice b m m) W := by
  have ht : Tryz.prog.underlying 22 = some (.slice 5) := Tryz.underlying22
  have he : Tryz.prog.elem 22 = 5 := by simp [Program.elem, ht]
  have ht' : Tryz.prog.underlying 22 = some (.slice (Tryz.prog.elem 22)) := by rw [he]; exact ht
  subst hh
  rw [run_slice_hm W _ _ _ _ ht' .i64 .i64 _ _ (by omega) (by omega) (by omega), he, sizeU8]
  simp only [Result.andThen, sliced]
  have add0 : ∀ a : Addr, a.add 0 = a := fun a => by unfold Addr.add; split <;> simp_all
  cases b with
  | none => simp
  | some x => simp [add0]
theorem headB_len (t n b : Nat) : (headB csum t n b).length = 21 := by
  unfold headB be8
  simp only [List.length_cons, List.length_append, be4_len]
def infV (i : Inf) : Value := .agg #[.int .i64 i.topic, .int .i64 i.num, .int .i64 i.base, .int .i64 i.size, .int .i64 i.count, .int .i64 i.last, .bool i.sealed]
def HIv : Option Inf → Value
  | none => .tuple #[.agg #[.int .i64 0, .int .i64 0, .int .i64 0, .int .i64 0, .int .i64 0, .int .i64 0, .bool false], .bool false]
  | some i => .tuple #[infV i, .bool true]
theorem val4_lt8 (l : List UInt8) (h : l.length = 8) : val4 l < 18446744073709551616 := by
  have := fxN_lt l
  rw [h] at this
  exact this
theorem val4_lt4 (l : List UInt8) (h : l.length = 4) : val4 l < 4294967296 := by
  have := fxN_lt l
  rw [h] at this
  exact this
set_option maxRecDepth 100000 in
set_option maxHeartbeats 8000000 in
theorem headInQ_any (A : Option Addr) (n c : Nat) (b : List UInt8) (w : World) (hA : Rd w w.heap.size A (bv b)) (hn : b.length = n) (hc : n ≤ c) (hmx : n ≤ 1000000000) :
    Calls Tryz.prog 8 #[.slice A n c] w fun e w' => e = .returned (HIv (headR csum b)) ∧ Below w.heap.size w w' := by
  have HZ : Hid (Below w.heap.size w (w.alloc (.cells #[.int .i64 0, .int .i64 0, .int .i64 0, .int .i64 0, .int .i64 0, .int .i64 0, .bool false] 24))) := (Below.refl _ _).alloc (Nat.le_refl _) _
  have HB0 : Hid (Box (w.alloc (.cells #[.int .i64 0, .int .i64 0, .int .i64 0, .int .i64 0, .int .i64 0, .int .i64 0, .bool false] 24)) w.heap.size 24 #[.int .i64 0, .int .i64 0, .int .i64 0, .int .i64 0, .int .i64 0, .int .i64 0, .bool false]) := Box.new w _ _
  have HL := Lib.hid hn
  have HA := Lib.hid hA
  generalize hRR : headR csum b = RR
  unfold headR at hRR
  go_enter Tryz.func8, Tryz.ntmps8
  by_cases hlt : n < 21
  · rw [if_pos (by omega)] at hRR
    have HE : Hid (RR = none) := hRR.symm
    have h1 : (n : Int) < 21 := by omega
    clear hRR hA hn
    go_wp2
    refine bodyPost_ret (v := .tuple #[.agg #[.int .i64 0, .int .i64 0, .int .i64 0, .int .i64 0, .int .i64 0, .int .i64 0, .bool false], .bool false]) ?_ rfl ?_
    · simp [results, Tryz.results8, go_sem, HB0.out.cell, HB0.out.lt]
    rw [HE.out]
    refine ⟨rfl, ?_⟩
    have hB := HZ.out
    repeat (first | with_reducible exact hB | with_reducible exact below_drewN hB _ | refine Below.setCell ?_ (by simp) _)
  rw [if_neg (by omega)] at hRR
  simp only at hRR
  have h1 : ¬ (n : Int) < 21 := by omega
  have HRd : ∀ k m, Hid (Rd w w.heap.size (tailA A c k) (bv ((b.drop k).take m))) := fun k m => (hA.tail_ (cap := c) k (by rw [hn]; exact hc)).take_ m
  have HT : Hid (Rd w w.heap.size A (bv (b.take 21))) := hA.take_ 21
  have HTL : Hid ((b.take 21).length = 21) := by show _ = _; rw [List.length_take]; omega
  have l1 : ((b.drop 1).take 4).length = 4 := by rw [List.length_take, List.length_drop]; omega
  have l2 : ((b.drop 5).take 4).length = 4 := by rw [List.length_take, List.length_drop]; omega
  have l3 : ((b.drop 9).take 8).length = 8 := by rw [List.length_take, List.length_drop]; omega
  have R1 := HRd 1 4
  have R2 := HRd 5 4
  have R3 := HRd 9 8
  clear HRd
  have hs1 : ∀ W, (Instr.slice 22 (.slice A n c) (some (.int .i64 1)) (some (.int .i64 5)) none).run Tryz.prog W = .ok (.slice (tailA A c 1) 4 (c - 1)) W := fun W => run_part2 W A n c 1 4 1 5 rfl rfl (by omega)
  have hs2 : ∀ W, (Instr.slice 22 (.slice A n c) (some (.int .i64 5)) (some (.int .i64 9)) none).run Tryz.prog W = .ok (.slice (tailA A c 5) 4 (c - 5)) W := fun W => run_part2 W A n c 5 4 5 9 rfl rfl (by omega)
  have hs3 : ∀ W, (Instr.slice 22 (.slice A n c) (some (.int .i64 9)) (some (.int .i64 17)) none).run Tryz.prog W = .ok (.slice (tailA A c 9) 8 (c - 9)) W := fun W => run_part2 W A n c 9 8 9 17 rfl rfl (by omega)
  have hs4 : ∀ W, (Instr.slice 22 (.slice A n c) none (some (.int .i64 21)) none).run Tryz.prog W = .ok (.slice A 21 c) W := fun W => run_head2 W A n c 21 21 rfl (by omega)
  generalize (b.drop 1).take 4 = x1 at hRR l1 R1
  generalize (b.drop 5).take 4 = x2 at hRR l2 R2
  generalize (b.drop 9).take 8 = x3 at hRR l3 R3
  generalize b.take 21 = xt at hRR HT HTL
  have v1 := val4_lt4 x1 l1
  have v2 := val4_lt4 x2 l2
  have v3 := val4_lt8 x3 l3
  have Hl1 := Lib.hid l1
  have Hl2 := Lib.hid l2
  have Hl3 := Lib.hid l3
  obtain ⟨V1, hV1⟩ : ∃ V, val4 x1 = V := ⟨_, rfl⟩
  obtain ⟨V2, hV2⟩ : ∃ V, val4 x2 = V := ⟨_, rfl⟩
  obtain ⟨V3, hV3⟩ : ∃ V, val4 x3 = V := ⟨_, rfl⟩
  rw [hV1] at hRR v1
  rw [hV2] at hRR v2
  rw [hV3] at hRR v3
  have HW1 : Hid (IntKind.i64.wrap (val4 x1 : Nat) = V1) := by show _ = _; rw [hV1]; exact IntWalk.i64_in _ (by omega)
  have HW2 : Hid (IntKind.i64.wrap (val4 x2 : Nat) = V2) := by show _ = _; rw [hV2]; exact IntWalk.i64_in _ (by omega)
  obtain ⟨z, hz⟩ : ∃ z, IntKind.i64.wrap (V3 : Int) = z := ⟨_, rfl⟩
  have HW3 : Hid (IntKind.i64.wrap (val4 x3 : Nat) = z) := by show _ = _; rw [hV3]; exact hz
  have hz2 : (V3 < 9223372036854775808 ∧ z = V3) ∨ (9223372036854775808 ≤ V3 ∧ z < 0) := by
    rw [IntKind.wrap_i64] at hz
    by_cases h : V3 < 9223372036854775808
    · exact .inl ⟨h, by omega⟩
    exact .inr ⟨by omega, by omega⟩
  clear hV1 hV2 hV3 l1 l2 l3 hz
  by_cases h : 1073741824 ≤ V1
  · rw [if_pos (by first | exact .inl h | exact .inr (.inl h) | exact .inr (.inr h))] at hRR
    have HE : Hid (RR = none) := hRR.symm
    have g1 : (1073741824 : Int) ≤ V1 := by omega
    clear hRR hA hn
    go_wp2_with (first
      | (go_at_call 16
         have zz := R1
         clear zz
         refine (valueQ_any _ 4 _ x1 _ (R1.out.below HZ.out |>.mono HZ.out.size) Hl1.out (by omega)).mono ?_
         rintro e w1 ⟨rfl, rfl⟩
         rw [HW1.out]
         clear R1)
      | (go_at_call 16
         have zz := R2
         clear zz
         refine (valueQ_any _ 4 _ x2 _ (R2.out.below HZ.out |>.mono HZ.out.size) Hl2.out (by omega)).mono ?_
         rintro e w2 ⟨rfl, rfl⟩
         rw [HW2.out]
         clear R2)
      | (go_at_call 16
         have zz := R3
         clear zz
         refine (valueQ_any _ 8 _ x3 _ (R3.out.below HZ.out |>.mono HZ.out.size) Hl3.out (by omega)).mono ?_
         rintro e w3 ⟨rfl, rfl⟩
         rw [HW3.out]
         clear R3))
    refine bodyPost_ret (v := .tuple #[.agg #[.int .i64 0, .int .i64 0, .int .i64 0, .int .i64 0, .int .i64 0, .int .i64 0, .bool false], .bool false]) ?_ rfl ?_
    · simp [results, Tryz.results8, go_sem, HB0.out.cell, HB0.out.lt]
    rw [HE.out]
    refine ⟨rfl, ?_⟩
    have hB := HZ.out
    repeat (first | with_reducible exact hB | with_reducible exact below_drewN hB _ | refine Below.setCell ?_ (by simp) _)
  have g1 : ¬ (1073741824 : Int) ≤ V1 := by omega
  have HN1 := Lib.hid h
  by_cases h : 1073741824 ≤ V2
  · rw [if_pos (by first | exact .inl h | exact .inr (.inl h) | exact .inr (.inr h))] at hRR
    have HE : Hid (RR = none) := hRR.symm
    have g2 : (1073741824 : Int) ≤ V2 := by omega
    clear hRR hA hn
    go_wp2_with (first
      | (go_at_call 16
         have zz := R1
         clear zz
         refine (valueQ_any _ 4 _ x1 _ (R1.out.below HZ.out |>.mono HZ.out.size) Hl1.out (by omega)).mono ?_
         rintro e w1 ⟨rfl, rfl⟩
         rw [HW1.out]
         clear R1)
      | (go_at_call 16
         have zz := R2
         clear zz
         refine (valueQ_any _ 4 _ x2 _ (R2.out.below HZ.out |>.mono HZ.out.size) Hl2.out (by omega)).mono ?_
         rintro e w2 ⟨rfl, rfl⟩
         rw [HW2.out]
         clear R2)
      | (go_at_call 16
         have zz := R3
         clear zz
         refine (valueQ_any _ 8 _ x3 _ (R3.out.below HZ.out |>.mono HZ.out.size) Hl3.out (by omega)).mono ?_
         rintro e w3 ⟨rfl, rfl⟩
         rw [HW3.out]
         clear R3))
    refine bodyPost_ret (v := .tuple #[.agg #[.int .i64 0, .int .i64 0, .int .i64 0, .int .i64 0, .int .i64 0, .int .i64 0, .bool false], .bool false]) ?_ rfl ?_
    · simp [results, Tryz.results8, go_sem, HB0.out.cell, HB0.out.lt]
    rw [HE.out]
    refine ⟨rfl, ?_⟩
    have hB := HZ.out
    repeat (first | with_reducible exact hB | with_reducible exact below_drewN hB _ | refine Below.setCell ?_ (by simp) _)
  have g2 : ¬ (1073741824 : Int) ≤ V2 := by omega
  have HN2 := Lib.hid h
  rcases hz2 with ⟨hz2, rfl⟩ | ⟨hz2, g3⟩
  · by_cases h : 1099511627776 < V3
    · rw [if_pos (by first | exact .inl h | exact .inr (.inl h) | exact .inr (.inr h))] at hRR
      have HE : Hid (RR = none) := hRR.symm
      have g3 : (1099511627776 : Int) < V3 := by omega
      have g4 : ¬ (V3 : Int) < 0 := by omega
      clear hRR hA hn
      go_wp2_with (first
        | (go_at_call 16
           have zz := R1
           clear zz
           refine (valueQ_any _ 4 _ x1 _ (R1.out.below HZ.out |>.mono HZ.out.size) Hl1.out (by omega)).mono ?_
           rintro e w1 ⟨rfl, rfl⟩
           rw [HW1.out]
           clear R1)
        | (go_at_call 16
           have zz := R2
           clear zz
           refine (valueQ_any _ 4 _ x2 _ (R2.out.below HZ.out |>.mono HZ.out.size) Hl2.out (by omega)).mono ?_
           rintro e w2 ⟨rfl, rfl⟩
           rw [HW2.out]
           clear R2)
        | (go_at_call 16
           have zz := R3
           clear zz
           refine (valueQ_any _ 8 _ x3 _ (R3.out.below HZ.out |>.mono HZ.out.size) Hl3.out (by omega)).mono ?_
           rintro e w3 ⟨rfl, rfl⟩
           rw [HW3.out]
           clear R3))
      refine bodyPost_ret (v := .tuple #[.agg #[.int .i64 0, .int .i64 0, .int .i64 0, .int .i64 0, .int .i64 0, .int .i64 0, .bool false], .bool false]) ?_ rfl ?_
      · simp [results, Tryz.results8, go_sem, HB0.out.cell, HB0.out.lt]
      rw [HE.out]
      refine ⟨rfl, ?_⟩
      have hB := HZ.out
      repeat (first | with_reducible exact hB | with_reducible exact below_drewN hB _ | refine Below.setCell ?_ (by simp) _)
    have g3 : ¬ (1099511627776 : Int) < V3 := by omega
    have g4 : ¬ (V3 : Int) < 0 := by omega
    have hw1 : IntKind.i64.wrap ((V3 : Int) - 1) = (V3 : Int) - 1 := IntWalk.i64_in _ (by omega)
    rw [if_neg (by rintro (e | e | e); exact HN1.out e; exact HN2.out e; exact h e)] at hRR
    have HH := Lib.hid (headOf_any V1 V2 V3)
    have d1 : decide ((1073741824 : Int) ≤ V1) = false := decide_eq_false g1
    have d2 : decide ((1073741824 : Int) ≤ V2) = false := decide_eq_false g2
    have d3 : decide ((V3 : Int) < 0) = false := decide_eq_false g4
    have d4 : decide ((1099511627776 : Int) < V3) = false := decide_eq_false g3
    by_cases hs : headB csum V1 V2 V3 = xt
    · rw [if_pos hs] at hRR
      have HE : Hid (RR = some ⟨V1, V2, V3, 21, 0, (V3 : Int) - 1, false⟩) := hRR.symm
      have HD : Hid (decide (headB csum V1 V2 V3 = xt) = true) := decide_eq_true hs
      clear hRR hA hn hs hz2
      go_wp2_with (first
        | (go_at_call 16
           have zz := R1
           clear zz
           refine (valueQ_any _ 4 _ x1 _ (R1.out.below HZ.out |>.mono HZ.out.size) Hl1.out (by omega)).mono ?_
           rintro e w1 ⟨rfl, rfl⟩
           rw [HW1.out]
           clear R1)
        | (go_at_call 16
           have zz := R2
           clear zz
           refine (valueQ_any _ 4 _ x2 _ (R2.out.below HZ.out |>.mono HZ.out.size) Hl2.out (by omega)).mono ?_
           rintro e w2 ⟨rfl, rfl⟩
           rw [HW2.out]
           clear R2)
        | (go_at_call 16
           have zz := R3
           clear zz
           refine (valueQ_any _ 8 _ x3 _ (R3.out.below HZ.out |>.mono HZ.out.size) Hl3.out (by omega)).mono ?_
           rintro e w3 ⟨rfl, rfl⟩
           rw [HW3.out]
           clear R3)
        | (go_at_call 17
           refine (HH.out _ (by omega) (by omega) (by omega)).mono ?_
           rintro e w2 ⟨b2, c2, rfl, ho, hb⟩
           have hbx := HB0.out.below hb HB0.out.lt
           have hzc := hbx.cell
           have hzf := hbx.free
           have hzl := hbx.lt
           have H2 := Lib.hid (And.intro (ownsRow_rd ho) (HZ.out.trans (hb.mono (by simp))))
           clear ho hb hbx)
        | (go_at_call 11
           refine (same5_any _ _ _ _ 21 c (headB csum V1 V2 V3) xt _ H2.out.1 (headB_len V1 V2 V3) ((HT.out.below H2.out.2).mono H2.out.2.size) HTL.out (by omega) (by omega)).mono ?_
           rintro e w4 ⟨rfl, m, rfl⟩
           rw [HD.out]))
      refine bodyPost_ret (v := .tuple #[.agg #[.int .i64 V1, .int .i64 V2, .int .i64 V3, .int .i64 21, .int .i64 0, .int .i64 ((V3 : Int) - 1), .bool false], .bool true]) ?_ rfl ?_
      · simp [results, Tryz.results8, go_sem, hzc, hzl]
      rw [HE.out]
      refine ⟨rfl, ?_⟩
      have hB := below_drewN H2.out.2 m
      repeat (first | with_reducible exact hB | with_reducible exact below_drewN hB _ | refine Below.setCell ?_ (by simp) _)
    rw [if_neg hs] at hRR
    have HE : Hid (RR = none) := hRR.symm
    have HD : Hid (decide (headB csum V1 V2 V3 = xt) = false) := decide_eq_false hs
    clear hRR hA hn hs hz2
    go_wp2_with (first
      | (go_at_call 16
         have zz := R1
         clear zz
         refine (valueQ_any _ 4 _ x1 _ (R1.out.below HZ.out |>.mono HZ.out.size) Hl1.out (by omega)).mono ?_
         rintro e w1 ⟨rfl, rfl⟩
         rw [HW1.out]
         clear R1)
      | (go_at_call 16
         have zz := R2
         clear zz
         refine (valueQ_any _ 4 _ x2 _ (R2.out.below HZ.out |>.mono HZ.out.size) Hl2.out (by omega)).mono ?_
         rintro e w2 ⟨rfl, rfl⟩
         rw [HW2.out]
         clear R2)
      | (go_at_call 16
         have zz := R3
         clear zz
         refine (valueQ_any _ 8 _ x3 _ (R3.out.below HZ.out |>.mono HZ.out.size) Hl3.out (by omega)).mono ?_
         rintro e w3 ⟨rfl, rfl⟩
         rw [HW3.out]
         clear R3)
      | (go_at_call 17
         refine (HH.out _ (by omega) (by omega) (by omega)).mono ?_
         rintro e w2 ⟨b2, c2, rfl, ho, hb⟩
         have hbx := HB0.out.below hb HB0.out.lt
         have hzc := hbx.cell
         have hzf := hbx.free
         have hzl := hbx.lt
         have H2 := Lib.hid (And.intro (ownsRow_rd ho) (HZ.out.trans (hb.mono (by simp))))
         clear ho hb hbx)
      | (go_at_call 11
         refine (same5_any _ _ _ _ 21 c (headB csum V1 V2 V3) xt _ H2.out.1 (headB_len V1 V2 V3) ((HT.out.below H2.out.2).mono H2.out.2.size) HTL.out (by omega) (by omega)).mono ?_
         rintro e w4 ⟨rfl, m, rfl⟩
         rw [HD.out]))
    refine bodyPost_ret (v := .tuple #[.agg #[.int .i64 0, .int .i64 0, .int .i64 0, .int .i64 0, .int .i64 0, .int .i64 0, .bool false], .bool false]) ?_ rfl ?_
    · simp [results, Tryz.results8, go_sem, hzc, hzl]
    rw [HE.out]
    refine ⟨rfl, ?_⟩
    have hB := below_drewN H2.out.2 m
    repeat (first | with_reducible exact hB | with_reducible exact below_drewN hB _ | refine Below.setCell ?_ (by simp) _)
  have h : 1099511627776 < V3 := by omega
  rw [if_pos (by first | exact .inl h | exact .inr (.inl h) | exact .inr (.inr h))] at hRR
  have HE : Hid (RR = none) := hRR.symm
  clear hRR hA hn
  go_wp2_with (first
    | (go_at_call 16
       have zz := R1
       clear zz
       refine (valueQ_any _ 4 _ x1 _ (R1.out.below HZ.out |>.mono HZ.out.size) Hl1.out (by omega)).mono ?_
       rintro e w1 ⟨rfl, rfl⟩
       rw [HW1.out]
       clear R1)
    | (go_at_call 16
       have zz := R2
       clear zz
       refine (valueQ_any _ 4 _ x2 _ (R2.out.below HZ.out |>.mono HZ.out.size) Hl2.out (by omega)).mono ?_
       rintro e w2 ⟨rfl, rfl⟩
       rw [HW2.out]
       clear R2)
    | (go_at_call 16
       have zz := R3
       clear zz
       refine (valueQ_any _ 8 _ x3 _ (R3.out.below HZ.out |>.mono HZ.out.size) Hl3.out (by omega)).mono ?_
       rintro e w3 ⟨rfl, rfl⟩
       rw [HW3.out]
       clear R3))
  refine bodyPost_ret (v := .tuple #[.agg #[.int .i64 0, .int .i64 0, .int .i64 0, .int .i64 0, .int .i64 0, .int .i64 0, .bool false], .bool false]) ?_ rfl ?_
  · simp [results, Tryz.results8, go_sem, HB0.out.cell, HB0.out.lt]
  rw [HE.out]
  refine ⟨rfl, ?_⟩
  have hB := HZ.out
  repeat (first | with_reducible exact hB | with_reducible exact below_drewN hB _ | refine Below.setCell ?_ (by simp) _)
end Go.Proofs.YtmhlgbpgdhhfnaaGreat
