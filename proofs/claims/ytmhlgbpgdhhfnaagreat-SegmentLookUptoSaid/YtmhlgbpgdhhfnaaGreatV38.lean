import Derived.Test.YtmhlgbpgdhhfnaaGreatV35
import Derived.Test.YtmhlgbpgdhhfnaaGreatV36
import Derived.Test.YtmhlgbpgdhhfnaaGreatV34
set_option linter.unusedVariables false
set_option linter.unusedSimpArgs false
namespace Go.Proofs.YtmhlgbpgdhhfnaaGreat
open Go.RowKit Go.Maps Sqz

/-! segment.heading -/
theorem octRU32v (p V : Nat) (l : List UInt8) (s s' : RSt) (w : World) (h : ORd w p l s) (hV : fxN (tkS 4 l s).1 = V) (hs : (tkS 4 l s).2 = s') (hmx : l.length ≤ 140737488355328) :
    Calls Tryz.prog 26 #[.pointer (some ⟨p, 0, none⟩)] w fun e w' => e = .returned (.int .u32 V) ∧ RAft p l s' w w' := by
  subst hV hs
  exact octRU32 p l s w h hmx
theorem octRU64v (p V : Nat) (l : List UInt8) (s s' : RSt) (w : World) (h : ORd w p l s) (hV : fxN (tkS 8 l s).1 = V) (hs : (tkS 8 l s).2 = s') (hmx : l.length ≤ 140737488355328) :
    Calls Tryz.prog 27 #[.pointer (some ⟨p, 0, none⟩)] w fun e w' => e = .returned (.int .u64 V) ∧ RAft p l s' w w' := by
  subst hV hs
  exact octRU64 p l s w h hmx
/-- Where heading's reader p stands; z: its answer's variable. -/
structure HR (w w' : World) (z p : Nat) (l : List UInt8) (s : RSt) : Prop where
  rd : ORd w' p l s
  bz : Box w' z 24 #[.int .i64 0, .int .i64 0, .int .i64 0, .int .i64 0, .int .i64 0, .int .i64 0, .bool false]
  hz : z < p
  hw : w.heap.size ≤ z
  bel : Below w.heap.size w w'
theorem HR.aft {w w1 w2 : World} {z p : Nat} {l : List UInt8} {s s' : RSt} (h : HR w w1 z p l s) (ha : RAft p l s' w1 w2) : HR w w2 z p l s' :=
  ⟨ha.1, h.bz.chg ha.2 (by have := h.hz; omega), h.hz, h.hw, h.bel.trans (ha.2.below h.bel.size fun k hk => by have := h.hz; have := h.hw; omega)⟩
theorem HR.on {w w1 w2 : World} {z p : Nat} {l : List UInt8} {s : RSt} (h : HR w w1 z p l s) (hb : Below w1.heap.size w1 w2) : HR w w2 z p l s :=
  ⟨h.rd.below hb, h.bz.below hb h.bz.lt, h.hz, h.hw, h.bel.trans (hb.mono h.bel.size)⟩
set_option maxRecDepth 100000 in
set_option maxHeartbeats 8000000 in
theorem heading_any (A : Option Addr) (n c : Nat) (b : List UInt8) (w : World) (hA : Rd w w.heap.size A (bv b)) (hn : b.length = n) (hc : n ≤ c) (hmx : n ≤ 1000000000) :
    Calls Tryz.prog 12 #[.slice A n c] w fun e w' => e = .returned (HIv (headR csum b)) ∧ Below w.heap.size w w' := by
  rw [← head_same csum_lt b]
  have HZ : Hid (Below w.heap.size w (w.alloc (.cells #[.int .i64 0, .int .i64 0, .int .i64 0, .int .i64 0, .int .i64 0, .int .i64 0, .bool false] 24))) := (Below.refl _ _).alloc (Nat.le_refl _) _
  have HB0 : Hid (Box (w.alloc (.cells #[.int .i64 0, .int .i64 0, .int .i64 0, .int .i64 0, .int .i64 0, .int .i64 0, .bool false] 24)) w.heap.size 24 #[.int .i64 0, .int .i64 0, .int .i64 0, .int .i64 0, .int .i64 0, .int .i64 0, .bool false]) := Box.new w _ _
  have HL := Lib.hid hn
  have HA := Lib.hid hA
  generalize hRR : headP csum b = RR
  unfold headP at hRR
  go_enter Tryz.func12, Tryz.ntmps12
  by_cases hlt : n < 21
  · rw [if_pos (by omega)] at hRR
    have HE : Hid (RR = none) := hRR.symm
    have h1 : (n : Int) < 21 := by omega
    clear hRR hA hn
    go_wp2
    refine bodyPost_ret (v := .tuple #[.agg #[.int .i64 0, .int .i64 0, .int .i64 0, .int .i64 0, .int .i64 0, .int .i64 0, .bool false], .bool false]) ?_ rfl ?_
    · simp [results, Tryz.results12, go_sem, HB0.out.cell, HB0.out.lt]
    rw [HE.out]
    refine ⟨rfl, ?_⟩
    have hB := HZ.out
    repeat (first | with_reducible exact hB | with_reducible exact below_drewN hB _ | with_reducible refine Below.setCell ?_ (by simp) _)
  rw [if_neg (by omega)] at hRR
  simp only at hRR
  have h1 : ¬ (n : Int) < 21 := by omega
  have HT : Hid (Rd w w.heap.size A (bv (b.take 21))) := hA.take_ 21
  have HTL : Hid ((b.take 21).length = 21) := by show _ = _; rw [List.length_take]; omega
  have HT17 : Hid (Rd w w.heap.size A (bv (b.take 17))) := hA.take_ 17
  have HTL17 : Hid ((b.take 17).length = 17) := by show _ = _; rw [List.length_take]; omega
  have hs1 : ∀ W, (Instr.slice 22 (.slice A n c) none (some (.int .i64 21)) (some (.int .i64 21))).run Tryz.prog W = .ok (.slice A 21 21) W := fun W => run_hm2 W A n c 21 21 rfl (by omega)
  have hs2 : ∀ W, (Instr.slice 22 (.slice A n c) none (some (.int .i64 17)) (some (.int .i64 17))).run Tryz.prog W = .ok (.slice A 17 17) W := fun W => run_hm2 W A n c 17 17 rfl (by omega)
  have hsub : ∀ k m, k + m ≤ 21 → ((b.take 21).drop k).take m = (b.drop k).take m := fun k m hk => by
    rw [List.drop_take, List.take_take, Nat.min_eq_left (by omega)]
  have htk : ∀ k m, k + m ≤ 21 → tkS m (b.take 21) ⟨k, false⟩ = ((b.drop k).take m, ⟨k + m, false⟩) := fun k m hk => by
    rw [tkS_ok rfl (by show k + m ≤ _; rw [List.length_take]; omega)]
    rw [show ((⟨k, false⟩ : RSt).at_) = k from rfl, hsub k m hk]
  have HBY : Hid (byS (b.take 21) ⟨0, false⟩ = ((hd0 (b.take 1)).toNat, ⟨1, false⟩)) := by
    show _ = _
    rw [byS_tk _ _ (Nat.zero_le _), htk 0 1 (by omega)]
    rfl
  have T1 := htk 1 4 (by omega)
  have T2 := htk 5 4 (by omega)
  have T3 := htk 9 8 (by omega)
  have T4 := htk 17 4 (by omega)
  have hd : b.take 1 = [173] ↔ (hd0 (b.take 1)).toNat = 173 := by
    cases b with
    | nil => simp at hn; omega
    | cons y r =>
      simp only [List.take_succ_cons, List.take_zero, List.cons.injEq, and_true]
      show _ ↔ y.toNat = 173
      exact ⟨fun h => by rw [h]; rfl, fun h => UInt8.toNat_inj.1 h⟩
  simp only [ne_eq, hd] at hRR
  clear hd hsub htk
  have l1 : ((b.drop 1).take 4).length = 4 := by rw [List.length_take, List.length_drop]; omega
  have l2 : ((b.drop 5).take 4).length = 4 := by rw [List.length_take, List.length_drop]; omega
  have l3 : ((b.drop 9).take 8).length = 8 := by rw [List.length_take, List.length_drop]; omega
  have l4 : ((b.drop 17).take 4).length = 4 := by rw [List.length_take, List.length_drop]; omega
  generalize b.take 21 = xt at HT HTL HBY T1 T2 T3 T4
  have hul := (hd0 (b.take 1)).toNat_lt
  generalize (hd0 (b.take 1)).toNat = U at HBY hRR hul
  generalize (b.drop 1).take 4 = x1 at hRR l1 T1
  generalize (b.drop 5).take 4 = x2 at hRR l2 T2
  generalize (b.drop 9).take 8 = x3 at hRR l3 T3
  generalize (b.drop 17).take 4 = x4 at hRR l4 T4
  have v1 := val4_lt4 x1 l1
  have v2 := val4_lt4 x2 l2
  have v3 := val4_lt8 x3 l3
  have v4 := val4_lt4 x4 l4
  have H1 : Hid (fxN (tkS 4 xt ⟨1, false⟩).1 = val4 x1 ∧ (tkS 4 xt ⟨1, false⟩).2 = ⟨5, false⟩) := by show _ ∧ _; rw [T1]; exact ⟨rfl, rfl⟩
  have H2 : Hid (fxN (tkS 4 xt ⟨5, false⟩).1 = val4 x2 ∧ (tkS 4 xt ⟨5, false⟩).2 = ⟨9, false⟩) := by show _ ∧ _; rw [T2]; exact ⟨rfl, rfl⟩
  have H3 : Hid (fxN (tkS 8 xt ⟨9, false⟩).1 = val4 x3 ∧ (tkS 8 xt ⟨9, false⟩).2 = ⟨17, false⟩) := by show _ ∧ _; rw [T3]; exact ⟨rfl, rfl⟩
  have H4 : Hid (fxN (tkS 4 xt ⟨17, false⟩).1 = val4 x4 ∧ (tkS 4 xt ⟨17, false⟩).2 = ⟨21, false⟩) := by show _ ∧ _; rw [T4]; exact ⟨rfl, rfl⟩
  obtain ⟨V1, hV1⟩ : ∃ V, val4 x1 = V := ⟨_, rfl⟩
  obtain ⟨V2, hV2⟩ : ∃ V, val4 x2 = V := ⟨_, rfl⟩
  obtain ⟨V3, hV3⟩ : ∃ V, val4 x3 = V := ⟨_, rfl⟩
  obtain ⟨V4, hV4⟩ : ∃ V, val4 x4 = V := ⟨_, rfl⟩
  rw [hV1] at hRR v1 H1
  rw [hV2] at hRR v2 H2
  rw [hV3] at hRR v3 H3
  rw [hV4] at hRR v4 H4
  have HCS : Hid (crcE 0 (b.take 17) = csum (b.take 17)) := rfl
  obtain ⟨cs, hcs⟩ : ∃ cs, csum (b.take 17) = cs := ⟨_, rfl⟩
  rw [hcs] at hRR HCS
  clear hV1 hV2 hV3 hV4 l1 l2 l3 l4 T1 T2 T3 T4 hcs hA hn
  by_cases h : ¬ U = 173
  · rw [if_pos (by first | exact .inl h | exact .inr (.inl h) | exact .inr (.inr (.inl h)) | exact .inr (.inr (.inr (.inl h))) | exact .inr (.inr (.inr (.inr h)))) ] at hRR
    have HE : Hid (RR = none) := hRR.symm
    have d0 : ((U : Int) != 173) = true := by simp; omega
    clear h
    clear hRR
    go_wp2_with (first
      | (go_at_call 24
         refine (octNewR A 21 21 xt _ (HT.out.below HZ.out |>.mono HZ.out.size) HTL.out (by omega)).mono ?_
         rintro e w1 ⟨p, rfl, hr, hp, hb⟩
         have S0 : Hid (HR w w1 w.heap.size p xt ⟨0, false⟩) := ⟨hr, HB0.out.below hb HB0.out.lt, by simp at hp; omega, Nat.le_refl _, HZ.out.trans (hb.mono (by simp))⟩
         clear hr hp hb)
      | (go_at_call 25
         refine (octByteD p U xt ⟨0, false⟩ ⟨1, false⟩ _ S0.out.rd HBY.out (by rw [HTL.out]; omega)).mono ?_
         rintro e w2 ⟨rfl, h⟩
         have S1 := Lib.hid (S0.out.aft h)
         have hzc := S1.out.bz.cell
         have hzf := S1.out.bz.free
         have hzl := S1.out.bz.lt
         clear h S0)
      | (go_at_call 26
         have zz := S1
         clear zz
         refine (octRU32v p V1 xt ⟨1, false⟩ ⟨5, false⟩ _ S1.out.rd H1.out.1 H1.out.2 (by rw [HTL.out]; omega)).mono ?_
         rintro e w3 ⟨rfl, h⟩
         have S2 := Lib.hid (S1.out.aft h)
         have hzc := S2.out.bz.cell
         have hzf := S2.out.bz.free
         have hzl := S2.out.bz.lt
         clear h S1)
      | (go_at_call 26
         have zz := S2
         clear zz
         refine (octRU32v p V2 xt ⟨5, false⟩ ⟨9, false⟩ _ S2.out.rd H2.out.1 H2.out.2 (by rw [HTL.out]; omega)).mono ?_
         rintro e w4 ⟨rfl, h⟩
         have S3 := Lib.hid (S2.out.aft h)
         have hzc := S3.out.bz.cell
         have hzf := S3.out.bz.free
         have hzl := S3.out.bz.lt
         clear h S2)
      | (go_at_call 27
         have zz := S3
         clear zz
         refine (octRU64v p V3 xt ⟨9, false⟩ ⟨17, false⟩ _ S3.out.rd H3.out.1 H3.out.2 (by rw [HTL.out]; omega)).mono ?_
         rintro e w5 ⟨rfl, h⟩
         have S4 := Lib.hid (S3.out.aft h)
         have hzc := S4.out.bz.cell
         have hzf := S4.out.bz.free
         have hzl := S4.out.bz.lt
         clear h S3)
      | (go_at_call 26
         have zz := S4
         clear zz
         refine (octRU32v p V4 xt ⟨17, false⟩ ⟨21, false⟩ _ S4.out.rd H4.out.1 H4.out.2 (by rw [HTL.out]; omega)).mono ?_
         rintro e w6 ⟨rfl, h⟩
         have S5 := Lib.hid (S4.out.aft h)
         have hzc := S5.out.bz.cell
         have hzf := S5.out.bz.free
         have hzl := S5.out.bz.lt
         clear h S4))
    refine bodyPost_ret (v := .tuple #[.agg #[.int .i64 0, .int .i64 0, .int .i64 0, .int .i64 0, .int .i64 0, .int .i64 0, .bool false], .bool false]) ?_ rfl ?_
    · simp [results, Tryz.results12, go_sem, hzc, hzl]
    rw [HE.out]
    refine ⟨rfl, ?_⟩
    have hB := S5.out.bel
    repeat (first | with_reducible exact hB | with_reducible exact below_drewN hB _ | with_reducible refine Below.setCell ?_ (by simp) _)
  have N0 := Lib.hid h
  have d0 : ((U : Int) != 173) = false := by simp; omega
  clear h
  by_cases h : 1073741824 ≤ V1
  · rw [if_pos (by first | exact .inl h | exact .inr (.inl h) | exact .inr (.inr (.inl h)) | exact .inr (.inr (.inr (.inl h))) | exact .inr (.inr (.inr (.inr h)))) ] at hRR
    have HE : Hid (RR = none) := hRR.symm
    have d1 : decide ((1073741824 : Int) ≤ V1) = true := by simp; omega
    clear h
    clear hRR
    go_wp2_with (first
      | (go_at_call 24
         refine (octNewR A 21 21 xt _ (HT.out.below HZ.out |>.mono HZ.out.size) HTL.out (by omega)).mono ?_
         rintro e w1 ⟨p, rfl, hr, hp, hb⟩
         have S0 : Hid (HR w w1 w.heap.size p xt ⟨0, false⟩) := ⟨hr, HB0.out.below hb HB0.out.lt, by simp at hp; omega, Nat.le_refl _, HZ.out.trans (hb.mono (by simp))⟩
         clear hr hp hb)
      | (go_at_call 25
         refine (octByteD p U xt ⟨0, false⟩ ⟨1, false⟩ _ S0.out.rd HBY.out (by rw [HTL.out]; omega)).mono ?_
         rintro e w2 ⟨rfl, h⟩
         have S1 := Lib.hid (S0.out.aft h)
         have hzc := S1.out.bz.cell
         have hzf := S1.out.bz.free
         have hzl := S1.out.bz.lt
         clear h S0)
      | (go_at_call 26
         have zz := S1
         clear zz
         refine (octRU32v p V1 xt ⟨1, false⟩ ⟨5, false⟩ _ S1.out.rd H1.out.1 H1.out.2 (by rw [HTL.out]; omega)).mono ?_
         rintro e w3 ⟨rfl, h⟩
         have S2 := Lib.hid (S1.out.aft h)
         have hzc := S2.out.bz.cell
         have hzf := S2.out.bz.free
         have hzl := S2.out.bz.lt
         clear h S1)
      | (go_at_call 26
         have zz := S2
         clear zz
         refine (octRU32v p V2 xt ⟨5, false⟩ ⟨9, false⟩ _ S2.out.rd H2.out.1 H2.out.2 (by rw [HTL.out]; omega)).mono ?_
         rintro e w4 ⟨rfl, h⟩
         have S3 := Lib.hid (S2.out.aft h)
         have hzc := S3.out.bz.cell
         have hzf := S3.out.bz.free
         have hzl := S3.out.bz.lt
         clear h S2)
      | (go_at_call 27
         have zz := S3
         clear zz
         refine (octRU64v p V3 xt ⟨9, false⟩ ⟨17, false⟩ _ S3.out.rd H3.out.1 H3.out.2 (by rw [HTL.out]; omega)).mono ?_
         rintro e w5 ⟨rfl, h⟩
         have S4 := Lib.hid (S3.out.aft h)
         have hzc := S4.out.bz.cell
         have hzf := S4.out.bz.free
         have hzl := S4.out.bz.lt
         clear h S3)
      | (go_at_call 26
         have zz := S4
         clear zz
         refine (octRU32v p V4 xt ⟨17, false⟩ ⟨21, false⟩ _ S4.out.rd H4.out.1 H4.out.2 (by rw [HTL.out]; omega)).mono ?_
         rintro e w6 ⟨rfl, h⟩
         have S5 := Lib.hid (S4.out.aft h)
         have hzc := S5.out.bz.cell
         have hzf := S5.out.bz.free
         have hzl := S5.out.bz.lt
         clear h S4))
    refine bodyPost_ret (v := .tuple #[.agg #[.int .i64 0, .int .i64 0, .int .i64 0, .int .i64 0, .int .i64 0, .int .i64 0, .bool false], .bool false]) ?_ rfl ?_
    · simp [results, Tryz.results12, go_sem, hzc, hzl]
    rw [HE.out]
    refine ⟨rfl, ?_⟩
    have hB := S5.out.bel
    repeat (first | with_reducible exact hB | with_reducible exact below_drewN hB _ | with_reducible refine Below.setCell ?_ (by simp) _)
  have N1 := Lib.hid h
  have d1 : decide ((1073741824 : Int) ≤ V1) = false := by simp; omega
  clear h
  by_cases h : 1073741824 ≤ V2
  · rw [if_pos (by first | exact .inl h | exact .inr (.inl h) | exact .inr (.inr (.inl h)) | exact .inr (.inr (.inr (.inl h))) | exact .inr (.inr (.inr (.inr h)))) ] at hRR
    have HE : Hid (RR = none) := hRR.symm
    have d2 : decide ((1073741824 : Int) ≤ V2) = true := by simp; omega
    clear h
    clear hRR
    go_wp2_with (first
      | (go_at_call 24
         refine (octNewR A 21 21 xt _ (HT.out.below HZ.out |>.mono HZ.out.size) HTL.out (by omega)).mono ?_
         rintro e w1 ⟨p, rfl, hr, hp, hb⟩
         have S0 : Hid (HR w w1 w.heap.size p xt ⟨0, false⟩) := ⟨hr, HB0.out.below hb HB0.out.lt, by simp at hp; omega, Nat.le_refl _, HZ.out.trans (hb.mono (by simp))⟩
         clear hr hp hb)
      | (go_at_call 25
         refine (octByteD p U xt ⟨0, false⟩ ⟨1, false⟩ _ S0.out.rd HBY.out (by rw [HTL.out]; omega)).mono ?_
         rintro e w2 ⟨rfl, h⟩
         have S1 := Lib.hid (S0.out.aft h)
         have hzc := S1.out.bz.cell
         have hzf := S1.out.bz.free
         have hzl := S1.out.bz.lt
         clear h S0)
      | (go_at_call 26
         have zz := S1
         clear zz
         refine (octRU32v p V1 xt ⟨1, false⟩ ⟨5, false⟩ _ S1.out.rd H1.out.1 H1.out.2 (by rw [HTL.out]; omega)).mono ?_
         rintro e w3 ⟨rfl, h⟩
         have S2 := Lib.hid (S1.out.aft h)
         have hzc := S2.out.bz.cell
         have hzf := S2.out.bz.free
         have hzl := S2.out.bz.lt
         clear h S1)
      | (go_at_call 26
         have zz := S2
         clear zz
         refine (octRU32v p V2 xt ⟨5, false⟩ ⟨9, false⟩ _ S2.out.rd H2.out.1 H2.out.2 (by rw [HTL.out]; omega)).mono ?_
         rintro e w4 ⟨rfl, h⟩
         have S3 := Lib.hid (S2.out.aft h)
         have hzc := S3.out.bz.cell
         have hzf := S3.out.bz.free
         have hzl := S3.out.bz.lt
         clear h S2)
      | (go_at_call 27
         have zz := S3
         clear zz
         refine (octRU64v p V3 xt ⟨9, false⟩ ⟨17, false⟩ _ S3.out.rd H3.out.1 H3.out.2 (by rw [HTL.out]; omega)).mono ?_
         rintro e w5 ⟨rfl, h⟩
         have S4 := Lib.hid (S3.out.aft h)
         have hzc := S4.out.bz.cell
         have hzf := S4.out.bz.free
         have hzl := S4.out.bz.lt
         clear h S3)
      | (go_at_call 26
         have zz := S4
         clear zz
         refine (octRU32v p V4 xt ⟨17, false⟩ ⟨21, false⟩ _ S4.out.rd H4.out.1 H4.out.2 (by rw [HTL.out]; omega)).mono ?_
         rintro e w6 ⟨rfl, h⟩
         have S5 := Lib.hid (S4.out.aft h)
         have hzc := S5.out.bz.cell
         have hzf := S5.out.bz.free
         have hzl := S5.out.bz.lt
         clear h S4))
    refine bodyPost_ret (v := .tuple #[.agg #[.int .i64 0, .int .i64 0, .int .i64 0, .int .i64 0, .int .i64 0, .int .i64 0, .bool false], .bool false]) ?_ rfl ?_
    · simp [results, Tryz.results12, go_sem, hzc, hzl]
    rw [HE.out]
    refine ⟨rfl, ?_⟩
    have hB := S5.out.bel
    repeat (first | with_reducible exact hB | with_reducible exact below_drewN hB _ | with_reducible refine Below.setCell ?_ (by simp) _)
  have N2 := Lib.hid h
  have d2 : decide ((1073741824 : Int) ≤ V2) = false := by simp; omega
  clear h
  by_cases h : 1099511627776 < V3
  · rw [if_pos (by first | exact .inl h | exact .inr (.inl h) | exact .inr (.inr (.inl h)) | exact .inr (.inr (.inr (.inl h))) | exact .inr (.inr (.inr (.inr h)))) ] at hRR
    have HE : Hid (RR = none) := hRR.symm
    have d3 : decide ((1099511627776 : Int) < V3) = true := by simp; omega
    clear h
    clear hRR
    go_wp2_with (first
      | (go_at_call 24
         refine (octNewR A 21 21 xt _ (HT.out.below HZ.out |>.mono HZ.out.size) HTL.out (by omega)).mono ?_
         rintro e w1 ⟨p, rfl, hr, hp, hb⟩
         have S0 : Hid (HR w w1 w.heap.size p xt ⟨0, false⟩) := ⟨hr, HB0.out.below hb HB0.out.lt, by simp at hp; omega, Nat.le_refl _, HZ.out.trans (hb.mono (by simp))⟩
         clear hr hp hb)
      | (go_at_call 25
         refine (octByteD p U xt ⟨0, false⟩ ⟨1, false⟩ _ S0.out.rd HBY.out (by rw [HTL.out]; omega)).mono ?_
         rintro e w2 ⟨rfl, h⟩
         have S1 := Lib.hid (S0.out.aft h)
         have hzc := S1.out.bz.cell
         have hzf := S1.out.bz.free
         have hzl := S1.out.bz.lt
         clear h S0)
      | (go_at_call 26
         have zz := S1
         clear zz
         refine (octRU32v p V1 xt ⟨1, false⟩ ⟨5, false⟩ _ S1.out.rd H1.out.1 H1.out.2 (by rw [HTL.out]; omega)).mono ?_
         rintro e w3 ⟨rfl, h⟩
         have S2 := Lib.hid (S1.out.aft h)
         have hzc := S2.out.bz.cell
         have hzf := S2.out.bz.free
         have hzl := S2.out.bz.lt
         clear h S1)
      | (go_at_call 26
         have zz := S2
         clear zz
         refine (octRU32v p V2 xt ⟨5, false⟩ ⟨9, false⟩ _ S2.out.rd H2.out.1 H2.out.2 (by rw [HTL.out]; omega)).mono ?_
         rintro e w4 ⟨rfl, h⟩
         have S3 := Lib.hid (S2.out.aft h)
         have hzc := S3.out.bz.cell
         have hzf := S3.out.bz.free
         have hzl := S3.out.bz.lt
         clear h S2)
      | (go_at_call 27
         have zz := S3
         clear zz
         refine (octRU64v p V3 xt ⟨9, false⟩ ⟨17, false⟩ _ S3.out.rd H3.out.1 H3.out.2 (by rw [HTL.out]; omega)).mono ?_
         rintro e w5 ⟨rfl, h⟩
         have S4 := Lib.hid (S3.out.aft h)
         have hzc := S4.out.bz.cell
         have hzf := S4.out.bz.free
         have hzl := S4.out.bz.lt
         clear h S3)
      | (go_at_call 26
         have zz := S4
         clear zz
         refine (octRU32v p V4 xt ⟨17, false⟩ ⟨21, false⟩ _ S4.out.rd H4.out.1 H4.out.2 (by rw [HTL.out]; omega)).mono ?_
         rintro e w6 ⟨rfl, h⟩
         have S5 := Lib.hid (S4.out.aft h)
         have hzc := S5.out.bz.cell
         have hzf := S5.out.bz.free
         have hzl := S5.out.bz.lt
         clear h S4))
    refine bodyPost_ret (v := .tuple #[.agg #[.int .i64 0, .int .i64 0, .int .i64 0, .int .i64 0, .int .i64 0, .int .i64 0, .bool false], .bool false]) ?_ rfl ?_
    · simp [results, Tryz.results12, go_sem, hzc, hzl]
    rw [HE.out]
    refine ⟨rfl, ?_⟩
    have hB := S5.out.bel
    repeat (first | with_reducible exact hB | with_reducible exact below_drewN hB _ | with_reducible refine Below.setCell ?_ (by simp) _)
  have N3 := Lib.hid h
  have d3 : decide ((1099511627776 : Int) < V3) = false := by simp; omega
  clear h
  by_cases h : V4 ≠ cs
  · rw [if_pos (by first | exact .inl h | exact .inr (.inl h) | exact .inr (.inr (.inl h)) | exact .inr (.inr (.inr (.inl h))) | exact .inr (.inr (.inr (.inr h)))) ] at hRR
    have HE : Hid (RR = none) := hRR.symm
    have d4 : ((V4 : Int) != (cs : Int)) = true := by simp; omega
    clear h
    clear hRR
    go_wp2_with (first
      | (go_at_call 24
         refine (octNewR A 21 21 xt _ (HT.out.below HZ.out |>.mono HZ.out.size) HTL.out (by omega)).mono ?_
         rintro e w1 ⟨p, rfl, hr, hp, hb⟩
         have S0 : Hid (HR w w1 w.heap.size p xt ⟨0, false⟩) := ⟨hr, HB0.out.below hb HB0.out.lt, by simp at hp; omega, Nat.le_refl _, HZ.out.trans (hb.mono (by simp))⟩
         clear hr hp hb)
      | (go_at_call 25
         refine (octByteD p U xt ⟨0, false⟩ ⟨1, false⟩ _ S0.out.rd HBY.out (by rw [HTL.out]; omega)).mono ?_
         rintro e w2 ⟨rfl, h⟩
         have S1 := Lib.hid (S0.out.aft h)
         have hzc := S1.out.bz.cell
         have hzf := S1.out.bz.free
         have hzl := S1.out.bz.lt
         clear h S0)
      | (go_at_call 26
         have zz := S1
         clear zz
         refine (octRU32v p V1 xt ⟨1, false⟩ ⟨5, false⟩ _ S1.out.rd H1.out.1 H1.out.2 (by rw [HTL.out]; omega)).mono ?_
         rintro e w3 ⟨rfl, h⟩
         have S2 := Lib.hid (S1.out.aft h)
         have hzc := S2.out.bz.cell
         have hzf := S2.out.bz.free
         have hzl := S2.out.bz.lt
         clear h S1)
      | (go_at_call 26
         have zz := S2
         clear zz
         refine (octRU32v p V2 xt ⟨5, false⟩ ⟨9, false⟩ _ S2.out.rd H2.out.1 H2.out.2 (by rw [HTL.out]; omega)).mono ?_
         rintro e w4 ⟨rfl, h⟩
         have S3 := Lib.hid (S2.out.aft h)
         have hzc := S3.out.bz.cell
         have hzf := S3.out.bz.free
         have hzl := S3.out.bz.lt
         clear h S2)
      | (go_at_call 27
         have zz := S3
         clear zz
         refine (octRU64v p V3 xt ⟨9, false⟩ ⟨17, false⟩ _ S3.out.rd H3.out.1 H3.out.2 (by rw [HTL.out]; omega)).mono ?_
         rintro e w5 ⟨rfl, h⟩
         have S4 := Lib.hid (S3.out.aft h)
         have hzc := S4.out.bz.cell
         have hzf := S4.out.bz.free
         have hzl := S4.out.bz.lt
         clear h S3)
      | (go_at_call 26
         have zz := S4
         clear zz
         refine (octRU32v p V4 xt ⟨17, false⟩ ⟨21, false⟩ _ S4.out.rd H4.out.1 H4.out.2 (by rw [HTL.out]; omega)).mono ?_
         rintro e w6 ⟨rfl, h⟩
         have S5 := Lib.hid (S4.out.aft h)
         have hzc := S5.out.bz.cell
         have hzf := S5.out.bz.free
         have hzl := S5.out.bz.lt
         clear h S4)
      | (go_at_call 15
         refine (octSum A 17 17 (b.take 17) _ (HT17.out.below S5.out.bel |>.mono S5.out.bel.size) HTL17.out (by unfold maxLen; omega)).mono ?_
         rintro e w7 ⟨rfl, hb⟩
         rw [HCS.out]
         have S6 := Lib.hid (S5.out.on hb)
         have hzc := S6.out.bz.cell
         have hzf := S6.out.bz.free
         have hzl := S6.out.bz.lt
         clear hb))
    refine bodyPost_ret (v := .tuple #[.agg #[.int .i64 0, .int .i64 0, .int .i64 0, .int .i64 0, .int .i64 0, .int .i64 0, .bool false], .bool false]) ?_ rfl ?_
    · simp [results, Tryz.results12, go_sem, hzc, hzl]
    rw [HE.out]
    refine ⟨rfl, ?_⟩
    have hB := S6.out.bel
    repeat (first | with_reducible exact hB | with_reducible exact below_drewN hB _ | with_reducible refine Below.setCell ?_ (by simp) _)
  have N4 := Lib.hid h
  have d4 : ((V4 : Int) != (cs : Int)) = false := by simp; omega
  clear h
  rw [if_neg (by rintro (e | e | e | e | e); exact N0.out e; exact N1.out e; exact N2.out e; exact N3.out e; exact N4.out e)] at hRR
  have HE : Hid (RR = some ⟨V1, V2, V3, 21, 0, (V3 : Int) - 1, false⟩) := hRR.symm
  have hq1 : V1 < 1073741824 := Nat.lt_of_not_le N1.out
  have hq2 : V2 < 1073741824 := Nat.lt_of_not_le N2.out
  have hq3 : V3 ≤ 1099511627776 := Nat.le_of_not_lt N3.out
  have w1' : IntKind.i64.wrap (V1 : Int) = V1 := IntWalk.i64_in _ (by omega)
  have w2' : IntKind.i64.wrap (V2 : Int) = V2 := IntWalk.i64_in _ (by omega)
  have w3' : IntKind.i64.wrap (V3 : Int) = V3 := IntWalk.i64_in _ (by omega)
  have w4' : IntKind.i64.wrap ((V3 : Int) - 1) = (V3 : Int) - 1 := IntWalk.i64_in _ (by omega)
  clear hRR
  go_wp2_with (first
    | (go_at_call 24
       refine (octNewR A 21 21 xt _ (HT.out.below HZ.out |>.mono HZ.out.size) HTL.out (by omega)).mono ?_
       rintro e w1 ⟨p, rfl, hr, hp, hb⟩
       have S0 : Hid (HR w w1 w.heap.size p xt ⟨0, false⟩) := ⟨hr, HB0.out.below hb HB0.out.lt, by simp at hp; omega, Nat.le_refl _, HZ.out.trans (hb.mono (by simp))⟩
       clear hr hp hb)
    | (go_at_call 25
       refine (octByteD p U xt ⟨0, false⟩ ⟨1, false⟩ _ S0.out.rd HBY.out (by rw [HTL.out]; omega)).mono ?_
       rintro e w2 ⟨rfl, h⟩
       have S1 := Lib.hid (S0.out.aft h)
       have hzc := S1.out.bz.cell
       have hzf := S1.out.bz.free
       have hzl := S1.out.bz.lt
       clear h S0)
    | (go_at_call 26
       have zz := S1
       clear zz
       refine (octRU32v p V1 xt ⟨1, false⟩ ⟨5, false⟩ _ S1.out.rd H1.out.1 H1.out.2 (by rw [HTL.out]; omega)).mono ?_
       rintro e w3 ⟨rfl, h⟩
       have S2 := Lib.hid (S1.out.aft h)
       have hzc := S2.out.bz.cell
       have hzf := S2.out.bz.free
       have hzl := S2.out.bz.lt
       clear h S1)
    | (go_at_call 26
       have zz := S2
       clear zz
       refine (octRU32v p V2 xt ⟨5, false⟩ ⟨9, false⟩ _ S2.out.rd H2.out.1 H2.out.2 (by rw [HTL.out]; omega)).mono ?_
       rintro e w4 ⟨rfl, h⟩
       have S3 := Lib.hid (S2.out.aft h)
       have hzc := S3.out.bz.cell
       have hzf := S3.out.bz.free
       have hzl := S3.out.bz.lt
       clear h S2)
    | (go_at_call 27
       have zz := S3
       clear zz
       refine (octRU64v p V3 xt ⟨9, false⟩ ⟨17, false⟩ _ S3.out.rd H3.out.1 H3.out.2 (by rw [HTL.out]; omega)).mono ?_
       rintro e w5 ⟨rfl, h⟩
       have S4 := Lib.hid (S3.out.aft h)
       have hzc := S4.out.bz.cell
       have hzf := S4.out.bz.free
       have hzl := S4.out.bz.lt
       clear h S3)
    | (go_at_call 26
       have zz := S4
       clear zz
       refine (octRU32v p V4 xt ⟨17, false⟩ ⟨21, false⟩ _ S4.out.rd H4.out.1 H4.out.2 (by rw [HTL.out]; omega)).mono ?_
       rintro e w6 ⟨rfl, h⟩
       have S5 := Lib.hid (S4.out.aft h)
       have hzc := S5.out.bz.cell
       have hzf := S5.out.bz.free
       have hzl := S5.out.bz.lt
       clear h S4)
    | (go_at_call 15
       refine (octSum A 17 17 (b.take 17) _ (HT17.out.below S5.out.bel |>.mono S5.out.bel.size) HTL17.out (by unfold maxLen; omega)).mono ?_
       rintro e w7 ⟨rfl, hb⟩
       rw [HCS.out]
       have S6 := Lib.hid (S5.out.on hb)
       have hzc := S6.out.bz.cell
       have hzf := S6.out.bz.free
       have hzl := S6.out.bz.lt
       clear hb))
  refine bodyPost_ret (v := .tuple #[.agg #[.int .i64 V1, .int .i64 V2, .int .i64 V3, .int .i64 21, .int .i64 0, .int .i64 ((V3 : Int) - 1), .bool false], .bool true]) ?_ rfl ?_
  · simp [results, Tryz.results12, go_sem, hzc, hzl]
  rw [HE.out]
  refine ⟨rfl, ?_⟩
  have hB := S6.out.bel
  repeat (first | with_reducible exact hB | with_reducible exact below_drewN hB _ | with_reducible refine Below.setCell ?_ (by simp) _)
end Go.Proofs.YtmhlgbpgdhhfnaaGreat
namespace Go.Proofs.YtmhlgbpgdhhfnaaGreat
open Go.RowKit Go.Maps Sqz

/-! segment.tail -/
theorem wByteN (p F : Nat) (g : Option Nat) (v : Int) (w : World) (hF : F < 256) (hv : v = F) (h : Wrt w 85 p g []) :
    Calls Tryz.prog 31 #[.pointer (some ⟨p, 0, none⟩), .int .u8 v] w fun e w' =>
      e = .returned (.tuple #[]) ∧ ∃ g', Wrt w' 85 p g' [UInt8.ofNat F] ∧ Chg (fun k => k = p ∨ some k = g) w w' ∧ (g' = g ∨ ∃ k, g' = some k ∧ w.heap.size ≤ k) := by
  have := wByte p g [] (UInt8.ofNat F) w h (by simp)
  have e : ((UInt8.ofNat F).toNat : Int) = v := by rw [hv]; simp; omega
  rw [e] at this
  exact this
set_option maxRecDepth 100000 in
set_option maxHeartbeats 4000000 in
theorem tail_any (s : Nat) (i : Inf) (b : List UInt8) (w : World) (hs : csum b = s) (hc : i.count < 4294967296) :
    Calls Tryz.prog 14 #[.int .u32 s, .agg #[.int .i64 i.topic, .int .i64 i.num, .int .i64 i.base, .int .i64 i.size, .int .i64 i.count, .int .i64 i.last, .bool i.sealed]] w fun e w' => ∃ b' c', e = .returned (.slice b' 17 c') ∧ w'.ownsRow w.heap.size 5 1 (.slice b' 17 c') 17 (bv (tailS b i.count i.last)) ∧ Below w.heap.size w w' := by
  obtain ⟨topic, num, base, size, count, last, sealed⟩ := i
  simp only at hc ⊢
  have hsl : s < 4294967296 := hs ▸ csum_lt b
  have k1 : IntKind.u32.wrap (count : Int) = count := by rw [IntKind.wrap_u32]; omega
  have k2 : IntKind.u64.wrap last = (u64N last : Nat) := u64N_wrap last
  have k3 := u64N_lt last
  obtain ⟨w0, hw0⟩ : ∃ w0, w.alloc (.cells #[.int .i64 topic, .int .i64 num, .int .i64 base, .int .i64 size, .int .i64 count, .int .i64 last, .bool sealed] 24) = w0 := ⟨_, rfl⟩
  have HB0 : Hid (Box w0 w.heap.size 24 #[.int .i64 topic, .int .i64 num, .int .i64 base, .int .i64 size, .int .i64 count, .int .i64 last, .bool sealed]) := by rw [← hw0]; exact Box.new w _ _
  have HZ : Hid (Below w.heap.size w w0) := by rw [← hw0]; exact (Below.refl _ _).alloc (Nat.le_refl _) _
  have HZS : Hid (w0.heap.size = w.heap.size + 1) := by show _ = _; rw [← hw0]; simp
  have HTB : Hid ([UInt8.ofNat 174] ++ be32 count ++ be8 (u64N last) = tailB count last) := by
    show _ = _
    rw [be32_be4 count hc]
    rfl
  have HTS : ∀ x, csum (b ++ tailB count last) = x → Hid (tailB count last ++ be32 x = tailS b count last) := by
    rintro x hx
    show _ = _
    have hlt : x < 4294967296 := hx ▸ csum_lt _
    unfold tailS
    rw [be32_be4 _ hlt, hx]
  have HTL : Hid ((tailB count last).length = 13) := rfl
  have HTSL : Hid ((tailS b count last).length = 17) := rfl
  have hcs : crcE s (tailB count last) = csum (b ++ tailB count last) := by rw [← hs]; exact csum_app b (tailB count last)
  generalize u64N last = ll at k2 k3 HTB
  generalize tailB count last = tb at HTB HTS HTL hcs
  generalize tailS b count last = ts at HTS HTSL ⊢
  go_enter Tryz.func14, Tryz.ntmps14
  go_wp2_with (first
    | (go_at_call 30
       refine (wNew _).mono ?_
       rintro e w1 ⟨rfl, hw, hb⟩
       have S0 := Lib.hid (WS.new (Nat.le_refl _) hw hb)
       clear hw hb
       have hx := HB0.out.below S0.out.below (by have := HZS.out; omega)
       have hxc := hx.cell
       have hxf := hx.free
       have hxl := hx.lt
       clear hx)
    | (go_at_call 31
       have zz := S0
       clear zz
       refine (wByteN _ 174 _ _ _ (by omega) (by simp) S0.out.wr).mono ?_
       rintro e w2 ⟨rfl, g1, h1, h2, h3⟩
       have S1 := Lib.hid (S0.out.next h1 h2 h3)
       have hx := HB0.out.below S1.out.below (by have := HZS.out; omega)
       have hxc := hx.cell
       have hxf := hx.free
       have hxl := hx.lt
       clear hx h1 h2 h3 S0)
    | (go_at_call 32
       have zz := S1
       clear zz
       refine (wU32 _ _ _ count hc _ S1.out.wr (by simp)).mono ?_
       rintro e w3 ⟨rfl, g2, h1, h2, h3⟩
       have S2 := Lib.hid (S1.out.next h1 h2 h3)
       have hx := HB0.out.below S2.out.below (by have := HZS.out; omega)
       have hxc := hx.cell
       have hxf := hx.free
       have hxl := hx.lt
       clear hx h1 h2 h3 S1)
    | (go_at_call 33
       have zz := S2
       clear zz
       refine (wU64 _ _ _ ll k3 _ S2.out.wr (by simp [be32])).mono ?_
       rintro e w4 ⟨rfl, g3, h1, h2, h3⟩
       have S3 := Lib.hid (S2.out.next h1 h2 h3)
       have hx := HB0.out.below S3.out.below (by have := HZS.out; omega)
       have hxc := hx.cell
       have hxf := hx.free
       have hxl := hx.lt
       clear hx h1 h2 h3 S2)
    | (go_at_call 35
       have zz := S3
       clear zz
       refine (wBytesL _ _ _ tb 13 _ S3.out.wr HTB.out HTL.out (by omega)).mono ?_
       rintro e w5 ⟨b5, c5, rfl, ho, hb⟩
       have S4 := Lib.hid (S3.out.on hb)
       have O4 := Lib.hid (ownsRow_rd ho)
       clear ho hb S3)
    | (go_at_call 34
       refine (octExtend s hsl b5 13 c5 tb _ O4.out HTL.out (by unfold maxLen; omega)).mono ?_
       rintro e w6 ⟨rfl, hb⟩
       have S5 := Lib.hid (S4.out.on hb)
       obtain ⟨x, hx⟩ : ∃ x, crcE s tb = x := ⟨_, rfl⟩
       rw [hx]
       have hxl2 : x < 4294967296 := hx ▸ crcE_lt _ _
       have HE := HTS x (hcs.symm.trans hx)
       clear hb hx HTS hcs S4)
    | (go_at_call 32
       have zz := S5
       clear zz
       refine (wU32 _ _ _ x hxl2 _ S5.out.wr (by simp [be32, be8, be4])).mono ?_
       rintro e w7 ⟨rfl, g6, h1, h2, h3⟩
       have S6 := Lib.hid (S5.out.next h1 h2 h3)
       clear h1 h2 h3 S5)
    | (go_at_call 35
       have zz := S6
       clear zz
       refine (wBytesL _ _ _ ts 17 _ S6.out.wr (by rw [← HE.out, ← HTB.out]) HTSL.out (by omega)).mono ?_
       rintro e w8 ⟨b8, c8, rfl, ho, hb⟩
       have S7 := Lib.hid (S6.out.on hb)
       have hs6 := S6.out.below.size
       have O7 := Lib.hid ho
       clear ho hb S6))
  go_ret
  exact ⟨b8, c8, rfl, ownsRow_le O7.out (by have := HZS.out; omega), HZ.out.trans (S7.out.below.mono (by have := HZS.out; omega))⟩
end Go.Proofs.YtmhlgbpgdhhfnaaGreat
