import Derived.Test.YtbmbgkgjlnookaaDoorNq13
/- ManifestNames: the document's Parse is parseR. -/
namespace Go.Proofs.YtbmbgkgjlnookaaDoor
open Go.Shelf Go.RowKit

/-- The name is this candidate's. -/
def Fits (s : List UInt8) (c : FN) : Prop := nameN c ≠ [] ∧ nameN c = s
instance (s : List UInt8) (c : FN) : Decidable (Fits s c) := by unfold Fits; infer_instance
/-- None of the first i candidates is it. -/
def NoneOf (s : List UInt8) (i : Nat) : Prop := ∀ c ∈ (candsR s).take i, ¬ Fits s c
theorem none_zero (s : List UInt8) : NoneOf s 0 := by intro c h; simp at h
theorem none_next {s : List UInt8} {i : Nat} {c : FN} (h : NoneOf s i) (hc : (candsR s)[i]? = some c) (hn : ¬ Fits s c) : NoneOf s (i + 1) := by
  intro x hx
  rw [List.take_add_one, hc] at hx
  rcases List.mem_append.1 hx with hx | hx
  · exact h x hx
  · simp at hx; subst hx; exact hn
theorem parse_hit {s : List UInt8} {i : Nat} {c : FN} (h : NoneOf s i) (hc : (candsR s)[i]? = some c) (hy : Fits s c) : parseR s = c := by
  unfold parseR
  obtain ⟨hl, hg⟩ := List.getElem?_eq_some_iff.1 hc
  have hsp : candsR s = (candsR s).take i ++ c :: (candsR s).drop (i + 1) := by
    rw [← hg, ← List.drop_eq_getElem_cons hl, List.take_append_drop]
  rw [hsp, List.find?_append]
  have h0 : ((candsR s).take i).find? (fun c => decide (nameN c ≠ [] ∧ nameN c = s)) = none := by
    rw [List.find?_eq_none]
    intro x hx
    have := h x hx
    unfold Fits at this
    simpa using this
  rw [h0]
  have : decide (nameN c ≠ [] ∧ nameN c = s) = true := decide_eq_true hy
  simp only [List.find?_cons, this]
  rfl
theorem parse_miss {s : List UInt8} (h : NoneOf s 8) : parseR s = FN.zero := by
  unfold parseR
  have h0 : (candsR s).find? (fun c => decide (nameN c ≠ [] ∧ nameN c = s)) = none := by
    rw [List.find?_eq_none]
    intro x hx
    have hl : (candsR s).take 8 = candsR s := rfl
    have := h x (by rw [hl]; exact hx)
    unfold Fits at this
    simpa using this
  rw [h0]
  rfl
/-- What the two loops do, from the numbers on. -/
def LoopsDo (s : List UInt8) (id seg : Nat) : Prop := idsR s = (id, seg)
theorem dig_suffix : ∀ (a : Nat) (l : List UInt8), l.drop (l.length - (digR a l).2.length) = (digR a l).2 ∧ (digR a l).2.length ≤ l.length
  | a, [] => by simp [digR]
  | a, b :: r => by
    rw [digR]
    split
    · obtain ⟨h1, h2⟩ := dig_suffix (min (a * 10 + (b.toNat - 48)) 1073741824) r
      refine ⟨?_, by simp; omega⟩
      rw [List.length_cons, show r.length + 1 - (digR (min (a * 10 + (b.toNat - 48)) 1073741824) r).2.length = (r.length - (digR (min (a * 10 + (b.toNat - 48)) 1073741824) r).2.length) + 1 by omega, List.drop_succ_cons]
      exact h1
    · simp
set_option maxRecDepth 100000 in
set_option maxHeartbeats 8000000 in
theorem parseR_e (s : List UInt8) (hs1 : s = []) (w : World) :
    Calls Tryd.prog 8 #[.string ⟨s.toArray⟩] w fun e w' => e = .returned (FN.v (parseR s)) ∧ Below w.heap.size w w' := by
  have HI := Lib.hid (show idsR s = (0, 0) by rw [hs1]; rfl)
  obtain ⟨S, hS⟩ : ∃ S : ByteArray, (⟨s.toArray⟩ : ByteArray) = S := ⟨_, rfl⟩
  have HS := Lib.hid hS
  have hSz : S.size = s.length := by rw [← hS]; show s.toArray.size = _; simp
  have hSl : S.data.toList = s := by rw [← hS]
  have h01 : ¬ (0 : Int) < S.size := by rw [hSz, hs1]; simp
  clear hSz hSl
  rw [hS]
  clear hS
  have HB := Lib.hid (And.intro (Below.al w (.cells #[.int .i64 0, .int .i64 0, .int .i64 0, .bool false] 23)) (Box.new w 23 #[.int .i64 0, .int .i64 0, .int .i64 0, .bool false]))
  go_enter Tryd.func8, Tryd.ntmps8
  go_wp2_with fail
  go_loopw [9] (fun kv wr => ∃ k : Nat, 1 ≤ k ∧ k ≤ 5 ∧ kv = .int .i64 k ∧ Below w.heap.size w wr ∧ Box wr w.heap.size 23 #[.int .i64 0, .int .i64 0, .int .i64 0, .bool false] ∧ NoneOf s (2 * (k - 1))) (fun kv _ => 5 - (intOf kv).toNat)
  case atStart => exact ⟨1, by omega, by omega, rfl, HB.out.1, HB.out.2, none_zero s⟩
  case round =>
    clear HB
    obtain ⟨k, hk1, hk5, rfl, hb, hx2, hno⟩ := hrel
    have H0 := Lib.hid (And.intro hb (And.intro hx2 hno))
    clear hb hx2 hno
    by_cases hk : k = 5
    · subst hk
      rw [show ((5 : Nat) : Int) = 5 from rfl]
      have HP := Lib.hid (parse_miss H0.out.2.2)
      have hxc2 := H0.out.2.1.cell
      have hxf2 := H0.out.2.1.free
      have hxl2 := H0.out.2.1.lt
      go_wp2_with fail
      refine bodyPost_ret (v := FN.v FN.zero) ?_ rfl ?_
      · simp [results, Tryd.results8, go_sem, hxc2, FN.v, FN.zero]
      refine ⟨by rw [HP.out], ?_⟩
      repeat (first | with_reducible exact H0.out.1 | refine Below.setCell ?_ (by simp) _)
    rcases (show k = 1 ∨ k = 2 ∨ k = 3 ∨ k = 4 by omega) with rfl | rfl | rfl | rfl
    · clear hk hk1 hk5
      rw [show ((1 : Nat) : Int) = 1 from rfl]
      go_wp2_with fail
      go_loopw [10] (fun tv wr => ∃ t : Nat, t ≤ 2 ∧ tv = .int .i64 t ∧ Below w.heap.size w wr ∧ Box wr w.heap.size 23 #[.int .i64 0, .int .i64 0, .int .i64 0, .bool false] ∧ NoneOf s (0 + t)) (fun tv _ => 2 - (intOf tv).toNat)
      case atStart => exact ⟨0, by omega, rfl, H0.out.1, H0.out.2.1, H0.out.2.2⟩
      case round =>
        clear H0
        obtain ⟨t, ht, rfl, hb, hx2, hno⟩ := hrel
        rcases (show t = 0 ∨ t = 1 ∨ t = 2 by omega) with rfl | rfl | rfl
        · have H := Lib.hid (And.intro hb (And.intro hx2 hno))
          clear hb hx2 hno ht
          rw [show ((0 : Nat) : Int) = 0 from rfl]
          have hc : (candsR s)[0]? = some ⟨1, 0, 0, false⟩ := by
            show some (candR s 1 false) = _
            unfold candR
            rw [HI.out]
            simp
          have C := Lib.hid (nameR_any 1 0 0 false)
          have HC := Lib.hid hc
          clear hc
          generalize hnm : nameN ⟨1, 0, 0, false⟩ = nm at C
          have HM := Lib.hid hnm
          clear hnm
          obtain ⟨NM, hNM⟩ : ∃ S : ByteArray, (⟨nm.toArray⟩ : ByteArray) = S := ⟨_, rfl⟩
          rw [hNM] at C
          have HNM := Lib.hid hNM
          clear hNM
          have hx := Box.new wr 23 #[.int .i64 1, .int .i64 0, .int .i64 0, .bool false]
          have hbw := Below.al wr (.cells #[.int .i64 1, .int .i64 0, .int .i64 0, .bool false] 23)
          have HX := Lib.hid (And.intro hx (And.intro (H.out.1.trans (hbw.mono H.out.1.size)) (H.out.2.1.next hbw)))
          clear hx hbw
          by_cases hq0 : nm = []
          · have k1 : (NM.toList == []) = true := by rw [← HNM.out]; exact beq_yes2 hq0
            have HQ := Lib.hid hq0
            clear hq0
            go_wp2_with (first
                | (go_at_call 6
                   refine (C.out _).mono ?_
                   rintro e w5 ⟨rfl, hb5⟩
                   have hx := HX.out.1.next hb5
                   have hy := HX.out.2.2.next hb5
                   have hxc := hx.cell
                   have hxc2 := hy.cell
                   have hxf2 := hy.free
                   have hxl2 := hy.lt
                   have HY := Lib.hid (And.intro (HX.out.2.1.trans (hb5.mono HX.out.2.1.size)) (And.intro hx hy))
                   clear hb5 hx hy))
            go_roundw
            case rel => exact ⟨1, by omega, rfl, HY.out.1, HY.out.2.2, none_next H.out.2.2 HC.out (fun h => h.1 (HM.out.trans HQ.out))⟩
            case measure => simp [intOf]
          have k1 : (NM.toList == []) = false := by rw [← HNM.out]; exact beq_no2 hq0
          by_cases hq1 : nm = s
          · have k2 : (NM.toList == S.toList) = true := by rw [← HNM.out, ← HS.out]; exact beq_yes hq1
            have HP := Lib.hid (parse_hit H.out.2.2 HC.out ⟨fun e => hq0 (HM.out.symm.trans e), HM.out.trans hq1⟩)
            clear hq0 hq1
            go_wp2_with (first
                | (go_at_call 6
                   refine (C.out _).mono ?_
                   rintro e w5 ⟨rfl, hb5⟩
                   have hx := HX.out.1.next hb5
                   have hy := HX.out.2.2.next hb5
                   have hxc := hx.cell
                   have hxc2 := hy.cell
                   have hxf2 := hy.free
                   have hxl2 := hy.lt
                   have HY := Lib.hid (And.intro (HX.out.2.1.trans (hb5.mono HX.out.2.1.size)) (And.intro hx hy))
                   clear hb5 hx hy))
            refine bodyPost_ret (v := FN.v ⟨1, 0, 0, false⟩) ?_ rfl ?_
            · simp [results, Tryd.results8, go_sem, hxc2, FN.v]
            refine ⟨by rw [HP.out], ?_⟩
            repeat (first | with_reducible exact HY.out.1 | refine Below.setCell ?_ (by simp) _)
          · have k2 : (NM.toList == S.toList) = false := by rw [← HNM.out, ← HS.out]; exact beq_no hq1
            have HQ := Lib.hid hq1
            clear hq0 hq1
            go_wp2_with (first
                | (go_at_call 6
                   refine (C.out _).mono ?_
                   rintro e w5 ⟨rfl, hb5⟩
                   have hx := HX.out.1.next hb5
                   have hy := HX.out.2.2.next hb5
                   have hxc := hx.cell
                   have hxc2 := hy.cell
                   have hxf2 := hy.free
                   have hxl2 := hy.lt
                   have HY := Lib.hid (And.intro (HX.out.2.1.trans (hb5.mono HX.out.2.1.size)) (And.intro hx hy))
                   clear hb5 hx hy))
            go_roundw
            case rel => exact ⟨1, by omega, rfl, HY.out.1, HY.out.2.2, none_next H.out.2.2 HC.out (fun h => HQ.out (HM.out.symm.trans h.2))⟩
            case measure => simp [intOf]
        · have H := Lib.hid (And.intro hb (And.intro hx2 hno))
          clear hb hx2 hno ht
          rw [show ((1 : Nat) : Int) = 1 from rfl]
          have hc : (candsR s)[1]? = some ⟨1, 0, 0, true⟩ := by
            show some (candR s 1 true) = _
            unfold candR
            rw [HI.out]
            simp
          have C := Lib.hid (nameR_any 1 0 0 true)
          have HC := Lib.hid hc
          clear hc
          generalize hnm : nameN ⟨1, 0, 0, true⟩ = nm at C
          have HM := Lib.hid hnm
          clear hnm
          obtain ⟨NM, hNM⟩ : ∃ S : ByteArray, (⟨nm.toArray⟩ : ByteArray) = S := ⟨_, rfl⟩
          rw [hNM] at C
          have HNM := Lib.hid hNM
          clear hNM
          have hx := Box.new wr 23 #[.int .i64 1, .int .i64 0, .int .i64 0, .bool true]
          have hbw := Below.al wr (.cells #[.int .i64 1, .int .i64 0, .int .i64 0, .bool true] 23)
          have HX := Lib.hid (And.intro hx (And.intro (H.out.1.trans (hbw.mono H.out.1.size)) (H.out.2.1.next hbw)))
          clear hx hbw
          by_cases hq0 : nm = []
          · have k1 : (NM.toList == []) = true := by rw [← HNM.out]; exact beq_yes2 hq0
            have HQ := Lib.hid hq0
            clear hq0
            go_wp2_with (first
                | (go_at_call 6
                   refine (C.out _).mono ?_
                   rintro e w5 ⟨rfl, hb5⟩
                   have hx := HX.out.1.next hb5
                   have hy := HX.out.2.2.next hb5
                   have hxc := hx.cell
                   have hxc2 := hy.cell
                   have hxf2 := hy.free
                   have hxl2 := hy.lt
                   have HY := Lib.hid (And.intro (HX.out.2.1.trans (hb5.mono HX.out.2.1.size)) (And.intro hx hy))
                   clear hb5 hx hy))
            go_roundw
            case rel => exact ⟨2, by omega, rfl, HY.out.1, HY.out.2.2, none_next H.out.2.2 HC.out (fun h => h.1 (HM.out.trans HQ.out))⟩
            case measure => simp [intOf]
          have k1 : (NM.toList == []) = false := by rw [← HNM.out]; exact beq_no2 hq0
          by_cases hq1 : nm = s
          · have k2 : (NM.toList == S.toList) = true := by rw [← HNM.out, ← HS.out]; exact beq_yes hq1
            have HP := Lib.hid (parse_hit H.out.2.2 HC.out ⟨fun e => hq0 (HM.out.symm.trans e), HM.out.trans hq1⟩)
            clear hq0 hq1
            go_wp2_with (first
                | (go_at_call 6
                   refine (C.out _).mono ?_
                   rintro e w5 ⟨rfl, hb5⟩
                   have hx := HX.out.1.next hb5
                   have hy := HX.out.2.2.next hb5
                   have hxc := hx.cell
                   have hxc2 := hy.cell
                   have hxf2 := hy.free
                   have hxl2 := hy.lt
                   have HY := Lib.hid (And.intro (HX.out.2.1.trans (hb5.mono HX.out.2.1.size)) (And.intro hx hy))
                   clear hb5 hx hy))
            refine bodyPost_ret (v := FN.v ⟨1, 0, 0, true⟩) ?_ rfl ?_
            · simp [results, Tryd.results8, go_sem, hxc2, FN.v]
            refine ⟨by rw [HP.out], ?_⟩
            repeat (first | with_reducible exact HY.out.1 | refine Below.setCell ?_ (by simp) _)
          · have k2 : (NM.toList == S.toList) = false := by rw [← HNM.out, ← HS.out]; exact beq_no hq1
            have HQ := Lib.hid hq1
            clear hq0 hq1
            go_wp2_with (first
                | (go_at_call 6
                   refine (C.out _).mono ?_
                   rintro e w5 ⟨rfl, hb5⟩
                   have hx := HX.out.1.next hb5
                   have hy := HX.out.2.2.next hb5
                   have hxc := hx.cell
                   have hxc2 := hy.cell
                   have hxf2 := hy.free
                   have hxl2 := hy.lt
                   have HY := Lib.hid (And.intro (HX.out.2.1.trans (hb5.mono HX.out.2.1.size)) (And.intro hx hy))
                   clear hb5 hx hy))
            go_roundw
            case rel => exact ⟨2, by omega, rfl, HY.out.1, HY.out.2.2, none_next H.out.2.2 HC.out (fun h => HQ.out (HM.out.symm.trans h.2))⟩
            case measure => simp [intOf]
        · have H := Lib.hid (And.intro hb (And.intro hx2 hno))
          clear hb hx2 hno ht
          rw [show ((2 : Nat) : Int) = 2 from rfl]
          go_wp2_with fail
          go_roundw
          case rel => exact ⟨2, by omega, by omega, rfl, H.out.1, H.out.2.1, H.out.2.2⟩
          case measure => simp [intOf]
    · clear hk hk1 hk5
      rw [show ((2 : Nat) : Int) = 2 from rfl]
      go_wp2_with fail
      go_loopw [10] (fun tv wr => ∃ t : Nat, t ≤ 2 ∧ tv = .int .i64 t ∧ Below w.heap.size w wr ∧ Box wr w.heap.size 23 #[.int .i64 0, .int .i64 0, .int .i64 0, .bool false] ∧ NoneOf s (2 + t)) (fun tv _ => 2 - (intOf tv).toNat)
      case atStart => exact ⟨0, by omega, rfl, H0.out.1, H0.out.2.1, H0.out.2.2⟩
      case round =>
        clear H0
        obtain ⟨t, ht, rfl, hb, hx2, hno⟩ := hrel
        rcases (show t = 0 ∨ t = 1 ∨ t = 2 by omega) with rfl | rfl | rfl
        · have H := Lib.hid (And.intro hb (And.intro hx2 hno))
          clear hb hx2 hno ht
          rw [show ((0 : Nat) : Int) = 0 from rfl]
          have hc : (candsR s)[2]? = some ⟨2, 0, 0, false⟩ := by
            show some (candR s 2 false) = _
            unfold candR
            rw [HI.out]
            simp
          have C := Lib.hid (nameR_any 2 0 0 false)
          have HC := Lib.hid hc
          clear hc
          generalize hnm : nameN ⟨2, 0, 0, false⟩ = nm at C
          have HM := Lib.hid hnm
          clear hnm
          obtain ⟨NM, hNM⟩ : ∃ S : ByteArray, (⟨nm.toArray⟩ : ByteArray) = S := ⟨_, rfl⟩
          rw [hNM] at C
          have HNM := Lib.hid hNM
          clear hNM
          have hx := Box.new wr 23 #[.int .i64 2, .int .i64 0, .int .i64 0, .bool false]
          have hbw := Below.al wr (.cells #[.int .i64 2, .int .i64 0, .int .i64 0, .bool false] 23)
          have HX := Lib.hid (And.intro hx (And.intro (H.out.1.trans (hbw.mono H.out.1.size)) (H.out.2.1.next hbw)))
          clear hx hbw
          by_cases hq0 : nm = []
          · have k1 : (NM.toList == []) = true := by rw [← HNM.out]; exact beq_yes2 hq0
            have HQ := Lib.hid hq0
            clear hq0
            go_wp2_with (first
                | (go_at_call 6
                   refine (C.out _).mono ?_
                   rintro e w5 ⟨rfl, hb5⟩
                   have hx := HX.out.1.next hb5
                   have hy := HX.out.2.2.next hb5
                   have hxc := hx.cell
                   have hxc2 := hy.cell
                   have hxf2 := hy.free
                   have hxl2 := hy.lt
                   have HY := Lib.hid (And.intro (HX.out.2.1.trans (hb5.mono HX.out.2.1.size)) (And.intro hx hy))
                   clear hb5 hx hy))
            go_roundw
            case rel => exact ⟨1, by omega, rfl, HY.out.1, HY.out.2.2, none_next H.out.2.2 HC.out (fun h => h.1 (HM.out.trans HQ.out))⟩
            case measure => simp [intOf]
          have k1 : (NM.toList == []) = false := by rw [← HNM.out]; exact beq_no2 hq0
          by_cases hq1 : nm = s
          · have k2 : (NM.toList == S.toList) = true := by rw [← HNM.out, ← HS.out]; exact beq_yes hq1
            have HP := Lib.hid (parse_hit H.out.2.2 HC.out ⟨fun e => hq0 (HM.out.symm.trans e), HM.out.trans hq1⟩)
            clear hq0 hq1
            go_wp2_with (first
                | (go_at_call 6
                   refine (C.out _).mono ?_
                   rintro e w5 ⟨rfl, hb5⟩
                   have hx := HX.out.1.next hb5
                   have hy := HX.out.2.2.next hb5
                   have hxc := hx.cell
                   have hxc2 := hy.cell
                   have hxf2 := hy.free
                   have hxl2 := hy.lt
                   have HY := Lib.hid (And.intro (HX.out.2.1.trans (hb5.mono HX.out.2.1.size)) (And.intro hx hy))
                   clear hb5 hx hy))
            refine bodyPost_ret (v := FN.v ⟨2, 0, 0, false⟩) ?_ rfl ?_
            · simp [results, Tryd.results8, go_sem, hxc2, FN.v]
            refine ⟨by rw [HP.out], ?_⟩
            repeat (first | with_reducible exact HY.out.1 | refine Below.setCell ?_ (by simp) _)
          · have k2 : (NM.toList == S.toList) = false := by rw [← HNM.out, ← HS.out]; exact beq_no hq1
            have HQ := Lib.hid hq1
            clear hq0 hq1
            go_wp2_with (first
                | (go_at_call 6
                   refine (C.out _).mono ?_
                   rintro e w5 ⟨rfl, hb5⟩
                   have hx := HX.out.1.next hb5
                   have hy := HX.out.2.2.next hb5
                   have hxc := hx.cell
                   have hxc2 := hy.cell
                   have hxf2 := hy.free
                   have hxl2 := hy.lt
                   have HY := Lib.hid (And.intro (HX.out.2.1.trans (hb5.mono HX.out.2.1.size)) (And.intro hx hy))
                   clear hb5 hx hy))
            go_roundw
            case rel => exact ⟨1, by omega, rfl, HY.out.1, HY.out.2.2, none_next H.out.2.2 HC.out (fun h => HQ.out (HM.out.symm.trans h.2))⟩
            case measure => simp [intOf]
        · have H := Lib.hid (And.intro hb (And.intro hx2 hno))
          clear hb hx2 hno ht
          rw [show ((1 : Nat) : Int) = 1 from rfl]
          have hc : (candsR s)[3]? = some ⟨2, 0, 0, true⟩ := by
            show some (candR s 2 true) = _
            unfold candR
            rw [HI.out]
            simp
          have C := Lib.hid (nameR_any 2 0 0 true)
          have HC := Lib.hid hc
          clear hc
          generalize hnm : nameN ⟨2, 0, 0, true⟩ = nm at C
          have HM := Lib.hid hnm
          clear hnm
          obtain ⟨NM, hNM⟩ : ∃ S : ByteArray, (⟨nm.toArray⟩ : ByteArray) = S := ⟨_, rfl⟩
          rw [hNM] at C
          have HNM := Lib.hid hNM
          clear hNM
          have hx := Box.new wr 23 #[.int .i64 2, .int .i64 0, .int .i64 0, .bool true]
          have hbw := Below.al wr (.cells #[.int .i64 2, .int .i64 0, .int .i64 0, .bool true] 23)
          have HX := Lib.hid (And.intro hx (And.intro (H.out.1.trans (hbw.mono H.out.1.size)) (H.out.2.1.next hbw)))
          clear hx hbw
          by_cases hq0 : nm = []
          · have k1 : (NM.toList == []) = true := by rw [← HNM.out]; exact beq_yes2 hq0
            have HQ := Lib.hid hq0
            clear hq0
            go_wp2_with (first
                | (go_at_call 6
                   refine (C.out _).mono ?_
                   rintro e w5 ⟨rfl, hb5⟩
                   have hx := HX.out.1.next hb5
                   have hy := HX.out.2.2.next hb5
                   have hxc := hx.cell
                   have hxc2 := hy.cell
                   have hxf2 := hy.free
                   have hxl2 := hy.lt
                   have HY := Lib.hid (And.intro (HX.out.2.1.trans (hb5.mono HX.out.2.1.size)) (And.intro hx hy))
                   clear hb5 hx hy))
            go_roundw
            case rel => exact ⟨2, by omega, rfl, HY.out.1, HY.out.2.2, none_next H.out.2.2 HC.out (fun h => h.1 (HM.out.trans HQ.out))⟩
            case measure => simp [intOf]
          have k1 : (NM.toList == []) = false := by rw [← HNM.out]; exact beq_no2 hq0
          by_cases hq1 : nm = s
          · have k2 : (NM.toList == S.toList) = true := by rw [← HNM.out, ← HS.out]; exact beq_yes hq1
            have HP := Lib.hid (parse_hit H.out.2.2 HC.out ⟨fun e => hq0 (HM.out.symm.trans e), HM.out.trans hq1⟩)
            clear hq0 hq1
            go_wp2_with (first
                | (go_at_call 6
                   refine (C.out _).mono ?_
                   rintro e w5 ⟨rfl, hb5⟩
                   have hx := HX.out.1.next hb5
                   have hy := HX.out.2.2.next hb5
                   have hxc := hx.cell
                   have hxc2 := hy.cell
                   have hxf2 := hy.free
                   have hxl2 := hy.lt
                   have HY := Lib.hid (And.intro (HX.out.2.1.trans (hb5.mono HX.out.2.1.size)) (And.intro hx hy))
                   clear hb5 hx hy))
            refine bodyPost_ret (v := FN.v ⟨2, 0, 0, true⟩) ?_ rfl ?_
            · simp [results, Tryd.results8, go_sem, hxc2, FN.v]
            refine ⟨by rw [HP.out], ?_⟩
            repeat (first | with_reducible exact HY.out.1 | refine Below.setCell ?_ (by simp) _)
          · have k2 : (NM.toList == S.toList) = false := by rw [← HNM.out, ← HS.out]; exact beq_no hq1
            have HQ := Lib.hid hq1
            clear hq0 hq1
            go_wp2_with (first
                | (go_at_call 6
                   refine (C.out _).mono ?_
                   rintro e w5 ⟨rfl, hb5⟩
                   have hx := HX.out.1.next hb5
                   have hy := HX.out.2.2.next hb5
                   have hxc := hx.cell
                   have hxc2 := hy.cell
                   have hxf2 := hy.free
                   have hxl2 := hy.lt
                   have HY := Lib.hid (And.intro (HX.out.2.1.trans (hb5.mono HX.out.2.1.size)) (And.intro hx hy))
                   clear hb5 hx hy))
            go_roundw
            case rel => exact ⟨2, by omega, rfl, HY.out.1, HY.out.2.2, none_next H.out.2.2 HC.out (fun h => HQ.out (HM.out.symm.trans h.2))⟩
            case measure => simp [intOf]
        · have H := Lib.hid (And.intro hb (And.intro hx2 hno))
          clear hb hx2 hno ht
          rw [show ((2 : Nat) : Int) = 2 from rfl]
          go_wp2_with fail
          go_roundw
          case rel => exact ⟨3, by omega, by omega, rfl, H.out.1, H.out.2.1, H.out.2.2⟩
          case measure => simp [intOf]
    · clear hk hk1 hk5
      rw [show ((3 : Nat) : Int) = 3 from rfl]
      go_wp2_with fail
      go_loopw [10] (fun tv wr => ∃ t : Nat, t ≤ 2 ∧ tv = .int .i64 t ∧ Below w.heap.size w wr ∧ Box wr w.heap.size 23 #[.int .i64 0, .int .i64 0, .int .i64 0, .bool false] ∧ NoneOf s (4 + t)) (fun tv _ => 2 - (intOf tv).toNat)
      case atStart => exact ⟨0, by omega, rfl, H0.out.1, H0.out.2.1, H0.out.2.2⟩
      case round =>
        clear H0
        obtain ⟨t, ht, rfl, hb, hx2, hno⟩ := hrel
        rcases (show t = 0 ∨ t = 1 ∨ t = 2 by omega) with rfl | rfl | rfl
        · have H := Lib.hid (And.intro hb (And.intro hx2 hno))
          clear hb hx2 hno ht
          rw [show ((0 : Nat) : Int) = 0 from rfl]
          have hc : (candsR s)[4]? = some ⟨3, 0, 0, false⟩ := by
            show some (candR s 3 false) = _
            unfold candR
            rw [HI.out]
            simp
          have C := Lib.hid (nameR_any 3 0 0 false)
          have HC := Lib.hid hc
          clear hc
          generalize hnm : nameN ⟨3, 0, 0, false⟩ = nm at C
          have HM := Lib.hid hnm
          clear hnm
          obtain ⟨NM, hNM⟩ : ∃ S : ByteArray, (⟨nm.toArray⟩ : ByteArray) = S := ⟨_, rfl⟩
          rw [hNM] at C
          have HNM := Lib.hid hNM
          clear hNM
          have hx := Box.new wr 23 #[.int .i64 3, .int .i64 0, .int .i64 0, .bool false]
          have hbw := Below.al wr (.cells #[.int .i64 3, .int .i64 0, .int .i64 0, .bool false] 23)
          have HX := Lib.hid (And.intro hx (And.intro (H.out.1.trans (hbw.mono H.out.1.size)) (H.out.2.1.next hbw)))
          clear hx hbw
          by_cases hq0 : nm = []
          · have k1 : (NM.toList == []) = true := by rw [← HNM.out]; exact beq_yes2 hq0
            have HQ := Lib.hid hq0
            clear hq0
            go_wp2_with (first
                | (go_at_call 6
                   refine (C.out _).mono ?_
                   rintro e w5 ⟨rfl, hb5⟩
                   have hx := HX.out.1.next hb5
                   have hy := HX.out.2.2.next hb5
                   have hxc := hx.cell
                   have hxc2 := hy.cell
                   have hxf2 := hy.free
                   have hxl2 := hy.lt
                   have HY := Lib.hid (And.intro (HX.out.2.1.trans (hb5.mono HX.out.2.1.size)) (And.intro hx hy))
                   clear hb5 hx hy))
            go_roundw
            case rel => exact ⟨1, by omega, rfl, HY.out.1, HY.out.2.2, none_next H.out.2.2 HC.out (fun h => h.1 (HM.out.trans HQ.out))⟩
            case measure => simp [intOf]
          have k1 : (NM.toList == []) = false := by rw [← HNM.out]; exact beq_no2 hq0
          by_cases hq1 : nm = s
          · have k2 : (NM.toList == S.toList) = true := by rw [← HNM.out, ← HS.out]; exact beq_yes hq1
            have HP := Lib.hid (parse_hit H.out.2.2 HC.out ⟨fun e => hq0 (HM.out.symm.trans e), HM.out.trans hq1⟩)
            clear hq0 hq1
            go_wp2_with (first
                | (go_at_call 6
                   refine (C.out _).mono ?_
                   rintro e w5 ⟨rfl, hb5⟩
                   have hx := HX.out.1.next hb5
                   have hy := HX.out.2.2.next hb5
                   have hxc := hx.cell
                   have hxc2 := hy.cell
                   have hxf2 := hy.free
                   have hxl2 := hy.lt
                   have HY := Lib.hid (And.intro (HX.out.2.1.trans (hb5.mono HX.out.2.1.size)) (And.intro hx hy))
                   clear hb5 hx hy))
            refine bodyPost_ret (v := FN.v ⟨3, 0, 0, false⟩) ?_ rfl ?_
            · simp [results, Tryd.results8, go_sem, hxc2, FN.v]
            refine ⟨by rw [HP.out], ?_⟩
            repeat (first | with_reducible exact HY.out.1 | refine Below.setCell ?_ (by simp) _)
          · have k2 : (NM.toList == S.toList) = false := by rw [← HNM.out, ← HS.out]; exact beq_no hq1
            have HQ := Lib.hid hq1
            clear hq0 hq1
            go_wp2_with (first
                | (go_at_call 6
                   refine (C.out _).mono ?_
                   rintro e w5 ⟨rfl, hb5⟩
                   have hx := HX.out.1.next hb5
                   have hy := HX.out.2.2.next hb5
                   have hxc := hx.cell
                   have hxc2 := hy.cell
                   have hxf2 := hy.free
                   have hxl2 := hy.lt
                   have HY := Lib.hid (And.intro (HX.out.2.1.trans (hb5.mono HX.out.2.1.size)) (And.intro hx hy))
                   clear hb5 hx hy))
            go_roundw
            case rel => exact ⟨1, by omega, rfl, HY.out.1, HY.out.2.2, none_next H.out.2.2 HC.out (fun h => HQ.out (HM.out.symm.trans h.2))⟩
            case measure => simp [intOf]
        · have H := Lib.hid (And.intro hb (And.intro hx2 hno))
          clear hb hx2 hno ht
          rw [show ((1 : Nat) : Int) = 1 from rfl]
          have hc : (candsR s)[5]? = some ⟨3, 0, 0, true⟩ := by
            show some (candR s 3 true) = _
            unfold candR
            rw [HI.out]
            simp
          have C := Lib.hid (nameR_any 3 0 0 true)
          have HC := Lib.hid hc
          clear hc
          generalize hnm : nameN ⟨3, 0, 0, true⟩ = nm at C
          have HM := Lib.hid hnm
          clear hnm
          obtain ⟨NM, hNM⟩ : ∃ S : ByteArray, (⟨nm.toArray⟩ : ByteArray) = S := ⟨_, rfl⟩
          rw [hNM] at C
          have HNM := Lib.hid hNM
          clear hNM
          have hx := Box.new wr 23 #[.int .i64 3, .int .i64 0, .int .i64 0, .bool true]
          have hbw := Below.al wr (.cells #[.int .i64 3, .int .i64 0, .int .i64 0, .bool true] 23)
          have HX := Lib.hid (And.intro hx (And.intro (H.out.1.trans (hbw.mono H.out.1.size)) (H.out.2.1.next hbw)))
          clear hx hbw
          by_cases hq0 : nm = []
          · have k1 : (NM.toList == []) = true := by rw [← HNM.out]; exact beq_yes2 hq0
            have HQ := Lib.hid hq0
            clear hq0
            go_wp2_with (first
                | (go_at_call 6
                   refine (C.out _).mono ?_
                   rintro e w5 ⟨rfl, hb5⟩
                   have hx := HX.out.1.next hb5
                   have hy := HX.out.2.2.next hb5
                   have hxc := hx.cell
                   have hxc2 := hy.cell
                   have hxf2 := hy.free
                   have hxl2 := hy.lt
                   have HY := Lib.hid (And.intro (HX.out.2.1.trans (hb5.mono HX.out.2.1.size)) (And.intro hx hy))
                   clear hb5 hx hy))
            go_roundw
            case rel => exact ⟨2, by omega, rfl, HY.out.1, HY.out.2.2, none_next H.out.2.2 HC.out (fun h => h.1 (HM.out.trans HQ.out))⟩
            case measure => simp [intOf]
          have k1 : (NM.toList == []) = false := by rw [← HNM.out]; exact beq_no2 hq0
          by_cases hq1 : nm = s
          · have k2 : (NM.toList == S.toList) = true := by rw [← HNM.out, ← HS.out]; exact beq_yes hq1
            have HP := Lib.hid (parse_hit H.out.2.2 HC.out ⟨fun e => hq0 (HM.out.symm.trans e), HM.out.trans hq1⟩)
            clear hq0 hq1
            go_wp2_with (first
                | (go_at_call 6
                   refine (C.out _).mono ?_
                   rintro e w5 ⟨rfl, hb5⟩
                   have hx := HX.out.1.next hb5
                   have hy := HX.out.2.2.next hb5
                   have hxc := hx.cell
                   have hxc2 := hy.cell
                   have hxf2 := hy.free
                   have hxl2 := hy.lt
                   have HY := Lib.hid (And.intro (HX.out.2.1.trans (hb5.mono HX.out.2.1.size)) (And.intro hx hy))
                   clear hb5 hx hy))
            refine bodyPost_ret (v := FN.v ⟨3, 0, 0, true⟩) ?_ rfl ?_
            · simp [results, Tryd.results8, go_sem, hxc2, FN.v]
            refine ⟨by rw [HP.out], ?_⟩
            repeat (first | with_reducible exact HY.out.1 | refine Below.setCell ?_ (by simp) _)
          · have k2 : (NM.toList == S.toList) = false := by rw [← HNM.out, ← HS.out]; exact beq_no hq1
            have HQ := Lib.hid hq1
            clear hq0 hq1
            go_wp2_with (first
                | (go_at_call 6
                   refine (C.out _).mono ?_
                   rintro e w5 ⟨rfl, hb5⟩
                   have hx := HX.out.1.next hb5
                   have hy := HX.out.2.2.next hb5
                   have hxc := hx.cell
                   have hxc2 := hy.cell
                   have hxf2 := hy.free
                   have hxl2 := hy.lt
                   have HY := Lib.hid (And.intro (HX.out.2.1.trans (hb5.mono HX.out.2.1.size)) (And.intro hx hy))
                   clear hb5 hx hy))
            go_roundw
            case rel => exact ⟨2, by omega, rfl, HY.out.1, HY.out.2.2, none_next H.out.2.2 HC.out (fun h => HQ.out (HM.out.symm.trans h.2))⟩
            case measure => simp [intOf]
        · have H := Lib.hid (And.intro hb (And.intro hx2 hno))
          clear hb hx2 hno ht
          rw [show ((2 : Nat) : Int) = 2 from rfl]
          go_wp2_with fail
          go_roundw
          case rel => exact ⟨4, by omega, by omega, rfl, H.out.1, H.out.2.1, H.out.2.2⟩
          case measure => simp [intOf]
    · clear hk hk1 hk5
      rw [show ((4 : Nat) : Int) = 4 from rfl]
      go_wp2_with fail
      go_loopw [10] (fun tv wr => ∃ t : Nat, t ≤ 2 ∧ tv = .int .i64 t ∧ Below w.heap.size w wr ∧ Box wr w.heap.size 23 #[.int .i64 0, .int .i64 0, .int .i64 0, .bool false] ∧ NoneOf s (6 + t)) (fun tv _ => 2 - (intOf tv).toNat)
      case atStart => exact ⟨0, by omega, rfl, H0.out.1, H0.out.2.1, H0.out.2.2⟩
      case round =>
        clear H0
        obtain ⟨t, ht, rfl, hb, hx2, hno⟩ := hrel
        rcases (show t = 0 ∨ t = 1 ∨ t = 2 by omega) with rfl | rfl | rfl
        · have H := Lib.hid (And.intro hb (And.intro hx2 hno))
          clear hb hx2 hno ht
          rw [show ((0 : Nat) : Int) = 0 from rfl]
          have hc : (candsR s)[6]? = some ⟨4, 0, 0, false⟩ := by
            show some (candR s 4 false) = _
            unfold candR
            rw [HI.out]
            simp
          have C := Lib.hid (nameR_any 4 0 0 false)
          have HC := Lib.hid hc
          clear hc
          generalize hnm : nameN ⟨4, 0, 0, false⟩ = nm at C
          have HM := Lib.hid hnm
          clear hnm
          obtain ⟨NM, hNM⟩ : ∃ S : ByteArray, (⟨nm.toArray⟩ : ByteArray) = S := ⟨_, rfl⟩
          rw [hNM] at C
          have HNM := Lib.hid hNM
          clear hNM
          have hx := Box.new wr 23 #[.int .i64 4, .int .i64 0, .int .i64 0, .bool false]
          have hbw := Below.al wr (.cells #[.int .i64 4, .int .i64 0, .int .i64 0, .bool false] 23)
          have HX := Lib.hid (And.intro hx (And.intro (H.out.1.trans (hbw.mono H.out.1.size)) (H.out.2.1.next hbw)))
          clear hx hbw
          by_cases hq0 : nm = []
          · have k1 : (NM.toList == []) = true := by rw [← HNM.out]; exact beq_yes2 hq0
            have HQ := Lib.hid hq0
            clear hq0
            go_wp2_with (first
                | (go_at_call 6
                   refine (C.out _).mono ?_
                   rintro e w5 ⟨rfl, hb5⟩
                   have hx := HX.out.1.next hb5
                   have hy := HX.out.2.2.next hb5
                   have hxc := hx.cell
                   have hxc2 := hy.cell
                   have hxf2 := hy.free
                   have hxl2 := hy.lt
                   have HY := Lib.hid (And.intro (HX.out.2.1.trans (hb5.mono HX.out.2.1.size)) (And.intro hx hy))
                   clear hb5 hx hy))
            go_roundw
            case rel => exact ⟨1, by omega, rfl, HY.out.1, HY.out.2.2, none_next H.out.2.2 HC.out (fun h => h.1 (HM.out.trans HQ.out))⟩
            case measure => simp [intOf]
          have k1 : (NM.toList == []) = false := by rw [← HNM.out]; exact beq_no2 hq0
          by_cases hq1 : nm = s
          · have k2 : (NM.toList == S.toList) = true := by rw [← HNM.out, ← HS.out]; exact beq_yes hq1
            have HP := Lib.hid (parse_hit H.out.2.2 HC.out ⟨fun e => hq0 (HM.out.symm.trans e), HM.out.trans hq1⟩)
            clear hq0 hq1
            go_wp2_with (first
                | (go_at_call 6
                   refine (C.out _).mono ?_
                   rintro e w5 ⟨rfl, hb5⟩
                   have hx := HX.out.1.next hb5
                   have hy := HX.out.2.2.next hb5
                   have hxc := hx.cell
                   have hxc2 := hy.cell
                   have hxf2 := hy.free
                   have hxl2 := hy.lt
                   have HY := Lib.hid (And.intro (HX.out.2.1.trans (hb5.mono HX.out.2.1.size)) (And.intro hx hy))
                   clear hb5 hx hy))
            refine bodyPost_ret (v := FN.v ⟨4, 0, 0, false⟩) ?_ rfl ?_
            · simp [results, Tryd.results8, go_sem, hxc2, FN.v]
            refine ⟨by rw [HP.out], ?_⟩
            repeat (first | with_reducible exact HY.out.1 | refine Below.setCell ?_ (by simp) _)
          · have k2 : (NM.toList == S.toList) = false := by rw [← HNM.out, ← HS.out]; exact beq_no hq1
            have HQ := Lib.hid hq1
            clear hq0 hq1
            go_wp2_with (first
                | (go_at_call 6
                   refine (C.out _).mono ?_
                   rintro e w5 ⟨rfl, hb5⟩
                   have hx := HX.out.1.next hb5
                   have hy := HX.out.2.2.next hb5
                   have hxc := hx.cell
                   have hxc2 := hy.cell
                   have hxf2 := hy.free
                   have hxl2 := hy.lt
                   have HY := Lib.hid (And.intro (HX.out.2.1.trans (hb5.mono HX.out.2.1.size)) (And.intro hx hy))
                   clear hb5 hx hy))
            go_roundw
            case rel => exact ⟨1, by omega, rfl, HY.out.1, HY.out.2.2, none_next H.out.2.2 HC.out (fun h => HQ.out (HM.out.symm.trans h.2))⟩
            case measure => simp [intOf]
        · have H := Lib.hid (And.intro hb (And.intro hx2 hno))
          clear hb hx2 hno ht
          rw [show ((1 : Nat) : Int) = 1 from rfl]
          have hc : (candsR s)[7]? = some ⟨4, 0, 0, true⟩ := by
            show some (candR s 4 true) = _
            unfold candR
            rw [HI.out]
            simp
          have C := Lib.hid (nameR_any 4 0 0 true)
          have HC := Lib.hid hc
          clear hc
          generalize hnm : nameN ⟨4, 0, 0, true⟩ = nm at C
          have HM := Lib.hid hnm
          clear hnm
          obtain ⟨NM, hNM⟩ : ∃ S : ByteArray, (⟨nm.toArray⟩ : ByteArray) = S := ⟨_, rfl⟩
          rw [hNM] at C
          have HNM := Lib.hid hNM
          clear hNM
          have hx := Box.new wr 23 #[.int .i64 4, .int .i64 0, .int .i64 0, .bool true]
          have hbw := Below.al wr (.cells #[.int .i64 4, .int .i64 0, .int .i64 0, .bool true] 23)
          have HX := Lib.hid (And.intro hx (And.intro (H.out.1.trans (hbw.mono H.out.1.size)) (H.out.2.1.next hbw)))
          clear hx hbw
          by_cases hq0 : nm = []
          · have k1 : (NM.toList == []) = true := by rw [← HNM.out]; exact beq_yes2 hq0
            have HQ := Lib.hid hq0
            clear hq0
            go_wp2_with (first
                | (go_at_call 6
                   refine (C.out _).mono ?_
                   rintro e w5 ⟨rfl, hb5⟩
                   have hx := HX.out.1.next hb5
                   have hy := HX.out.2.2.next hb5
                   have hxc := hx.cell
                   have hxc2 := hy.cell
                   have hxf2 := hy.free
                   have hxl2 := hy.lt
                   have HY := Lib.hid (And.intro (HX.out.2.1.trans (hb5.mono HX.out.2.1.size)) (And.intro hx hy))
                   clear hb5 hx hy))
            go_roundw
            case rel => exact ⟨2, by omega, rfl, HY.out.1, HY.out.2.2, none_next H.out.2.2 HC.out (fun h => h.1 (HM.out.trans HQ.out))⟩
            case measure => simp [intOf]
          have k1 : (NM.toList == []) = false := by rw [← HNM.out]; exact beq_no2 hq0
          by_cases hq1 : nm = s
          · have k2 : (NM.toList == S.toList) = true := by rw [← HNM.out, ← HS.out]; exact beq_yes hq1
            have HP := Lib.hid (parse_hit H.out.2.2 HC.out ⟨fun e => hq0 (HM.out.symm.trans e), HM.out.trans hq1⟩)
            clear hq0 hq1
            go_wp2_with (first
                | (go_at_call 6
                   refine (C.out _).mono ?_
                   rintro e w5 ⟨rfl, hb5⟩
                   have hx := HX.out.1.next hb5
                   have hy := HX.out.2.2.next hb5
                   have hxc := hx.cell
                   have hxc2 := hy.cell
                   have hxf2 := hy.free
                   have hxl2 := hy.lt
                   have HY := Lib.hid (And.intro (HX.out.2.1.trans (hb5.mono HX.out.2.1.size)) (And.intro hx hy))
                   clear hb5 hx hy))
            refine bodyPost_ret (v := FN.v ⟨4, 0, 0, true⟩) ?_ rfl ?_
            · simp [results, Tryd.results8, go_sem, hxc2, FN.v]
            refine ⟨by rw [HP.out], ?_⟩
            repeat (first | with_reducible exact HY.out.1 | refine Below.setCell ?_ (by simp) _)
          · have k2 : (NM.toList == S.toList) = false := by rw [← HNM.out, ← HS.out]; exact beq_no hq1
            have HQ := Lib.hid hq1
            clear hq0 hq1
            go_wp2_with (first
                | (go_at_call 6
                   refine (C.out _).mono ?_
                   rintro e w5 ⟨rfl, hb5⟩
                   have hx := HX.out.1.next hb5
                   have hy := HX.out.2.2.next hb5
                   have hxc := hx.cell
                   have hxc2 := hy.cell
                   have hxf2 := hy.free
                   have hxl2 := hy.lt
                   have HY := Lib.hid (And.intro (HX.out.2.1.trans (hb5.mono HX.out.2.1.size)) (And.intro hx hy))
                   clear hb5 hx hy))
            go_roundw
            case rel => exact ⟨2, by omega, rfl, HY.out.1, HY.out.2.2, none_next H.out.2.2 HC.out (fun h => HQ.out (HM.out.symm.trans h.2))⟩
            case measure => simp [intOf]
        · have H := Lib.hid (And.intro hb (And.intro hx2 hno))
          clear hb hx2 hno ht
          rw [show ((2 : Nat) : Int) = 2 from rfl]
          go_wp2_with fail
          go_roundw
          case rel => exact ⟨5, by omega, by omega, rfl, H.out.1, H.out.2.1, H.out.2.2⟩
          case measure => simp [intOf]
set_option maxRecDepth 100000 in
set_option maxHeartbeats 8000000 in
theorem parseR_o (s : List UInt8) (b : UInt8) (r : List UInt8) (hs1 : s = b :: r) (hb : ¬ b = 116) (w : World) :
    Calls Tryd.prog 8 #[.string ⟨s.toArray⟩] w fun e w' => e = .returned (FN.v (parseR s)) ∧ Below w.heap.size w w' := by
  have HI := Lib.hid (show idsR s = (0, 0) by rw [hs1, idsR, if_neg hb])
  obtain ⟨S, hS⟩ : ∃ S : ByteArray, (⟨s.toArray⟩ : ByteArray) = S := ⟨_, rfl⟩
  have HS := Lib.hid hS
  have hSz : S.size = s.length := by rw [← hS]; show s.toArray.size = _; simp
  have hSl : S.data.toList = s := by rw [← hS]
  have hpos : 0 < S.size := by rw [hSz, hs1]; simp
  have hs0 : S[0]'hpos = b := by
    show S.data[0]'_ = b
    have h2 : S.data.toList[0]? = some b := by rw [hSl, hs1]; rfl
    have h3 : S.data[0]? = some b := by simpa using h2
    exact (Array.getElem?_eq_some_iff.1 h3).2
  have h01 : (0 : Int) < S.size := by omega
  have hbn : ¬ (b.toNat : Int) = 116 := fun e => hb (UInt8.toNat_inj.1 (by simpa using (by omega : b.toNat = 116)))
  have hbe : ((b.toNat : Int) == 116) = false := by simpa using hbn
  clear hSz hSl
  rw [hS]
  clear hS
  have HB := Lib.hid (And.intro (Below.al w (.cells #[.int .i64 0, .int .i64 0, .int .i64 0, .bool false] 23)) (Box.new w 23 #[.int .i64 0, .int .i64 0, .int .i64 0, .bool false]))
  go_enter Tryd.func8, Tryd.ntmps8
  go_wp2_with fail
  go_loopw [9] (fun kv wr => ∃ k : Nat, 1 ≤ k ∧ k ≤ 5 ∧ kv = .int .i64 k ∧ Below w.heap.size w wr ∧ Box wr w.heap.size 23 #[.int .i64 0, .int .i64 0, .int .i64 0, .bool false] ∧ NoneOf s (2 * (k - 1))) (fun kv _ => 5 - (intOf kv).toNat)
  case atStart => exact ⟨1, by omega, by omega, rfl, HB.out.1, HB.out.2, none_zero s⟩
  case round =>
    clear HB
    obtain ⟨k, hk1, hk5, rfl, hb, hx2, hno⟩ := hrel
    have H0 := Lib.hid (And.intro hb (And.intro hx2 hno))
    clear hb hx2 hno
    by_cases hk : k = 5
    · subst hk
      rw [show ((5 : Nat) : Int) = 5 from rfl]
      have HP := Lib.hid (parse_miss H0.out.2.2)
      have hxc2 := H0.out.2.1.cell
      have hxf2 := H0.out.2.1.free
      have hxl2 := H0.out.2.1.lt
      go_wp2_with fail
      refine bodyPost_ret (v := FN.v FN.zero) ?_ rfl ?_
      · simp [results, Tryd.results8, go_sem, hxc2, FN.v, FN.zero]
      refine ⟨by rw [HP.out], ?_⟩
      repeat (first | with_reducible exact H0.out.1 | refine Below.setCell ?_ (by simp) _)
    rcases (show k = 1 ∨ k = 2 ∨ k = 3 ∨ k = 4 by omega) with rfl | rfl | rfl | rfl
    · clear hk hk1 hk5
      rw [show ((1 : Nat) : Int) = 1 from rfl]
      go_wp2_with fail
      go_loopw [10] (fun tv wr => ∃ t : Nat, t ≤ 2 ∧ tv = .int .i64 t ∧ Below w.heap.size w wr ∧ Box wr w.heap.size 23 #[.int .i64 0, .int .i64 0, .int .i64 0, .bool false] ∧ NoneOf s (0 + t)) (fun tv _ => 2 - (intOf tv).toNat)
      case atStart => exact ⟨0, by omega, rfl, H0.out.1, H0.out.2.1, H0.out.2.2⟩
      case round =>
        clear H0
        obtain ⟨t, ht, rfl, hb, hx2, hno⟩ := hrel
        rcases (show t = 0 ∨ t = 1 ∨ t = 2 by omega) with rfl | rfl | rfl
        · have H := Lib.hid (And.intro hb (And.intro hx2 hno))
          clear hb hx2 hno ht
          rw [show ((0 : Nat) : Int) = 0 from rfl]
          have hc : (candsR s)[0]? = some ⟨1, 0, 0, false⟩ := by
            show some (candR s 1 false) = _
            unfold candR
            rw [HI.out]
            simp
          have C := Lib.hid (nameR_any 1 0 0 false)
          have HC := Lib.hid hc
          clear hc
          generalize hnm : nameN ⟨1, 0, 0, false⟩ = nm at C
          have HM := Lib.hid hnm
          clear hnm
          obtain ⟨NM, hNM⟩ : ∃ S : ByteArray, (⟨nm.toArray⟩ : ByteArray) = S := ⟨_, rfl⟩
          rw [hNM] at C
          have HNM := Lib.hid hNM
          clear hNM
          have hx := Box.new wr 23 #[.int .i64 1, .int .i64 0, .int .i64 0, .bool false]
          have hbw := Below.al wr (.cells #[.int .i64 1, .int .i64 0, .int .i64 0, .bool false] 23)
          have HX := Lib.hid (And.intro hx (And.intro (H.out.1.trans (hbw.mono H.out.1.size)) (H.out.2.1.next hbw)))
          clear hx hbw
          by_cases hq0 : nm = []
          · have k1 : (NM.toList == []) = true := by rw [← HNM.out]; exact beq_yes2 hq0
            have HQ := Lib.hid hq0
            clear hq0
            go_wp2_with (first
                | (go_at_call 6
                   refine (C.out _).mono ?_
                   rintro e w5 ⟨rfl, hb5⟩
                   have hx := HX.out.1.next hb5
                   have hy := HX.out.2.2.next hb5
                   have hxc := hx.cell
                   have hxc2 := hy.cell
                   have hxf2 := hy.free
                   have hxl2 := hy.lt
                   have HY := Lib.hid (And.intro (HX.out.2.1.trans (hb5.mono HX.out.2.1.size)) (And.intro hx hy))
                   clear hb5 hx hy))
            go_roundw
            case rel => exact ⟨1, by omega, rfl, HY.out.1, HY.out.2.2, none_next H.out.2.2 HC.out (fun h => h.1 (HM.out.trans HQ.out))⟩
            case measure => simp [intOf]
          have k1 : (NM.toList == []) = false := by rw [← HNM.out]; exact beq_no2 hq0
          by_cases hq1 : nm = s
          · have k2 : (NM.toList == S.toList) = true := by rw [← HNM.out, ← HS.out]; exact beq_yes hq1
            have HP := Lib.hid (parse_hit H.out.2.2 HC.out ⟨fun e => hq0 (HM.out.symm.trans e), HM.out.trans hq1⟩)
            clear hq0 hq1
            go_wp2_with (first
                | (go_at_call 6
                   refine (C.out _).mono ?_
                   rintro e w5 ⟨rfl, hb5⟩
                   have hx := HX.out.1.next hb5
                   have hy := HX.out.2.2.next hb5
                   have hxc := hx.cell
                   have hxc2 := hy.cell
                   have hxf2 := hy.free
                   have hxl2 := hy.lt
                   have HY := Lib.hid (And.intro (HX.out.2.1.trans (hb5.mono HX.out.2.1.size)) (And.intro hx hy))
                   clear hb5 hx hy))
            refine bodyPost_ret (v := FN.v ⟨1, 0, 0, false⟩) ?_ rfl ?_
            · simp [results, Tryd.results8, go_sem, hxc2, FN.v]
            refine ⟨by rw [HP.out], ?_⟩
            repeat (first | with_reducible exact HY.out.1 | refine Below.setCell ?_ (by simp) _)
          · have k2 : (NM.toList == S.toList) = false := by rw [← HNM.out, ← HS.out]; exact beq_no hq1
            have HQ := Lib.hid hq1
            clear hq0 hq1
            go_wp2_with (first
                | (go_at_call 6
                   refine (C.out _).mono ?_
                   rintro e w5 ⟨rfl, hb5⟩
                   have hx := HX.out.1.next hb5
                   have hy := HX.out.2.2.next hb5
                   have hxc := hx.cell
                   have hxc2 := hy.cell
                   have hxf2 := hy.free
                   have hxl2 := hy.lt
                   have HY := Lib.hid (And.intro (HX.out.2.1.trans (hb5.mono HX.out.2.1.size)) (And.intro hx hy))
                   clear hb5 hx hy))
            go_roundw
            case rel => exact ⟨1, by omega, rfl, HY.out.1, HY.out.2.2, none_next H.out.2.2 HC.out (fun h => HQ.out (HM.out.symm.trans h.2))⟩
            case measure => simp [intOf]
        · have H := Lib.hid (And.intro hb (And.intro hx2 hno))
          clear hb hx2 hno ht
          rw [show ((1 : Nat) : Int) = 1 from rfl]
          have hc : (candsR s)[1]? = some ⟨1, 0, 0, true⟩ := by
            show some (candR s 1 true) = _
            unfold candR
            rw [HI.out]
            simp
          have C := Lib.hid (nameR_any 1 0 0 true)
          have HC := Lib.hid hc
          clear hc
          generalize hnm : nameN ⟨1, 0, 0, true⟩ = nm at C
          have HM := Lib.hid hnm
          clear hnm
          obtain ⟨NM, hNM⟩ : ∃ S : ByteArray, (⟨nm.toArray⟩ : ByteArray) = S := ⟨_, rfl⟩
          rw [hNM] at C
          have HNM := Lib.hid hNM
          clear hNM
          have hx := Box.new wr 23 #[.int .i64 1, .int .i64 0, .int .i64 0, .bool true]
          have hbw := Below.al wr (.cells #[.int .i64 1, .int .i64 0, .int .i64 0, .bool true] 23)
          have HX := Lib.hid (And.intro hx (And.intro (H.out.1.trans (hbw.mono H.out.1.size)) (H.out.2.1.next hbw)))
          clear hx hbw
          by_cases hq0 : nm = []
          · have k1 : (NM.toList == []) = true := by rw [← HNM.out]; exact beq_yes2 hq0
            have HQ := Lib.hid hq0
            clear hq0
            go_wp2_with (first
                | (go_at_call 6
                   refine (C.out _).mono ?_
                   rintro e w5 ⟨rfl, hb5⟩
                   have hx := HX.out.1.next hb5
                   have hy := HX.out.2.2.next hb5
                   have hxc := hx.cell
                   have hxc2 := hy.cell
                   have hxf2 := hy.free
                   have hxl2 := hy.lt
                   have HY := Lib.hid (And.intro (HX.out.2.1.trans (hb5.mono HX.out.2.1.size)) (And.intro hx hy))
                   clear hb5 hx hy))
            go_roundw
            case rel => exact ⟨2, by omega, rfl, HY.out.1, HY.out.2.2, none_next H.out.2.2 HC.out (fun h => h.1 (HM.out.trans HQ.out))⟩
            case measure => simp [intOf]
          have k1 : (NM.toList == []) = false := by rw [← HNM.out]; exact beq_no2 hq0
          by_cases hq1 : nm = s
          · have k2 : (NM.toList == S.toList) = true := by rw [← HNM.out, ← HS.out]; exact beq_yes hq1
            have HP := Lib.hid (parse_hit H.out.2.2 HC.out ⟨fun e => hq0 (HM.out.symm.trans e), HM.out.trans hq1⟩)
            clear hq0 hq1
            go_wp2_with (first
                | (go_at_call 6
                   refine (C.out _).mono ?_
                   rintro e w5 ⟨rfl, hb5⟩
                   have hx := HX.out.1.next hb5
                   have hy := HX.out.2.2.next hb5
                   have hxc := hx.cell
                   have hxc2 := hy.cell
                   have hxf2 := hy.free
                   have hxl2 := hy.lt
                   have HY := Lib.hid (And.intro (HX.out.2.1.trans (hb5.mono HX.out.2.1.size)) (And.intro hx hy))
                   clear hb5 hx hy))
            refine bodyPost_ret (v := FN.v ⟨1, 0, 0, true⟩) ?_ rfl ?_
            · simp [results, Tryd.results8, go_sem, hxc2, FN.v]
            refine ⟨by rw [HP.out], ?_⟩
            repeat (first | with_reducible exact HY.out.1 | refine Below.setCell ?_ (by simp) _)
          · have k2 : (NM.toList == S.toList) = false := by rw [← HNM.out, ← HS.out]; exact beq_no hq1
            have HQ := Lib.hid hq1
            clear hq0 hq1
            go_wp2_with (first
                | (go_at_call 6
                   refine (C.out _).mono ?_
                   rintro e w5 ⟨rfl, hb5⟩
                   have hx := HX.out.1.next hb5
                   have hy := HX.out.2.2.next hb5
                   have hxc := hx.cell
                   have hxc2 := hy.cell
                   have hxf2 := hy.free
                   have hxl2 := hy.lt
                   have HY := Lib.hid (And.intro (HX.out.2.1.trans (hb5.mono HX.out.2.1.size)) (And.intro hx hy))
                   clear hb5 hx hy))
            go_roundw
            case rel => exact ⟨2, by omega, rfl, HY.out.1, HY.out.2.2, none_next H.out.2.2 HC.out (fun h => HQ.out (HM.out.symm.trans h.2))⟩
            case measure => simp [intOf]
        · have H := Lib.hid (And.intro hb (And.intro hx2 hno))
          clear hb hx2 hno ht
          rw [show ((2 : Nat) : Int) = 2 from rfl]
          go_wp2_with fail
          go_roundw
          case rel => exact ⟨2, by omega, by omega, rfl, H.out.1, H.out.2.1, H.out.2.2⟩
          case measure => simp [intOf]
    · clear hk hk1 hk5
      rw [show ((2 : Nat) : Int) = 2 from rfl]
      go_wp2_with fail
      go_loopw [10] (fun tv wr => ∃ t : Nat, t ≤ 2 ∧ tv = .int .i64 t ∧ Below w.heap.size w wr ∧ Box wr w.heap.size 23 #[.int .i64 0, .int .i64 0, .int .i64 0, .bool false] ∧ NoneOf s (2 + t)) (fun tv _ => 2 - (intOf tv).toNat)
      case atStart => exact ⟨0, by omega, rfl, H0.out.1, H0.out.2.1, H0.out.2.2⟩
      case round =>
        clear H0
        obtain ⟨t, ht, rfl, hb, hx2, hno⟩ := hrel
        rcases (show t = 0 ∨ t = 1 ∨ t = 2 by omega) with rfl | rfl | rfl
        · have H := Lib.hid (And.intro hb (And.intro hx2 hno))
          clear hb hx2 hno ht
          rw [show ((0 : Nat) : Int) = 0 from rfl]
          have hc : (candsR s)[2]? = some ⟨2, 0, 0, false⟩ := by
            show some (candR s 2 false) = _
            unfold candR
            rw [HI.out]
            simp
          have C := Lib.hid (nameR_any 2 0 0 false)
          have HC := Lib.hid hc
          clear hc
          generalize hnm : nameN ⟨2, 0, 0, false⟩ = nm at C
          have HM := Lib.hid hnm
          clear hnm
          obtain ⟨NM, hNM⟩ : ∃ S : ByteArray, (⟨nm.toArray⟩ : ByteArray) = S := ⟨_, rfl⟩
          rw [hNM] at C
          have HNM := Lib.hid hNM
          clear hNM
          have hx := Box.new wr 23 #[.int .i64 2, .int .i64 0, .int .i64 0, .bool false]
          have hbw := Below.al wr (.cells #[.int .i64 2, .int .i64 0, .int .i64 0, .bool false] 23)
          have HX := Lib.hid (And.intro hx (And.intro (H.out.1.trans (hbw.mono H.out.1.size)) (H.out.2.1.next hbw)))
          clear hx hbw
          by_cases hq0 : nm = []
          · have k1 : (NM.toList == []) = true := by rw [← HNM.out]; exact beq_yes2 hq0
            have HQ := Lib.hid hq0
            clear hq0
            go_wp2_with (first
                | (go_at_call 6
                   refine (C.out _).mono ?_
                   rintro e w5 ⟨rfl, hb5⟩
                   have hx := HX.out.1.next hb5
                   have hy := HX.out.2.2.next hb5
                   have hxc := hx.cell
                   have hxc2 := hy.cell
                   have hxf2 := hy.free
                   have hxl2 := hy.lt
                   have HY := Lib.hid (And.intro (HX.out.2.1.trans (hb5.mono HX.out.2.1.size)) (And.intro hx hy))
                   clear hb5 hx hy))
            go_roundw
            case rel => exact ⟨1, by omega, rfl, HY.out.1, HY.out.2.2, none_next H.out.2.2 HC.out (fun h => h.1 (HM.out.trans HQ.out))⟩
            case measure => simp [intOf]
          have k1 : (NM.toList == []) = false := by rw [← HNM.out]; exact beq_no2 hq0
          by_cases hq1 : nm = s
          · have k2 : (NM.toList == S.toList) = true := by rw [← HNM.out, ← HS.out]; exact beq_yes hq1
            have HP := Lib.hid (parse_hit H.out.2.2 HC.out ⟨fun e => hq0 (HM.out.symm.trans e), HM.out.trans hq1⟩)
            clear hq0 hq1
            go_wp2_with (first
                | (go_at_call 6
                   refine (C.out _).mono ?_
                   rintro e w5 ⟨rfl, hb5⟩
                   have hx := HX.out.1.next hb5
                   have hy := HX.out.2.2.next hb5
                   have hxc := hx.cell
                   have hxc2 := hy.cell
                   have hxf2 := hy.free
                   have hxl2 := hy.lt
                   have HY := Lib.hid (And.intro (HX.out.2.1.trans (hb5.mono HX.out.2.1.size)) (And.intro hx hy))
                   clear hb5 hx hy))
            refine bodyPost_ret (v := FN.v ⟨2, 0, 0, false⟩) ?_ rfl ?_
            · simp [results, Tryd.results8, go_sem, hxc2, FN.v]
            refine ⟨by rw [HP.out], ?_⟩
            repeat (first | with_reducible exact HY.out.1 | refine Below.setCell ?_ (by simp) _)
          · have k2 : (NM.toList == S.toList) = false := by rw [← HNM.out, ← HS.out]; exact beq_no hq1
            have HQ := Lib.hid hq1
            clear hq0 hq1
            go_wp2_with (first
                | (go_at_call 6
                   refine (C.out _).mono ?_
                   rintro e w5 ⟨rfl, hb5⟩
                   have hx := HX.out.1.next hb5
                   have hy := HX.out.2.2.next hb5
                   have hxc := hx.cell
                   have hxc2 := hy.cell
                   have hxf2 := hy.free
                   have hxl2 := hy.lt
                   have HY := Lib.hid (And.intro (HX.out.2.1.trans (hb5.mono HX.out.2.1.size)) (And.intro hx hy))
                   clear hb5 hx hy))
            go_roundw
            case rel => exact ⟨1, by omega, rfl, HY.out.1, HY.out.2.2, none_next H.out.2.2 HC.out (fun h => HQ.out (HM.out.symm.trans h.2))⟩
            case measure => simp [intOf]
        · have H := Lib.hid (And.intro hb (And.intro hx2 hno))
          clear hb hx2 hno ht
          rw [show ((1 : Nat) : Int) = 1 from rfl]
          have hc : (candsR s)[3]? = some ⟨2, 0, 0, true⟩ := by
            show some (candR s 2 true) = _
            unfold candR
            rw [HI.out]
            simp
          have C := Lib.hid (nameR_any 2 0 0 true)
          have HC := Lib.hid hc
          clear hc
          generalize hnm : nameN ⟨2, 0, 0, true⟩ = nm at C
          have HM := Lib.hid hnm
          clear hnm
          obtain ⟨NM, hNM⟩ : ∃ S : ByteArray, (⟨nm.toArray⟩ : ByteArray) = S := ⟨_, rfl⟩
          rw [hNM] at C
          have HNM := Lib.hid hNM
          clear hNM
          have hx := Box.new wr 23 #[.int .i64 2, .int .i64 0, .int .i64 0, .bool true]
          have hbw := Below.al wr (.cells #[.int .i64 2, .int .i64 0, .int .i64 0, .bool true] 23)
          have HX := Lib.hid (And.intro hx (And.intro (H.out.1.trans (hbw.mono H.out.1.size)) (H.out.2.1.next hbw)))
          clear hx hbw
          by_cases hq0 : nm = []
          · have k1 : (NM.toList == []) = true := by rw [← HNM.out]; exact beq_yes2 hq0
            have HQ := Lib.hid hq0
            clear hq0
            go_wp2_with (first
                | (go_at_call 6
                   refine (C.out _).mono ?_
                   rintro e w5 ⟨rfl, hb5⟩
                   have hx := HX.out.1.next hb5
                   have hy := HX.out.2.2.next hb5
                   have hxc := hx.cell
                   have hxc2 := hy.cell
                   have hxf2 := hy.free
                   have hxl2 := hy.lt
                   have HY := Lib.hid (And.intro (HX.out.2.1.trans (hb5.mono HX.out.2.1.size)) (And.intro hx hy))
                   clear hb5 hx hy))
            go_roundw
            case rel => exact ⟨2, by omega, rfl, HY.out.1, HY.out.2.2, none_next H.out.2.2 HC.out (fun h => h.1 (HM.out.trans HQ.out))⟩
            case measure => simp [intOf]
          have k1 : (NM.toList == []) = false := by rw [← HNM.out]; exact beq_no2 hq0
          by_cases hq1 : nm = s
          · have k2 : (NM.toList == S.toList) = true := by rw [← HNM.out, ← HS.out]; exact beq_yes hq1
            have HP := Lib.hid (parse_hit H.out.2.2 HC.out ⟨fun e => hq0 (HM.out.symm.trans e), HM.out.trans hq1⟩)
            clear hq0 hq1
            go_wp2_with (first
                | (go_at_call 6
                   refine (C.out _).mono ?_
                   rintro e w5 ⟨rfl, hb5⟩
                   have hx := HX.out.1.next hb5
                   have hy := HX.out.2.2.next hb5
                   have hxc := hx.cell
                   have hxc2 := hy.cell
                   have hxf2 := hy.free
                   have hxl2 := hy.lt
                   have HY := Lib.hid (And.intro (HX.out.2.1.trans (hb5.mono HX.out.2.1.size)) (And.intro hx hy))
                   clear hb5 hx hy))
            refine bodyPost_ret (v := FN.v ⟨2, 0, 0, true⟩) ?_ rfl ?_
            · simp [results, Tryd.results8, go_sem, hxc2, FN.v]
            refine ⟨by rw [HP.out], ?_⟩
            repeat (first | with_reducible exact HY.out.1 | refine Below.setCell ?_ (by simp) _)
          · have k2 : (NM.toList == S.toList) = false := by rw [← HNM.out, ← HS.out]; exact beq_no hq1
            have HQ := Lib.hid hq1
            clear hq0 hq1
            go_wp2_with (first
                | (go_at_call 6
                   refine (C.out _).mono ?_
                   rintro e w5 ⟨rfl, hb5⟩
                   have hx := HX.out.1.next hb5
                   have hy := HX.out.2.2.next hb5
                   have hxc := hx.cell
                   have hxc2 := hy.cell
                   have hxf2 := hy.free
                   have hxl2 := hy.lt
                   have HY := Lib.hid (And.intro (HX.out.2.1.trans (hb5.mono HX.out.2.1.size)) (And.intro hx hy))
                   clear hb5 hx hy))
            go_roundw
            case rel => exact ⟨2, by omega, rfl, HY.out.1, HY.out.2.2, none_next H.out.2.2 HC.out (fun h => HQ.out (HM.out.symm.trans h.2))⟩
            case measure => simp [intOf]
        · have H := Lib.hid (And.intro hb (And.intro hx2 hno))
          clear hb hx2 hno ht
          rw [show ((2 : Nat) : Int) = 2 from rfl]
          go_wp2_with fail
          go_roundw
          case rel => exact ⟨3, by omega, by omega, rfl, H.out.1, H.out.2.1, H.out.2.2⟩
          case measure => simp [intOf]
    · clear hk hk1 hk5
      rw [show ((3 : Nat) : Int) = 3 from rfl]
      go_wp2_with fail
      go_loopw [10] (fun tv wr => ∃ t : Nat, t ≤ 2 ∧ tv = .int .i64 t ∧ Below w.heap.size w wr ∧ Box wr w.heap.size 23 #[.int .i64 0, .int .i64 0, .int .i64 0, .bool false] ∧ NoneOf s (4 + t)) (fun tv _ => 2 - (intOf tv).toNat)
      case atStart => exact ⟨0, by omega, rfl, H0.out.1, H0.out.2.1, H0.out.2.2⟩
      case round =>
        clear H0
        obtain ⟨t, ht, rfl, hb, hx2, hno⟩ := hrel
        rcases (show t = 0 ∨ t = 1 ∨ t = 2 by omega) with rfl | rfl | rfl
        · have H := Lib.hid (And.intro hb (And.intro hx2 hno))
          clear hb hx2 hno ht
          rw [show ((0 : Nat) : Int) = 0 from rfl]
          have hc : (candsR s)[4]? = some ⟨3, 0, 0, false⟩ := by
            show some (candR s 3 false) = _
            unfold candR
            rw [HI.out]
            simp
          have C := Lib.hid (nameR_any 3 0 0 false)
          have HC := Lib.hid hc
          clear hc
          generalize hnm : nameN ⟨3, 0, 0, false⟩ = nm at C
          have HM := Lib.hid hnm
          clear hnm
          obtain ⟨NM, hNM⟩ : ∃ S : ByteArray, (⟨nm.toArray⟩ : ByteArray) = S := ⟨_, rfl⟩
          rw [hNM] at C
          have HNM := Lib.hid hNM
          clear hNM
          have hx := Box.new wr 23 #[.int .i64 3, .int .i64 0, .int .i64 0, .bool false]
          have hbw := Below.al wr (.cells #[.int .i64 3, .int .i64 0, .int .i64 0, .bool false] 23)
          have HX := Lib.hid (And.intro hx (And.intro (H.out.1.trans (hbw.mono H.out.1.size)) (H.out.2.1.next hbw)))
          clear hx hbw
          by_cases hq0 : nm = []
          · have k1 : (NM.toList == []) = true := by rw [← HNM.out]; exact beq_yes2 hq0
            have HQ := Lib.hid hq0
            clear hq0
            go_wp2_with (first
                | (go_at_call 6
                   refine (C.out _).mono ?_
                   rintro e w5 ⟨rfl, hb5⟩
                   have hx := HX.out.1.next hb5
                   have hy := HX.out.2.2.next hb5
                   have hxc := hx.cell
                   have hxc2 := hy.cell
                   have hxf2 := hy.free
                   have hxl2 := hy.lt
                   have HY := Lib.hid (And.intro (HX.out.2.1.trans (hb5.mono HX.out.2.1.size)) (And.intro hx hy))
                   clear hb5 hx hy))
            go_roundw
            case rel => exact ⟨1, by omega, rfl, HY.out.1, HY.out.2.2, none_next H.out.2.2 HC.out (fun h => h.1 (HM.out.trans HQ.out))⟩
            case measure => simp [intOf]
          have k1 : (NM.toList == []) = false := by rw [← HNM.out]; exact beq_no2 hq0
          by_cases hq1 : nm = s
          · have k2 : (NM.toList == S.toList) = true := by rw [← HNM.out, ← HS.out]; exact beq_yes hq1
            have HP := Lib.hid (parse_hit H.out.2.2 HC.out ⟨fun e => hq0 (HM.out.symm.trans e), HM.out.trans hq1⟩)
            clear hq0 hq1
            go_wp2_with (first
                | (go_at_call 6
                   refine (C.out _).mono ?_
                   rintro e w5 ⟨rfl, hb5⟩
                   have hx := HX.out.1.next hb5
                   have hy := HX.out.2.2.next hb5
                   have hxc := hx.cell
                   have hxc2 := hy.cell
                   have hxf2 := hy.free
                   have hxl2 := hy.lt
                   have HY := Lib.hid (And.intro (HX.out.2.1.trans (hb5.mono HX.out.2.1.size)) (And.intro hx hy))
                   clear hb5 hx hy))
            refine bodyPost_ret (v := FN.v ⟨3, 0, 0, false⟩) ?_ rfl ?_
            · simp [results, Tryd.results8, go_sem, hxc2, FN.v]
            refine ⟨by rw [HP.out], ?_⟩
            repeat (first | with_reducible exact HY.out.1 | refine Below.setCell ?_ (by simp) _)
          · have k2 : (NM.toList == S.toList) = false := by rw [← HNM.out, ← HS.out]; exact beq_no hq1
            have HQ := Lib.hid hq1
            clear hq0 hq1
            go_wp2_with (first
                | (go_at_call 6
                   refine (C.out _).mono ?_
                   rintro e w5 ⟨rfl, hb5⟩
                   have hx := HX.out.1.next hb5
                   have hy := HX.out.2.2.next hb5
                   have hxc := hx.cell
                   have hxc2 := hy.cell
                   have hxf2 := hy.free
                   have hxl2 := hy.lt
                   have HY := Lib.hid (And.intro (HX.out.2.1.trans (hb5.mono HX.out.2.1.size)) (And.intro hx hy))
                   clear hb5 hx hy))
            go_roundw
            case rel => exact ⟨1, by omega, rfl, HY.out.1, HY.out.2.2, none_next H.out.2.2 HC.out (fun h => HQ.out (HM.out.symm.trans h.2))⟩
            case measure => simp [intOf]
        · have H := Lib.hid (And.intro hb (And.intro hx2 hno))
          clear hb hx2 hno ht
          rw [show ((1 : Nat) : Int) = 1 from rfl]
          have hc : (candsR s)[5]? = some ⟨3, 0, 0, true⟩ := by
            show some (candR s 3 true) = _
            unfold candR
            rw [HI.out]
            simp
          have C := Lib.hid (nameR_any 3 0 0 true)
          have HC := Lib.hid hc
          clear hc
          generalize hnm : nameN ⟨3, 0, 0, true⟩ = nm at C
          have HM := Lib.hid hnm
          clear hnm
          obtain ⟨NM, hNM⟩ : ∃ S : ByteArray, (⟨nm.toArray⟩ : ByteArray) = S := ⟨_, rfl⟩
          rw [hNM] at C
          have HNM := Lib.hid hNM
          clear hNM
          have hx := Box.new wr 23 #[.int .i64 3, .int .i64 0, .int .i64 0, .bool true]
          have hbw := Below.al wr (.cells #[.int .i64 3, .int .i64 0, .int .i64 0, .bool true] 23)
          have HX := Lib.hid (And.intro hx (And.intro (H.out.1.trans (hbw.mono H.out.1.size)) (H.out.2.1.next hbw)))
          clear hx hbw
          by_cases hq0 : nm = []
          · have k1 : (NM.toList == []) = true := by rw [← HNM.out]; exact beq_yes2 hq0
            have HQ := Lib.hid hq0
            clear hq0
            go_wp2_with (first
                | (go_at_call 6
                   refine (C.out _).mono ?_
                   rintro e w5 ⟨rfl, hb5⟩
                   have hx := HX.out.1.next hb5
                   have hy := HX.out.2.2.next hb5
                   have hxc := hx.cell
                   have hxc2 := hy.cell
                   have hxf2 := hy.free
                   have hxl2 := hy.lt
                   have HY := Lib.hid (And.intro (HX.out.2.1.trans (hb5.mono HX.out.2.1.size)) (And.intro hx hy))
                   clear hb5 hx hy))
            go_roundw
            case rel => exact ⟨2, by omega, rfl, HY.out.1, HY.out.2.2, none_next H.out.2.2 HC.out (fun h => h.1 (HM.out.trans HQ.out))⟩
            case measure => simp [intOf]
          have k1 : (NM.toList == []) = false := by rw [← HNM.out]; exact beq_no2 hq0
          by_cases hq1 : nm = s
          · have k2 : (NM.toList == S.toList) = true := by rw [← HNM.out, ← HS.out]; exact beq_yes hq1
            have HP := Lib.hid (parse_hit H.out.2.2 HC.out ⟨fun e => hq0 (HM.out.symm.trans e), HM.out.trans hq1⟩)
            clear hq0 hq1
            go_wp2_with (first
                | (go_at_call 6
                   refine (C.out _).mono ?_
                   rintro e w5 ⟨rfl, hb5⟩
                   have hx := HX.out.1.next hb5
                   have hy := HX.out.2.2.next hb5
                   have hxc := hx.cell
                   have hxc2 := hy.cell
                   have hxf2 := hy.free
                   have hxl2 := hy.lt
                   have HY := Lib.hid (And.intro (HX.out.2.1.trans (hb5.mono HX.out.2.1.size)) (And.intro hx hy))
                   clear hb5 hx hy))
            refine bodyPost_ret (v := FN.v ⟨3, 0, 0, true⟩) ?_ rfl ?_
            · simp [results, Tryd.results8, go_sem, hxc2, FN.v]
            refine ⟨by rw [HP.out], ?_⟩
            repeat (first | with_reducible exact HY.out.1 | refine Below.setCell ?_ (by simp) _)
          · have k2 : (NM.toList == S.toList) = false := by rw [← HNM.out, ← HS.out]; exact beq_no hq1
            have HQ := Lib.hid hq1
            clear hq0 hq1
            go_wp2_with (first
                | (go_at_call 6
                   refine (C.out _).mono ?_
                   rintro e w5 ⟨rfl, hb5⟩
                   have hx := HX.out.1.next hb5
                   have hy := HX.out.2.2.next hb5
                   have hxc := hx.cell
                   have hxc2 := hy.cell
                   have hxf2 := hy.free
                   have hxl2 := hy.lt
                   have HY := Lib.hid (And.intro (HX.out.2.1.trans (hb5.mono HX.out.2.1.size)) (And.intro hx hy))
                   clear hb5 hx hy))
            go_roundw
            case rel => exact ⟨2, by omega, rfl, HY.out.1, HY.out.2.2, none_next H.out.2.2 HC.out (fun h => HQ.out (HM.out.symm.trans h.2))⟩
            case measure => simp [intOf]
        · have H := Lib.hid (And.intro hb (And.intro hx2 hno))
          clear hb hx2 hno ht
          rw [show ((2 : Nat) : Int) = 2 from rfl]
          go_wp2_with fail
          go_roundw
          case rel => exact ⟨4, by omega, by omega, rfl, H.out.1, H.out.2.1, H.out.2.2⟩
          case measure => simp [intOf]
    · clear hk hk1 hk5
      rw [show ((4 : Nat) : Int) = 4 from rfl]
      go_wp2_with fail
      go_loopw [10] (fun tv wr => ∃ t : Nat, t ≤ 2 ∧ tv = .int .i64 t ∧ Below w.heap.size w wr ∧ Box wr w.heap.size 23 #[.int .i64 0, .int .i64 0, .int .i64 0, .bool false] ∧ NoneOf s (6 + t)) (fun tv _ => 2 - (intOf tv).toNat)
      case atStart => exact ⟨0, by omega, rfl, H0.out.1, H0.out.2.1, H0.out.2.2⟩
      case round =>
        clear H0
        obtain ⟨t, ht, rfl, hb, hx2, hno⟩ := hrel
        rcases (show t = 0 ∨ t = 1 ∨ t = 2 by omega) with rfl | rfl | rfl
        · have H := Lib.hid (And.intro hb (And.intro hx2 hno))
          clear hb hx2 hno ht
          rw [show ((0 : Nat) : Int) = 0 from rfl]
          have hc : (candsR s)[6]? = some ⟨4, 0, 0, false⟩ := by
            show some (candR s 4 false) = _
            unfold candR
            rw [HI.out]
            simp
          have C := Lib.hid (nameR_any 4 0 0 false)
          have HC := Lib.hid hc
          clear hc
          generalize hnm : nameN ⟨4, 0, 0, false⟩ = nm at C
          have HM := Lib.hid hnm
          clear hnm
          obtain ⟨NM, hNM⟩ : ∃ S : ByteArray, (⟨nm.toArray⟩ : ByteArray) = S := ⟨_, rfl⟩
          rw [hNM] at C
          have HNM := Lib.hid hNM
          clear hNM
          have hx := Box.new wr 23 #[.int .i64 4, .int .i64 0, .int .i64 0, .bool false]
          have hbw := Below.al wr (.cells #[.int .i64 4, .int .i64 0, .int .i64 0, .bool false] 23)
          have HX := Lib.hid (And.intro hx (And.intro (H.out.1.trans (hbw.mono H.out.1.size)) (H.out.2.1.next hbw)))
          clear hx hbw
          by_cases hq0 : nm = []
          · have k1 : (NM.toList == []) = true := by rw [← HNM.out]; exact beq_yes2 hq0
            have HQ := Lib.hid hq0
            clear hq0
            go_wp2_with (first
                | (go_at_call 6
                   refine (C.out _).mono ?_
                   rintro e w5 ⟨rfl, hb5⟩
                   have hx := HX.out.1.next hb5
                   have hy := HX.out.2.2.next hb5
                   have hxc := hx.cell
                   have hxc2 := hy.cell
                   have hxf2 := hy.free
                   have hxl2 := hy.lt
                   have HY := Lib.hid (And.intro (HX.out.2.1.trans (hb5.mono HX.out.2.1.size)) (And.intro hx hy))
                   clear hb5 hx hy))
            go_roundw
            case rel => exact ⟨1, by omega, rfl, HY.out.1, HY.out.2.2, none_next H.out.2.2 HC.out (fun h => h.1 (HM.out.trans HQ.out))⟩
            case measure => simp [intOf]
          have k1 : (NM.toList == []) = false := by rw [← HNM.out]; exact beq_no2 hq0
          by_cases hq1 : nm = s
          · have k2 : (NM.toList == S.toList) = true := by rw [← HNM.out, ← HS.out]; exact beq_yes hq1
            have HP := Lib.hid (parse_hit H.out.2.2 HC.out ⟨fun e => hq0 (HM.out.symm.trans e), HM.out.trans hq1⟩)
            clear hq0 hq1
            go_wp2_with (first
                | (go_at_call 6
                   refine (C.out _).mono ?_
                   rintro e w5 ⟨rfl, hb5⟩
                   have hx := HX.out.1.next hb5
                   have hy := HX.out.2.2.next hb5
                   have hxc := hx.cell
                   have hxc2 := hy.cell
                   have hxf2 := hy.free
                   have hxl2 := hy.lt
                   have HY := Lib.hid (And.intro (HX.out.2.1.trans (hb5.mono HX.out.2.1.size)) (And.intro hx hy))
                   clear hb5 hx hy))
            refine bodyPost_ret (v := FN.v ⟨4, 0, 0, false⟩) ?_ rfl ?_
            · simp [results, Tryd.results8, go_sem, hxc2, FN.v]
            refine ⟨by rw [HP.out], ?_⟩
            repeat (first | with_reducible exact HY.out.1 | refine Below.setCell ?_ (by simp) _)
          · have k2 : (NM.toList == S.toList) = false := by rw [← HNM.out, ← HS.out]; exact beq_no hq1
            have HQ := Lib.hid hq1
            clear hq0 hq1
            go_wp2_with (first
                | (go_at_call 6
                   refine (C.out _).mono ?_
                   rintro e w5 ⟨rfl, hb5⟩
                   have hx := HX.out.1.next hb5
                   have hy := HX.out.2.2.next hb5
                   have hxc := hx.cell
                   have hxc2 := hy.cell
                   have hxf2 := hy.free
                   have hxl2 := hy.lt
                   have HY := Lib.hid (And.intro (HX.out.2.1.trans (hb5.mono HX.out.2.1.size)) (And.intro hx hy))
                   clear hb5 hx hy))
            go_roundw
            case rel => exact ⟨1, by omega, rfl, HY.out.1, HY.out.2.2, none_next H.out.2.2 HC.out (fun h => HQ.out (HM.out.symm.trans h.2))⟩
            case measure => simp [intOf]
        · have H := Lib.hid (And.intro hb (And.intro hx2 hno))
          clear hb hx2 hno ht
          rw [show ((1 : Nat) : Int) = 1 from rfl]
          have hc : (candsR s)[7]? = some ⟨4, 0, 0, true⟩ := by
            show some (candR s 4 true) = _
            unfold candR
            rw [HI.out]
            simp
          have C := Lib.hid (nameR_any 4 0 0 true)
          have HC := Lib.hid hc
          clear hc
          generalize hnm : nameN ⟨4, 0, 0, true⟩ = nm at C
          have HM := Lib.hid hnm
          clear hnm
          obtain ⟨NM, hNM⟩ : ∃ S : ByteArray, (⟨nm.toArray⟩ : ByteArray) = S := ⟨_, rfl⟩
          rw [hNM] at C
          have HNM := Lib.hid hNM
          clear hNM
          have hx := Box.new wr 23 #[.int .i64 4, .int .i64 0, .int .i64 0, .bool true]
          have hbw := Below.al wr (.cells #[.int .i64 4, .int .i64 0, .int .i64 0, .bool true] 23)
          have HX := Lib.hid (And.intro hx (And.intro (H.out.1.trans (hbw.mono H.out.1.size)) (H.out.2.1.next hbw)))
          clear hx hbw
          by_cases hq0 : nm = []
          · have k1 : (NM.toList == []) = true := by rw [← HNM.out]; exact beq_yes2 hq0
            have HQ := Lib.hid hq0
            clear hq0
            go_wp2_with (first
                | (go_at_call 6
                   refine (C.out _).mono ?_
                   rintro e w5 ⟨rfl, hb5⟩
                   have hx := HX.out.1.next hb5
                   have hy := HX.out.2.2.next hb5
                   have hxc := hx.cell
                   have hxc2 := hy.cell
                   have hxf2 := hy.free
                   have hxl2 := hy.lt
                   have HY := Lib.hid (And.intro (HX.out.2.1.trans (hb5.mono HX.out.2.1.size)) (And.intro hx hy))
                   clear hb5 hx hy))
            go_roundw
            case rel => exact ⟨2, by omega, rfl, HY.out.1, HY.out.2.2, none_next H.out.2.2 HC.out (fun h => h.1 (HM.out.trans HQ.out))⟩
            case measure => simp [intOf]
          have k1 : (NM.toList == []) = false := by rw [← HNM.out]; exact beq_no2 hq0
          by_cases hq1 : nm = s
          · have k2 : (NM.toList == S.toList) = true := by rw [← HNM.out, ← HS.out]; exact beq_yes hq1
            have HP := Lib.hid (parse_hit H.out.2.2 HC.out ⟨fun e => hq0 (HM.out.symm.trans e), HM.out.trans hq1⟩)
            clear hq0 hq1
            go_wp2_with (first
                | (go_at_call 6
                   refine (C.out _).mono ?_
                   rintro e w5 ⟨rfl, hb5⟩
                   have hx := HX.out.1.next hb5
                   have hy := HX.out.2.2.next hb5
                   have hxc := hx.cell
                   have hxc2 := hy.cell
                   have hxf2 := hy.free
                   have hxl2 := hy.lt
                   have HY := Lib.hid (And.intro (HX.out.2.1.trans (hb5.mono HX.out.2.1.size)) (And.intro hx hy))
                   clear hb5 hx hy))
            refine bodyPost_ret (v := FN.v ⟨4, 0, 0, true⟩) ?_ rfl ?_
            · simp [results, Tryd.results8, go_sem, hxc2, FN.v]
            refine ⟨by rw [HP.out], ?_⟩
            repeat (first | with_reducible exact HY.out.1 | refine Below.setCell ?_ (by simp) _)
          · have k2 : (NM.toList == S.toList) = false := by rw [← HNM.out, ← HS.out]; exact beq_no hq1
            have HQ := Lib.hid hq1
            clear hq0 hq1
            go_wp2_with (first
                | (go_at_call 6
                   refine (C.out _).mono ?_
                   rintro e w5 ⟨rfl, hb5⟩
                   have hx := HX.out.1.next hb5
                   have hy := HX.out.2.2.next hb5
                   have hxc := hx.cell
                   have hxc2 := hy.cell
                   have hxf2 := hy.free
                   have hxl2 := hy.lt
                   have HY := Lib.hid (And.intro (HX.out.2.1.trans (hb5.mono HX.out.2.1.size)) (And.intro hx hy))
                   clear hb5 hx hy))
            go_roundw
            case rel => exact ⟨2, by omega, rfl, HY.out.1, HY.out.2.2, none_next H.out.2.2 HC.out (fun h => HQ.out (HM.out.symm.trans h.2))⟩
            case measure => simp [intOf]
        · have H := Lib.hid (And.intro hb (And.intro hx2 hno))
          clear hb hx2 hno ht
          rw [show ((2 : Nat) : Int) = 2 from rfl]
          go_wp2_with fail
          go_roundw
          case rel => exact ⟨5, by omega, by omega, rfl, H.out.1, H.out.2.1, H.out.2.2⟩
          case measure => simp [intOf]
set_option maxRecDepth 100000 in
set_option maxHeartbeats 8000000 in
theorem parseR_1 (s : List UInt8) (b : UInt8) (r : List UInt8) (hs1 : s = b :: r) (hb : b = 116) (hr : (digR 0 r).2 = []) (hs : s.length ≤ 1048576) (w : World) :
    Calls Tryd.prog 8 #[.string ⟨s.toArray⟩] w fun e w' => e = .returned (FN.v (parseR s)) ∧ Below w.heap.size w w' := by
  obtain ⟨S, hS⟩ : ∃ S : ByteArray, (⟨s.toArray⟩ : ByteArray) = S := ⟨_, rfl⟩
  have HS := Lib.hid hS
  have hSz : S.size = s.length := by rw [← hS]; show s.toArray.size = _; simp
  have hSl : S.data.toList = s := by rw [← hS]
  have hpos : 0 < S.size := by rw [hSz, hs1]; simp
  have hs0 : S[0]'hpos = b := by
    show S.data[0]'_ = b
    have h2 : S.data.toList[0]? = some b := by rw [hSl, hs1]; rfl
    have h3 : S.data[0]? = some b := by simpa using h2
    exact (Array.getElem?_eq_some_iff.1 h3).2
  have h01 : (0 : Int) < S.size := by omega
  have hbn : (b.toNat : Int) = 116 := by rw [hb]; rfl
  have hd1 : S.data.toList.drop 1 = r := by rw [hSl, hs1]; rfl
  have D1 := digits_any S 1 (by rw [hSz, hs1]; simp) (by rw [hSz]; exact hs)
  rw [hd1] at D1
  obtain ⟨hsuf, hle⟩ := dig_suffix 0 r
  have hszr : S.size = r.length + 1 := by rw [hSz, hs1]; rfl
  rw [hr, List.length_nil, Nat.sub_zero] at D1
  obtain ⟨id, hid0⟩ : ∃ id : Nat, (digR 0 r).1 = id := ⟨_, rfl⟩
  have HI := Lib.hid (show idsR s = (id, 0) by rw [hs1, idsR, if_pos hb, hr, hid0])
  rw [hid0] at D1
  have D1 := Lib.hid D1
  clear hSz hSl hszr hsuf hle hd1 hid0 hs hr
  rw [hS]
  clear hS
  have HB := Lib.hid (And.intro (Below.al w (.cells #[.int .i64 0, .int .i64 0, .int .i64 0, .bool false] 23)) (Box.new w 23 #[.int .i64 0, .int .i64 0, .int .i64 0, .bool false]))
  go_enter Tryd.func8, Tryd.ntmps8
  go_wp2_with (first
    | (go_at_call 31
       have z0 := D1
       clear z0
       refine (D1.out _).mono ?_
       rintro e w1 ⟨rfl, hw1⟩
       rw [hw1]
       clear hw1 D1)
    | fail)
  go_loopw [9] (fun kv wr => ∃ k : Nat, 1 ≤ k ∧ k ≤ 5 ∧ kv = .int .i64 k ∧ Below w.heap.size w wr ∧ Box wr w.heap.size 23 #[.int .i64 0, .int .i64 0, .int .i64 0, .bool false] ∧ NoneOf s (2 * (k - 1))) (fun kv _ => 5 - (intOf kv).toNat)
  case atStart => exact ⟨1, by omega, by omega, rfl, HB.out.1, HB.out.2, none_zero s⟩
  case round =>
    clear HB
    obtain ⟨k, hk1, hk5, rfl, hb, hx2, hno⟩ := hrel
    have H0 := Lib.hid (And.intro hb (And.intro hx2 hno))
    clear hb hx2 hno
    by_cases hk : k = 5
    · subst hk
      rw [show ((5 : Nat) : Int) = 5 from rfl]
      have HP := Lib.hid (parse_miss H0.out.2.2)
      have hxc2 := H0.out.2.1.cell
      have hxf2 := H0.out.2.1.free
      have hxl2 := H0.out.2.1.lt
      go_wp2_with fail
      refine bodyPost_ret (v := FN.v FN.zero) ?_ rfl ?_
      · simp [results, Tryd.results8, go_sem, hxc2, FN.v, FN.zero]
      refine ⟨by rw [HP.out], ?_⟩
      repeat (first | with_reducible exact H0.out.1 | refine Below.setCell ?_ (by simp) _)
    rcases (show k = 1 ∨ k = 2 ∨ k = 3 ∨ k = 4 by omega) with rfl | rfl | rfl | rfl
    · clear hk hk1 hk5
      rw [show ((1 : Nat) : Int) = 1 from rfl]
      go_wp2_with fail
      go_loopw [10] (fun tv wr => ∃ t : Nat, t ≤ 2 ∧ tv = .int .i64 t ∧ Below w.heap.size w wr ∧ Box wr w.heap.size 23 #[.int .i64 0, .int .i64 0, .int .i64 0, .bool false] ∧ NoneOf s (0 + t)) (fun tv _ => 2 - (intOf tv).toNat)
      case atStart => exact ⟨0, by omega, rfl, H0.out.1, H0.out.2.1, H0.out.2.2⟩
      case round =>
        clear H0
        obtain ⟨t, ht, rfl, hb, hx2, hno⟩ := hrel
        rcases (show t = 0 ∨ t = 1 ∨ t = 2 by omega) with rfl | rfl | rfl
        · have H := Lib.hid (And.intro hb (And.intro hx2 hno))
          clear hb hx2 hno ht
          rw [show ((0 : Nat) : Int) = 0 from rfl]
          have hc : (candsR s)[0]? = some ⟨1, id, 0, false⟩ := by
            show some (candR s 1 false) = _
            unfold candR
            rw [HI.out]
            simp
          have C := Lib.hid (nameR_any 1 id 0 false)
          have HC := Lib.hid hc
          clear hc
          generalize hnm : nameN ⟨1, id, 0, false⟩ = nm at C
          have HM := Lib.hid hnm
          clear hnm
          obtain ⟨NM, hNM⟩ : ∃ S : ByteArray, (⟨nm.toArray⟩ : ByteArray) = S := ⟨_, rfl⟩
          rw [hNM] at C
          have HNM := Lib.hid hNM
          clear hNM
          have hx := Box.new wr 23 #[.int .i64 1, .int .i64 id, .int .i64 0, .bool false]
          have hbw := Below.al wr (.cells #[.int .i64 1, .int .i64 id, .int .i64 0, .bool false] 23)
          have HX := Lib.hid (And.intro hx (And.intro (H.out.1.trans (hbw.mono H.out.1.size)) (H.out.2.1.next hbw)))
          clear hx hbw
          by_cases hq0 : nm = []
          · have k1 : (NM.toList == []) = true := by rw [← HNM.out]; exact beq_yes2 hq0
            have HQ := Lib.hid hq0
            clear hq0
            go_wp2_with (first
                | (go_at_call 6
                   refine (C.out _).mono ?_
                   rintro e w5 ⟨rfl, hb5⟩
                   have hx := HX.out.1.next hb5
                   have hy := HX.out.2.2.next hb5
                   have hxc := hx.cell
                   have hxc2 := hy.cell
                   have hxf2 := hy.free
                   have hxl2 := hy.lt
                   have HY := Lib.hid (And.intro (HX.out.2.1.trans (hb5.mono HX.out.2.1.size)) (And.intro hx hy))
                   clear hb5 hx hy))
            go_roundw
            case rel => exact ⟨1, by omega, rfl, HY.out.1, HY.out.2.2, none_next H.out.2.2 HC.out (fun h => h.1 (HM.out.trans HQ.out))⟩
            case measure => simp [intOf]
          have k1 : (NM.toList == []) = false := by rw [← HNM.out]; exact beq_no2 hq0
          by_cases hq1 : nm = s
          · have k2 : (NM.toList == S.toList) = true := by rw [← HNM.out, ← HS.out]; exact beq_yes hq1
            have HP := Lib.hid (parse_hit H.out.2.2 HC.out ⟨fun e => hq0 (HM.out.symm.trans e), HM.out.trans hq1⟩)
            clear hq0 hq1
            go_wp2_with (first
                | (go_at_call 6
                   refine (C.out _).mono ?_
                   rintro e w5 ⟨rfl, hb5⟩
                   have hx := HX.out.1.next hb5
                   have hy := HX.out.2.2.next hb5
                   have hxc := hx.cell
                   have hxc2 := hy.cell
                   have hxf2 := hy.free
                   have hxl2 := hy.lt
                   have HY := Lib.hid (And.intro (HX.out.2.1.trans (hb5.mono HX.out.2.1.size)) (And.intro hx hy))
                   clear hb5 hx hy))
            refine bodyPost_ret (v := FN.v ⟨1, id, 0, false⟩) ?_ rfl ?_
            · simp [results, Tryd.results8, go_sem, hxc2, FN.v]
            refine ⟨by rw [HP.out], ?_⟩
            repeat (first | with_reducible exact HY.out.1 | refine Below.setCell ?_ (by simp) _)
          · have k2 : (NM.toList == S.toList) = false := by rw [← HNM.out, ← HS.out]; exact beq_no hq1
            have HQ := Lib.hid hq1
            clear hq0 hq1
            go_wp2_with (first
                | (go_at_call 6
                   refine (C.out _).mono ?_
                   rintro e w5 ⟨rfl, hb5⟩
                   have hx := HX.out.1.next hb5
                   have hy := HX.out.2.2.next hb5
                   have hxc := hx.cell
                   have hxc2 := hy.cell
                   have hxf2 := hy.free
                   have hxl2 := hy.lt
                   have HY := Lib.hid (And.intro (HX.out.2.1.trans (hb5.mono HX.out.2.1.size)) (And.intro hx hy))
                   clear hb5 hx hy))
            go_roundw
            case rel => exact ⟨1, by omega, rfl, HY.out.1, HY.out.2.2, none_next H.out.2.2 HC.out (fun h => HQ.out (HM.out.symm.trans h.2))⟩
            case measure => simp [intOf]
        · have H := Lib.hid (And.intro hb (And.intro hx2 hno))
          clear hb hx2 hno ht
          rw [show ((1 : Nat) : Int) = 1 from rfl]
          have hc : (candsR s)[1]? = some ⟨1, id, 0, true⟩ := by
            show some (candR s 1 true) = _
            unfold candR
            rw [HI.out]
            simp
          have C := Lib.hid (nameR_any 1 id 0 true)
          have HC := Lib.hid hc
          clear hc
          generalize hnm : nameN ⟨1, id, 0, true⟩ = nm at C
          have HM := Lib.hid hnm
          clear hnm
          obtain ⟨NM, hNM⟩ : ∃ S : ByteArray, (⟨nm.toArray⟩ : ByteArray) = S := ⟨_, rfl⟩
          rw [hNM] at C
          have HNM := Lib.hid hNM
          clear hNM
          have hx := Box.new wr 23 #[.int .i64 1, .int .i64 id, .int .i64 0, .bool true]
          have hbw := Below.al wr (.cells #[.int .i64 1, .int .i64 id, .int .i64 0, .bool true] 23)
          have HX := Lib.hid (And.intro hx (And.intro (H.out.1.trans (hbw.mono H.out.1.size)) (H.out.2.1.next hbw)))
          clear hx hbw
          by_cases hq0 : nm = []
          · have k1 : (NM.toList == []) = true := by rw [← HNM.out]; exact beq_yes2 hq0
            have HQ := Lib.hid hq0
            clear hq0
            go_wp2_with (first
                | (go_at_call 6
                   refine (C.out _).mono ?_
                   rintro e w5 ⟨rfl, hb5⟩
                   have hx := HX.out.1.next hb5
                   have hy := HX.out.2.2.next hb5
                   have hxc := hx.cell
                   have hxc2 := hy.cell
                   have hxf2 := hy.free
                   have hxl2 := hy.lt
                   have HY := Lib.hid (And.intro (HX.out.2.1.trans (hb5.mono HX.out.2.1.size)) (And.intro hx hy))
                   clear hb5 hx hy))
            go_roundw
            case rel => exact ⟨2, by omega, rfl, HY.out.1, HY.out.2.2, none_next H.out.2.2 HC.out (fun h => h.1 (HM.out.trans HQ.out))⟩
            case measure => simp [intOf]
          have k1 : (NM.toList == []) = false := by rw [← HNM.out]; exact beq_no2 hq0
          by_cases hq1 : nm = s
          · have k2 : (NM.toList == S.toList) = true := by rw [← HNM.out, ← HS.out]; exact beq_yes hq1
            have HP := Lib.hid (parse_hit H.out.2.2 HC.out ⟨fun e => hq0 (HM.out.symm.trans e), HM.out.trans hq1⟩)
            clear hq0 hq1
            go_wp2_with (first
                | (go_at_call 6
                   refine (C.out _).mono ?_
                   rintro e w5 ⟨rfl, hb5⟩
                   have hx := HX.out.1.next hb5
                   have hy := HX.out.2.2.next hb5
                   have hxc := hx.cell
                   have hxc2 := hy.cell
                   have hxf2 := hy.free
                   have hxl2 := hy.lt
                   have HY := Lib.hid (And.intro (HX.out.2.1.trans (hb5.mono HX.out.2.1.size)) (And.intro hx hy))
                   clear hb5 hx hy))
            refine bodyPost_ret (v := FN.v ⟨1, id, 0, true⟩) ?_ rfl ?_
            · simp [results, Tryd.results8, go_sem, hxc2, FN.v]
            refine ⟨by rw [HP.out], ?_⟩
            repeat (first | with_reducible exact HY.out.1 | refine Below.setCell ?_ (by simp) _)
          · have k2 : (NM.toList == S.toList) = false := by rw [← HNM.out, ← HS.out]; exact beq_no hq1
            have HQ := Lib.hid hq1
            clear hq0 hq1
            go_wp2_with (first
                | (go_at_call 6
                   refine (C.out _).mono ?_
                   rintro e w5 ⟨rfl, hb5⟩
                   have hx := HX.out.1.next hb5
                   have hy := HX.out.2.2.next hb5
                   have hxc := hx.cell
                   have hxc2 := hy.cell
                   have hxf2 := hy.free
                   have hxl2 := hy.lt
                   have HY := Lib.hid (And.intro (HX.out.2.1.trans (hb5.mono HX.out.2.1.size)) (And.intro hx hy))
                   clear hb5 hx hy))
            go_roundw
            case rel => exact ⟨2, by omega, rfl, HY.out.1, HY.out.2.2, none_next H.out.2.2 HC.out (fun h => HQ.out (HM.out.symm.trans h.2))⟩
            case measure => simp [intOf]
        · have H := Lib.hid (And.intro hb (And.intro hx2 hno))
          clear hb hx2 hno ht
          rw [show ((2 : Nat) : Int) = 2 from rfl]
          go_wp2_with fail
          go_roundw
          case rel => exact ⟨2, by omega, by omega, rfl, H.out.1, H.out.2.1, H.out.2.2⟩
          case measure => simp [intOf]
    · clear hk hk1 hk5
      rw [show ((2 : Nat) : Int) = 2 from rfl]
      go_wp2_with fail
      go_loopw [10] (fun tv wr => ∃ t : Nat, t ≤ 2 ∧ tv = .int .i64 t ∧ Below w.heap.size w wr ∧ Box wr w.heap.size 23 #[.int .i64 0, .int .i64 0, .int .i64 0, .bool false] ∧ NoneOf s (2 + t)) (fun tv _ => 2 - (intOf tv).toNat)
      case atStart => exact ⟨0, by omega, rfl, H0.out.1, H0.out.2.1, H0.out.2.2⟩
      case round =>
        clear H0
        obtain ⟨t, ht, rfl, hb, hx2, hno⟩ := hrel
        rcases (show t = 0 ∨ t = 1 ∨ t = 2 by omega) with rfl | rfl | rfl
        · have H := Lib.hid (And.intro hb (And.intro hx2 hno))
          clear hb hx2 hno ht
          rw [show ((0 : Nat) : Int) = 0 from rfl]
          have hc : (candsR s)[2]? = some ⟨2, id, 0, false⟩ := by
            show some (candR s 2 false) = _
            unfold candR
            rw [HI.out]
            simp
          have C := Lib.hid (nameR_any 2 id 0 false)
          have HC := Lib.hid hc
          clear hc
          generalize hnm : nameN ⟨2, id, 0, false⟩ = nm at C
          have HM := Lib.hid hnm
          clear hnm
          obtain ⟨NM, hNM⟩ : ∃ S : ByteArray, (⟨nm.toArray⟩ : ByteArray) = S := ⟨_, rfl⟩
          rw [hNM] at C
          have HNM := Lib.hid hNM
          clear hNM
          have hx := Box.new wr 23 #[.int .i64 2, .int .i64 id, .int .i64 0, .bool false]
          have hbw := Below.al wr (.cells #[.int .i64 2, .int .i64 id, .int .i64 0, .bool false] 23)
          have HX := Lib.hid (And.intro hx (And.intro (H.out.1.trans (hbw.mono H.out.1.size)) (H.out.2.1.next hbw)))
          clear hx hbw
          by_cases hq0 : nm = []
          · have k1 : (NM.toList == []) = true := by rw [← HNM.out]; exact beq_yes2 hq0
            have HQ := Lib.hid hq0
            clear hq0
            go_wp2_with (first
                | (go_at_call 6
                   refine (C.out _).mono ?_
                   rintro e w5 ⟨rfl, hb5⟩
                   have hx := HX.out.1.next hb5
                   have hy := HX.out.2.2.next hb5
                   have hxc := hx.cell
                   have hxc2 := hy.cell
                   have hxf2 := hy.free
                   have hxl2 := hy.lt
                   have HY := Lib.hid (And.intro (HX.out.2.1.trans (hb5.mono HX.out.2.1.size)) (And.intro hx hy))
                   clear hb5 hx hy))
            go_roundw
            case rel => exact ⟨1, by omega, rfl, HY.out.1, HY.out.2.2, none_next H.out.2.2 HC.out (fun h => h.1 (HM.out.trans HQ.out))⟩
            case measure => simp [intOf]
          have k1 : (NM.toList == []) = false := by rw [← HNM.out]; exact beq_no2 hq0
          by_cases hq1 : nm = s
          · have k2 : (NM.toList == S.toList) = true := by rw [← HNM.out, ← HS.out]; exact beq_yes hq1
            have HP := Lib.hid (parse_hit H.out.2.2 HC.out ⟨fun e => hq0 (HM.out.symm.trans e), HM.out.trans hq1⟩)
            clear hq0 hq1
            go_wp2_with (first
                | (go_at_call 6
                   refine (C.out _).mono ?_
                   rintro e w5 ⟨rfl, hb5⟩
                   have hx := HX.out.1.next hb5
                   have hy := HX.out.2.2.next hb5
                   have hxc := hx.cell
                   have hxc2 := hy.cell
                   have hxf2 := hy.free
                   have hxl2 := hy.lt
                   have HY := Lib.hid (And.intro (HX.out.2.1.trans (hb5.mono HX.out.2.1.size)) (And.intro hx hy))
                   clear hb5 hx hy))
            refine bodyPost_ret (v := FN.v ⟨2, id, 0, false⟩) ?_ rfl ?_
            · simp [results, Tryd.results8, go_sem, hxc2, FN.v]
            refine ⟨by rw [HP.out], ?_⟩
            repeat (first | with_reducible exact HY.out.1 | refine Below.setCell ?_ (by simp) _)
          · have k2 : (NM.toList == S.toList) = false := by rw [← HNM.out, ← HS.out]; exact beq_no hq1
            have HQ := Lib.hid hq1
            clear hq0 hq1
            go_wp2_with (first
                | (go_at_call 6
                   refine (C.out _).mono ?_
                   rintro e w5 ⟨rfl, hb5⟩
                   have hx := HX.out.1.next hb5
                   have hy := HX.out.2.2.next hb5
                   have hxc := hx.cell
                   have hxc2 := hy.cell
                   have hxf2 := hy.free
                   have hxl2 := hy.lt
                   have HY := Lib.hid (And.intro (HX.out.2.1.trans (hb5.mono HX.out.2.1.size)) (And.intro hx hy))
                   clear hb5 hx hy))
            go_roundw
            case rel => exact ⟨1, by omega, rfl, HY.out.1, HY.out.2.2, none_next H.out.2.2 HC.out (fun h => HQ.out (HM.out.symm.trans h.2))⟩
            case measure => simp [intOf]
        · have H := Lib.hid (And.intro hb (And.intro hx2 hno))
          clear hb hx2 hno ht
          rw [show ((1 : Nat) : Int) = 1 from rfl]
          have hc : (candsR s)[3]? = some ⟨2, id, 0, true⟩ := by
            show some (candR s 2 true) = _
            unfold candR
            rw [HI.out]
            simp
          have C := Lib.hid (nameR_any 2 id 0 true)
          have HC := Lib.hid hc
          clear hc
          generalize hnm : nameN ⟨2, id, 0, true⟩ = nm at C
          have HM := Lib.hid hnm
          clear hnm
          obtain ⟨NM, hNM⟩ : ∃ S : ByteArray, (⟨nm.toArray⟩ : ByteArray) = S := ⟨_, rfl⟩
          rw [hNM] at C
          have HNM := Lib.hid hNM
          clear hNM
          have hx := Box.new wr 23 #[.int .i64 2, .int .i64 id, .int .i64 0, .bool true]
          have hbw := Below.al wr (.cells #[.int .i64 2, .int .i64 id, .int .i64 0, .bool true] 23)
          have HX := Lib.hid (And.intro hx (And.intro (H.out.1.trans (hbw.mono H.out.1.size)) (H.out.2.1.next hbw)))
          clear hx hbw
          by_cases hq0 : nm = []
          · have k1 : (NM.toList == []) = true := by rw [← HNM.out]; exact beq_yes2 hq0
            have HQ := Lib.hid hq0
            clear hq0
            go_wp2_with (first
                | (go_at_call 6
                   refine (C.out _).mono ?_
                   rintro e w5 ⟨rfl, hb5⟩
                   have hx := HX.out.1.next hb5
                   have hy := HX.out.2.2.next hb5
                   have hxc := hx.cell
                   have hxc2 := hy.cell
                   have hxf2 := hy.free
                   have hxl2 := hy.lt
                   have HY := Lib.hid (And.intro (HX.out.2.1.trans (hb5.mono HX.out.2.1.size)) (And.intro hx hy))
                   clear hb5 hx hy))
            go_roundw
            case rel => exact ⟨2, by omega, rfl, HY.out.1, HY.out.2.2, none_next H.out.2.2 HC.out (fun h => h.1 (HM.out.trans HQ.out))⟩
            case measure => simp [intOf]
          have k1 : (NM.toList == []) = false := by rw [← HNM.out]; exact beq_no2 hq0
          by_cases hq1 : nm = s
          · have k2 : (NM.toList == S.toList) = true := by rw [← HNM.out, ← HS.out]; exact beq_yes hq1
            have HP := Lib.hid (parse_hit H.out.2.2 HC.out ⟨fun e => hq0 (HM.out.symm.trans e), HM.out.trans hq1⟩)
            clear hq0 hq1
            go_wp2_with (first
                | (go_at_call 6
                   refine (C.out _).mono ?_
                   rintro e w5 ⟨rfl, hb5⟩
                   have hx := HX.out.1.next hb5
                   have hy := HX.out.2.2.next hb5
                   have hxc := hx.cell
                   have hxc2 := hy.cell
                   have hxf2 := hy.free
                   have hxl2 := hy.lt
                   have HY := Lib.hid (And.intro (HX.out.2.1.trans (hb5.mono HX.out.2.1.size)) (And.intro hx hy))
                   clear hb5 hx hy))
            refine bodyPost_ret (v := FN.v ⟨2, id, 0, true⟩) ?_ rfl ?_
            · simp [results, Tryd.results8, go_sem, hxc2, FN.v]
            refine ⟨by rw [HP.out], ?_⟩
            repeat (first | with_reducible exact HY.out.1 | refine Below.setCell ?_ (by simp) _)
          · have k2 : (NM.toList == S.toList) = false := by rw [← HNM.out, ← HS.out]; exact beq_no hq1
            have HQ := Lib.hid hq1
            clear hq0 hq1
            go_wp2_with (first
                | (go_at_call 6
                   refine (C.out _).mono ?_
                   rintro e w5 ⟨rfl, hb5⟩
                   have hx := HX.out.1.next hb5
                   have hy := HX.out.2.2.next hb5
                   have hxc := hx.cell
                   have hxc2 := hy.cell
                   have hxf2 := hy.free
                   have hxl2 := hy.lt
                   have HY := Lib.hid (And.intro (HX.out.2.1.trans (hb5.mono HX.out.2.1.size)) (And.intro hx hy))
                   clear hb5 hx hy))
            go_roundw
            case rel => exact ⟨2, by omega, rfl, HY.out.1, HY.out.2.2, none_next H.out.2.2 HC.out (fun h => HQ.out (HM.out.symm.trans h.2))⟩
            case measure => simp [intOf]
        · have H := Lib.hid (And.intro hb (And.intro hx2 hno))
          clear hb hx2 hno ht
          rw [show ((2 : Nat) : Int) = 2 from rfl]
          go_wp2_with fail
          go_roundw
          case rel => exact ⟨3, by omega, by omega, rfl, H.out.1, H.out.2.1, H.out.2.2⟩
          case measure => simp [intOf]
    · clear hk hk1 hk5
      rw [show ((3 : Nat) : Int) = 3 from rfl]
      go_wp2_with fail
      go_loopw [10] (fun tv wr => ∃ t : Nat, t ≤ 2 ∧ tv = .int .i64 t ∧ Below w.heap.size w wr ∧ Box wr w.heap.size 23 #[.int .i64 0, .int .i64 0, .int .i64 0, .bool false] ∧ NoneOf s (4 + t)) (fun tv _ => 2 - (intOf tv).toNat)
      case atStart => exact ⟨0, by omega, rfl, H0.out.1, H0.out.2.1, H0.out.2.2⟩
      case round =>
        clear H0
        obtain ⟨t, ht, rfl, hb, hx2, hno⟩ := hrel
        rcases (show t = 0 ∨ t = 1 ∨ t = 2 by omega) with rfl | rfl | rfl
        · have H := Lib.hid (And.intro hb (And.intro hx2 hno))
          clear hb hx2 hno ht
          rw [show ((0 : Nat) : Int) = 0 from rfl]
          have hc : (candsR s)[4]? = some ⟨3, id, 0, false⟩ := by
            show some (candR s 3 false) = _
            unfold candR
            rw [HI.out]
            simp
          have C := Lib.hid (nameR_any 3 id 0 false)
          have HC := Lib.hid hc
          clear hc
          generalize hnm : nameN ⟨3, id, 0, false⟩ = nm at C
          have HM := Lib.hid hnm
          clear hnm
          obtain ⟨NM, hNM⟩ : ∃ S : ByteArray, (⟨nm.toArray⟩ : ByteArray) = S := ⟨_, rfl⟩
          rw [hNM] at C
          have HNM := Lib.hid hNM
          clear hNM
          have hx := Box.new wr 23 #[.int .i64 3, .int .i64 id, .int .i64 0, .bool false]
          have hbw := Below.al wr (.cells #[.int .i64 3, .int .i64 id, .int .i64 0, .bool false] 23)
          have HX := Lib.hid (And.intro hx (And.intro (H.out.1.trans (hbw.mono H.out.1.size)) (H.out.2.1.next hbw)))
          clear hx hbw
          by_cases hq0 : nm = []
          · have k1 : (NM.toList == []) = true := by rw [← HNM.out]; exact beq_yes2 hq0
            have HQ := Lib.hid hq0
            clear hq0
            go_wp2_with (first
                | (go_at_call 6
                   refine (C.out _).mono ?_
                   rintro e w5 ⟨rfl, hb5⟩
                   have hx := HX.out.1.next hb5
                   have hy := HX.out.2.2.next hb5
                   have hxc := hx.cell
                   have hxc2 := hy.cell
                   have hxf2 := hy.free
                   have hxl2 := hy.lt
                   have HY := Lib.hid (And.intro (HX.out.2.1.trans (hb5.mono HX.out.2.1.size)) (And.intro hx hy))
                   clear hb5 hx hy))
            go_roundw
            case rel => exact ⟨1, by omega, rfl, HY.out.1, HY.out.2.2, none_next H.out.2.2 HC.out (fun h => h.1 (HM.out.trans HQ.out))⟩
            case measure => simp [intOf]
          have k1 : (NM.toList == []) = false := by rw [← HNM.out]; exact beq_no2 hq0
          by_cases hq1 : nm = s
          · have k2 : (NM.toList == S.toList) = true := by rw [← HNM.out, ← HS.out]; exact beq_yes hq1
            have HP := Lib.hid (parse_hit H.out.2.2 HC.out ⟨fun e => hq0 (HM.out.symm.trans e), HM.out.trans hq1⟩)
            clear hq0 hq1
            go_wp2_with (first
                | (go_at_call 6
                   refine (C.out _).mono ?_
                   rintro e w5 ⟨rfl, hb5⟩
                   have hx := HX.out.1.next hb5
                   have hy := HX.out.2.2.next hb5
                   have hxc := hx.cell
                   have hxc2 := hy.cell
                   have hxf2 := hy.free
                   have hxl2 := hy.lt
                   have HY := Lib.hid (And.intro (HX.out.2.1.trans (hb5.mono HX.out.2.1.size)) (And.intro hx hy))
                   clear hb5 hx hy))
            refine bodyPost_ret (v := FN.v ⟨3, id, 0, false⟩) ?_ rfl ?_
            · simp [results, Tryd.results8, go_sem, hxc2, FN.v]
            refine ⟨by rw [HP.out], ?_⟩
            repeat (first | with_reducible exact HY.out.1 | refine Below.setCell ?_ (by simp) _)
          · have k2 : (NM.toList == S.toList) = false := by rw [← HNM.out, ← HS.out]; exact beq_no hq1
            have HQ := Lib.hid hq1
            clear hq0 hq1
            go_wp2_with (first
                | (go_at_call 6
                   refine (C.out _).mono ?_
                   rintro e w5 ⟨rfl, hb5⟩
                   have hx := HX.out.1.next hb5
                   have hy := HX.out.2.2.next hb5
                   have hxc := hx.cell
                   have hxc2 := hy.cell
                   have hxf2 := hy.free
                   have hxl2 := hy.lt
                   have HY := Lib.hid (And.intro (HX.out.2.1.trans (hb5.mono HX.out.2.1.size)) (And.intro hx hy))
                   clear hb5 hx hy))
            go_roundw
            case rel => exact ⟨1, by omega, rfl, HY.out.1, HY.out.2.2, none_next H.out.2.2 HC.out (fun h => HQ.out (HM.out.symm.trans h.2))⟩
            case measure => simp [intOf]
        · have H := Lib.hid (And.intro hb (And.intro hx2 hno))
          clear hb hx2 hno ht
          rw [show ((1 : Nat) : Int) = 1 from rfl]
          have hc : (candsR s)[5]? = some ⟨3, id, 0, true⟩ := by
            show some (candR s 3 true) = _
            unfold candR
            rw [HI.out]
            simp
          have C := Lib.hid (nameR_any 3 id 0 true)
          have HC := Lib.hid hc
          clear hc
          generalize hnm : nameN ⟨3, id, 0, true⟩ = nm at C
          have HM := Lib.hid hnm
          clear hnm
          obtain ⟨NM, hNM⟩ : ∃ S : ByteArray, (⟨nm.toArray⟩ : ByteArray) = S := ⟨_, rfl⟩
          rw [hNM] at C
          have HNM := Lib.hid hNM
          clear hNM
          have hx := Box.new wr 23 #[.int .i64 3, .int .i64 id, .int .i64 0, .bool true]
          have hbw := Below.al wr (.cells #[.int .i64 3, .int .i64 id, .int .i64 0, .bool true] 23)
          have HX := Lib.hid (And.intro hx (And.intro (H.out.1.trans (hbw.mono H.out.1.size)) (H.out.2.1.next hbw)))
          clear hx hbw
          by_cases hq0 : nm = []
          · have k1 : (NM.toList == []) = true := by rw [← HNM.out]; exact beq_yes2 hq0
            have HQ := Lib.hid hq0
            clear hq0
            go_wp2_with (first
                | (go_at_call 6
                   refine (C.out _).mono ?_
                   rintro e w5 ⟨rfl, hb5⟩
                   have hx := HX.out.1.next hb5
                   have hy := HX.out.2.2.next hb5
                   have hxc := hx.cell
                   have hxc2 := hy.cell
                   have hxf2 := hy.free
                   have hxl2 := hy.lt
                   have HY := Lib.hid (And.intro (HX.out.2.1.trans (hb5.mono HX.out.2.1.size)) (And.intro hx hy))
                   clear hb5 hx hy))
            go_roundw
            case rel => exact ⟨2, by omega, rfl, HY.out.1, HY.out.2.2, none_next H.out.2.2 HC.out (fun h => h.1 (HM.out.trans HQ.out))⟩
            case measure => simp [intOf]
          have k1 : (NM.toList == []) = false := by rw [← HNM.out]; exact beq_no2 hq0
          by_cases hq1 : nm = s
          · have k2 : (NM.toList == S.toList) = true := by rw [← HNM.out, ← HS.out]; exact beq_yes hq1
            have HP := Lib.hid (parse_hit H.out.2.2 HC.out ⟨fun e => hq0 (HM.out.symm.trans e), HM.out.trans hq1⟩)
            clear hq0 hq1
            go_wp2_with (first
                | (go_at_call 6
                   refine (C.out _).mono ?_
                   rintro e w5 ⟨rfl, hb5⟩
                   have hx := HX.out.1.next hb5
                   have hy := HX.out.2.2.next hb5
                   have hxc := hx.cell
                   have hxc2 := hy.cell
                   have hxf2 := hy.free
                   have hxl2 := hy.lt
                   have HY := Lib.hid (And.intro (HX.out.2.1.trans (hb5.mono HX.out.2.1.size)) (And.intro hx hy))
                   clear hb5 hx hy))
            refine bodyPost_ret (v := FN.v ⟨3, id, 0, true⟩) ?_ rfl ?_
            · simp [results, Tryd.results8, go_sem, hxc2, FN.v]
            refine ⟨by rw [HP.out], ?_⟩
            repeat (first | with_reducible exact HY.out.1 | refine Below.setCell ?_ (by simp) _)
          · have k2 : (NM.toList == S.toList) = false := by rw [← HNM.out, ← HS.out]; exact beq_no hq1
            have HQ := Lib.hid hq1
            clear hq0 hq1
            go_wp2_with (first
                | (go_at_call 6
                   refine (C.out _).mono ?_
                   rintro e w5 ⟨rfl, hb5⟩
                   have hx := HX.out.1.next hb5
                   have hy := HX.out.2.2.next hb5
                   have hxc := hx.cell
                   have hxc2 := hy.cell
                   have hxf2 := hy.free
                   have hxl2 := hy.lt
                   have HY := Lib.hid (And.intro (HX.out.2.1.trans (hb5.mono HX.out.2.1.size)) (And.intro hx hy))
                   clear hb5 hx hy))
            go_roundw
            case rel => exact ⟨2, by omega, rfl, HY.out.1, HY.out.2.2, none_next H.out.2.2 HC.out (fun h => HQ.out (HM.out.symm.trans h.2))⟩
            case measure => simp [intOf]
        · have H := Lib.hid (And.intro hb (And.intro hx2 hno))
          clear hb hx2 hno ht
          rw [show ((2 : Nat) : Int) = 2 from rfl]
          go_wp2_with fail
          go_roundw
          case rel => exact ⟨4, by omega, by omega, rfl, H.out.1, H.out.2.1, H.out.2.2⟩
          case measure => simp [intOf]
    · clear hk hk1 hk5
      rw [show ((4 : Nat) : Int) = 4 from rfl]
      go_wp2_with fail
      go_loopw [10] (fun tv wr => ∃ t : Nat, t ≤ 2 ∧ tv = .int .i64 t ∧ Below w.heap.size w wr ∧ Box wr w.heap.size 23 #[.int .i64 0, .int .i64 0, .int .i64 0, .bool false] ∧ NoneOf s (6 + t)) (fun tv _ => 2 - (intOf tv).toNat)
      case atStart => exact ⟨0, by omega, rfl, H0.out.1, H0.out.2.1, H0.out.2.2⟩
      case round =>
        clear H0
        obtain ⟨t, ht, rfl, hb, hx2, hno⟩ := hrel
        rcases (show t = 0 ∨ t = 1 ∨ t = 2 by omega) with rfl | rfl | rfl
        · have H := Lib.hid (And.intro hb (And.intro hx2 hno))
          clear hb hx2 hno ht
          rw [show ((0 : Nat) : Int) = 0 from rfl]
          have hc : (candsR s)[6]? = some ⟨4, 0, 0, false⟩ := by
            show some (candR s 4 false) = _
            unfold candR
            rw [HI.out]
            simp
          have C := Lib.hid (nameR_any 4 0 0 false)
          have HC := Lib.hid hc
          clear hc
          generalize hnm : nameN ⟨4, 0, 0, false⟩ = nm at C
          have HM := Lib.hid hnm
          clear hnm
          obtain ⟨NM, hNM⟩ : ∃ S : ByteArray, (⟨nm.toArray⟩ : ByteArray) = S := ⟨_, rfl⟩
          rw [hNM] at C
          have HNM := Lib.hid hNM
          clear hNM
          have hx := Box.new wr 23 #[.int .i64 4, .int .i64 0, .int .i64 0, .bool false]
          have hbw := Below.al wr (.cells #[.int .i64 4, .int .i64 0, .int .i64 0, .bool false] 23)
          have HX := Lib.hid (And.intro hx (And.intro (H.out.1.trans (hbw.mono H.out.1.size)) (H.out.2.1.next hbw)))
          clear hx hbw
          by_cases hq0 : nm = []
          · have k1 : (NM.toList == []) = true := by rw [← HNM.out]; exact beq_yes2 hq0
            have HQ := Lib.hid hq0
            clear hq0
            go_wp2_with (first
                | (go_at_call 6
                   refine (C.out _).mono ?_
                   rintro e w5 ⟨rfl, hb5⟩
                   have hx := HX.out.1.next hb5
                   have hy := HX.out.2.2.next hb5
                   have hxc := hx.cell
                   have hxc2 := hy.cell
                   have hxf2 := hy.free
                   have hxl2 := hy.lt
                   have HY := Lib.hid (And.intro (HX.out.2.1.trans (hb5.mono HX.out.2.1.size)) (And.intro hx hy))
                   clear hb5 hx hy))
            go_roundw
            case rel => exact ⟨1, by omega, rfl, HY.out.1, HY.out.2.2, none_next H.out.2.2 HC.out (fun h => h.1 (HM.out.trans HQ.out))⟩
            case measure => simp [intOf]
          have k1 : (NM.toList == []) = false := by rw [← HNM.out]; exact beq_no2 hq0
          by_cases hq1 : nm = s
          · have k2 : (NM.toList == S.toList) = true := by rw [← HNM.out, ← HS.out]; exact beq_yes hq1
            have HP := Lib.hid (parse_hit H.out.2.2 HC.out ⟨fun e => hq0 (HM.out.symm.trans e), HM.out.trans hq1⟩)
            clear hq0 hq1
            go_wp2_with (first
                | (go_at_call 6
                   refine (C.out _).mono ?_
                   rintro e w5 ⟨rfl, hb5⟩
                   have hx := HX.out.1.next hb5
                   have hy := HX.out.2.2.next hb5
                   have hxc := hx.cell
                   have hxc2 := hy.cell
                   have hxf2 := hy.free
                   have hxl2 := hy.lt
                   have HY := Lib.hid (And.intro (HX.out.2.1.trans (hb5.mono HX.out.2.1.size)) (And.intro hx hy))
                   clear hb5 hx hy))
            refine bodyPost_ret (v := FN.v ⟨4, 0, 0, false⟩) ?_ rfl ?_
            · simp [results, Tryd.results8, go_sem, hxc2, FN.v]
            refine ⟨by rw [HP.out], ?_⟩
            repeat (first | with_reducible exact HY.out.1 | refine Below.setCell ?_ (by simp) _)
          · have k2 : (NM.toList == S.toList) = false := by rw [← HNM.out, ← HS.out]; exact beq_no hq1
            have HQ := Lib.hid hq1
            clear hq0 hq1
            go_wp2_with (first
                | (go_at_call 6
                   refine (C.out _).mono ?_
                   rintro e w5 ⟨rfl, hb5⟩
                   have hx := HX.out.1.next hb5
                   have hy := HX.out.2.2.next hb5
                   have hxc := hx.cell
                   have hxc2 := hy.cell
                   have hxf2 := hy.free
                   have hxl2 := hy.lt
                   have HY := Lib.hid (And.intro (HX.out.2.1.trans (hb5.mono HX.out.2.1.size)) (And.intro hx hy))
                   clear hb5 hx hy))
            go_roundw
            case rel => exact ⟨1, by omega, rfl, HY.out.1, HY.out.2.2, none_next H.out.2.2 HC.out (fun h => HQ.out (HM.out.symm.trans h.2))⟩
            case measure => simp [intOf]
        · have H := Lib.hid (And.intro hb (And.intro hx2 hno))
          clear hb hx2 hno ht
          rw [show ((1 : Nat) : Int) = 1 from rfl]
          have hc : (candsR s)[7]? = some ⟨4, 0, 0, true⟩ := by
            show some (candR s 4 true) = _
            unfold candR
            rw [HI.out]
            simp
          have C := Lib.hid (nameR_any 4 0 0 true)
          have HC := Lib.hid hc
          clear hc
          generalize hnm : nameN ⟨4, 0, 0, true⟩ = nm at C
          have HM := Lib.hid hnm
          clear hnm
          obtain ⟨NM, hNM⟩ : ∃ S : ByteArray, (⟨nm.toArray⟩ : ByteArray) = S := ⟨_, rfl⟩
          rw [hNM] at C
          have HNM := Lib.hid hNM
          clear hNM
          have hx := Box.new wr 23 #[.int .i64 4, .int .i64 0, .int .i64 0, .bool true]
          have hbw := Below.al wr (.cells #[.int .i64 4, .int .i64 0, .int .i64 0, .bool true] 23)
          have HX := Lib.hid (And.intro hx (And.intro (H.out.1.trans (hbw.mono H.out.1.size)) (H.out.2.1.next hbw)))
          clear hx hbw
          by_cases hq0 : nm = []
          · have k1 : (NM.toList == []) = true := by rw [← HNM.out]; exact beq_yes2 hq0
            have HQ := Lib.hid hq0
            clear hq0
            go_wp2_with (first
                | (go_at_call 6
                   refine (C.out _).mono ?_
                   rintro e w5 ⟨rfl, hb5⟩
                   have hx := HX.out.1.next hb5
                   have hy := HX.out.2.2.next hb5
                   have hxc := hx.cell
                   have hxc2 := hy.cell
                   have hxf2 := hy.free
                   have hxl2 := hy.lt
                   have HY := Lib.hid (And.intro (HX.out.2.1.trans (hb5.mono HX.out.2.1.size)) (And.intro hx hy))
                   clear hb5 hx hy))
            go_roundw
            case rel => exact ⟨2, by omega, rfl, HY.out.1, HY.out.2.2, none_next H.out.2.2 HC.out (fun h => h.1 (HM.out.trans HQ.out))⟩
            case measure => simp [intOf]
          have k1 : (NM.toList == []) = false := by rw [← HNM.out]; exact beq_no2 hq0
          by_cases hq1 : nm = s
          · have k2 : (NM.toList == S.toList) = true := by rw [← HNM.out, ← HS.out]; exact beq_yes hq1
            have HP := Lib.hid (parse_hit H.out.2.2 HC.out ⟨fun e => hq0 (HM.out.symm.trans e), HM.out.trans hq1⟩)
            clear hq0 hq1
            go_wp2_with (first
                | (go_at_call 6
                   refine (C.out _).mono ?_
                   rintro e w5 ⟨rfl, hb5⟩
                   have hx := HX.out.1.next hb5
                   have hy := HX.out.2.2.next hb5
                   have hxc := hx.cell
                   have hxc2 := hy.cell
                   have hxf2 := hy.free
                   have hxl2 := hy.lt
                   have HY := Lib.hid (And.intro (HX.out.2.1.trans (hb5.mono HX.out.2.1.size)) (And.intro hx hy))
                   clear hb5 hx hy))
            refine bodyPost_ret (v := FN.v ⟨4, 0, 0, true⟩) ?_ rfl ?_
            · simp [results, Tryd.results8, go_sem, hxc2, FN.v]
            refine ⟨by rw [HP.out], ?_⟩
            repeat (first | with_reducible exact HY.out.1 | refine Below.setCell ?_ (by simp) _)
          · have k2 : (NM.toList == S.toList) = false := by rw [← HNM.out, ← HS.out]; exact beq_no hq1
            have HQ := Lib.hid hq1
            clear hq0 hq1
            go_wp2_with (first
                | (go_at_call 6
                   refine (C.out _).mono ?_
                   rintro e w5 ⟨rfl, hb5⟩
                   have hx := HX.out.1.next hb5
                   have hy := HX.out.2.2.next hb5
                   have hxc := hx.cell
                   have hxc2 := hy.cell
                   have hxf2 := hy.free
                   have hxl2 := hy.lt
                   have HY := Lib.hid (And.intro (HX.out.2.1.trans (hb5.mono HX.out.2.1.size)) (And.intro hx hy))
                   clear hb5 hx hy))
            go_roundw
            case rel => exact ⟨2, by omega, rfl, HY.out.1, HY.out.2.2, none_next H.out.2.2 HC.out (fun h => HQ.out (HM.out.symm.trans h.2))⟩
            case measure => simp [intOf]
        · have H := Lib.hid (And.intro hb (And.intro hx2 hno))
          clear hb hx2 hno ht
          rw [show ((2 : Nat) : Int) = 2 from rfl]
          go_wp2_with fail
          go_roundw
          case rel => exact ⟨5, by omega, by omega, rfl, H.out.1, H.out.2.1, H.out.2.2⟩
          case measure => simp [intOf]
set_option maxRecDepth 100000 in
set_option maxHeartbeats 8000000 in
theorem parseR_2 (s : List UInt8) (b : UInt8) (r : List UInt8) (hs1 : s = b :: r) (hb : b = 116) (c : UInt8) (r2 : List UInt8) (hr : (digR 0 r).2 = c :: r2) (hs : s.length ≤ 1048576) (w : World) :
    Calls Tryd.prog 8 #[.string ⟨s.toArray⟩] w fun e w' => e = .returned (FN.v (parseR s)) ∧ Below w.heap.size w w' := by
  obtain ⟨S, hS⟩ : ∃ S : ByteArray, (⟨s.toArray⟩ : ByteArray) = S := ⟨_, rfl⟩
  have HS := Lib.hid hS
  have hSz : S.size = s.length := by rw [← hS]; show s.toArray.size = _; simp
  have hSl : S.data.toList = s := by rw [← hS]
  have hpos : 0 < S.size := by rw [hSz, hs1]; simp
  have hs0 : S[0]'hpos = b := by
    show S.data[0]'_ = b
    have h2 : S.data.toList[0]? = some b := by rw [hSl, hs1]; rfl
    have h3 : S.data[0]? = some b := by simpa using h2
    exact (Array.getElem?_eq_some_iff.1 h3).2
  have h01 : (0 : Int) < S.size := by omega
  have hbn : (b.toNat : Int) = 116 := by rw [hb]; rfl
  have hd1 : S.data.toList.drop 1 = r := by rw [hSl, hs1]; rfl
  have D1 := digits_any S 1 (by rw [hSz, hs1]; simp) (by rw [hSz]; exact hs)
  rw [hd1] at D1
  obtain ⟨hsuf, hle⟩ := dig_suffix 0 r
  have hszr : S.size = r.length + 1 := by rw [hSz, hs1]; rfl
  obtain ⟨p, hp⟩ : ∃ p, S.size - (digR 0 r).2.length = p := ⟨_, rfl⟩
  rw [hp] at D1
  rw [hr, List.length_cons] at hp hle hsuf
  have hps : p < S.size := by omega
  have D2 := digits_any S (p + 1) (by omega) (by rw [hSz]; exact hs)
  have hd2 : S.data.toList.drop (p + 1) = r2 := by
    rw [hSl, hs1, List.drop_succ_cons, show p = (r.length - (r2.length + 1)) + 1 by omega, ← List.drop_drop, hsuf]
    rfl
  rw [hd2] at D2
  obtain ⟨id, hid0⟩ : ∃ id : Nat, (digR 0 r).1 = id := ⟨_, rfl⟩
  obtain ⟨seg, hsg0⟩ : ∃ id : Nat, (digR 0 r2).1 = id := ⟨_, rfl⟩
  have HI := Lib.hid (show idsR s = (id, seg) by rw [hs1, idsR, if_pos hb, hr, hid0, ← hsg0])
  rw [hid0] at D1
  rw [hsg0, show (((p + 1 : Nat) : Int)) = (p : Int) + 1 by omega] at D2
  generalize S.size - (digR 0 r2).2.length = q at D2
  have D1 := Lib.hid D1
  have D2 := Lib.hid D2
  have hpi : (p : Int) < S.size := by omega
  have hpz : (p : Int) < 9223372036854775806 := by omega
  clear hSz hSl hszr hsuf hle hd1 hid0 hs hd2 hps hp hr
  rw [hS]
  clear hS
  have HB := Lib.hid (And.intro (Below.al w (.cells #[.int .i64 0, .int .i64 0, .int .i64 0, .bool false] 23)) (Box.new w 23 #[.int .i64 0, .int .i64 0, .int .i64 0, .bool false]))
  go_enter Tryd.func8, Tryd.ntmps8
  go_wp2_with (first
    | (go_at_call 31
       have z0 := D1
       clear z0
       refine (D1.out _).mono ?_
       rintro e w1 ⟨rfl, hw1⟩
       rw [hw1]
       clear hw1 D1)
    | (go_at_call 31
       refine (D2.out _).mono ?_
       rintro e w1 ⟨rfl, hw1⟩
       rw [hw1]
       clear hw1)
    | fail)
  go_loopw [9] (fun kv wr => ∃ k : Nat, 1 ≤ k ∧ k ≤ 5 ∧ kv = .int .i64 k ∧ Below w.heap.size w wr ∧ Box wr w.heap.size 23 #[.int .i64 0, .int .i64 0, .int .i64 0, .bool false] ∧ NoneOf s (2 * (k - 1))) (fun kv _ => 5 - (intOf kv).toNat)
  case atStart => exact ⟨1, by omega, by omega, rfl, HB.out.1, HB.out.2, none_zero s⟩
  case round =>
    clear HB
    obtain ⟨k, hk1, hk5, rfl, hb, hx2, hno⟩ := hrel
    have H0 := Lib.hid (And.intro hb (And.intro hx2 hno))
    clear hb hx2 hno
    by_cases hk : k = 5
    · subst hk
      rw [show ((5 : Nat) : Int) = 5 from rfl]
      have HP := Lib.hid (parse_miss H0.out.2.2)
      have hxc2 := H0.out.2.1.cell
      have hxf2 := H0.out.2.1.free
      have hxl2 := H0.out.2.1.lt
      go_wp2_with fail
      refine bodyPost_ret (v := FN.v FN.zero) ?_ rfl ?_
      · simp [results, Tryd.results8, go_sem, hxc2, FN.v, FN.zero]
      refine ⟨by rw [HP.out], ?_⟩
      repeat (first | with_reducible exact H0.out.1 | refine Below.setCell ?_ (by simp) _)
    rcases (show k = 1 ∨ k = 2 ∨ k = 3 ∨ k = 4 by omega) with rfl | rfl | rfl | rfl
    · clear hk hk1 hk5
      rw [show ((1 : Nat) : Int) = 1 from rfl]
      go_wp2_with fail
      go_loopw [10] (fun tv wr => ∃ t : Nat, t ≤ 2 ∧ tv = .int .i64 t ∧ Below w.heap.size w wr ∧ Box wr w.heap.size 23 #[.int .i64 0, .int .i64 0, .int .i64 0, .bool false] ∧ NoneOf s (0 + t)) (fun tv _ => 2 - (intOf tv).toNat)
      case atStart => exact ⟨0, by omega, rfl, H0.out.1, H0.out.2.1, H0.out.2.2⟩
      case round =>
        clear H0
        obtain ⟨t, ht, rfl, hb, hx2, hno⟩ := hrel
        rcases (show t = 0 ∨ t = 1 ∨ t = 2 by omega) with rfl | rfl | rfl
        · have H := Lib.hid (And.intro hb (And.intro hx2 hno))
          clear hb hx2 hno ht
          rw [show ((0 : Nat) : Int) = 0 from rfl]
          have hc : (candsR s)[0]? = some ⟨1, id, seg, false⟩ := by
            show some (candR s 1 false) = _
            unfold candR
            rw [HI.out]
            simp
          have C := Lib.hid (nameR_any 1 id seg false)
          have HC := Lib.hid hc
          clear hc
          generalize hnm : nameN ⟨1, id, seg, false⟩ = nm at C
          have HM := Lib.hid hnm
          clear hnm
          obtain ⟨NM, hNM⟩ : ∃ S : ByteArray, (⟨nm.toArray⟩ : ByteArray) = S := ⟨_, rfl⟩
          rw [hNM] at C
          have HNM := Lib.hid hNM
          clear hNM
          have hx := Box.new wr 23 #[.int .i64 1, .int .i64 id, .int .i64 seg, .bool false]
          have hbw := Below.al wr (.cells #[.int .i64 1, .int .i64 id, .int .i64 seg, .bool false] 23)
          have HX := Lib.hid (And.intro hx (And.intro (H.out.1.trans (hbw.mono H.out.1.size)) (H.out.2.1.next hbw)))
          clear hx hbw
          by_cases hq0 : nm = []
          · have k1 : (NM.toList == []) = true := by rw [← HNM.out]; exact beq_yes2 hq0
            have HQ := Lib.hid hq0
            clear hq0
            go_wp2_with (first
                | (go_at_call 6
                   refine (C.out _).mono ?_
                   rintro e w5 ⟨rfl, hb5⟩
                   have hx := HX.out.1.next hb5
                   have hy := HX.out.2.2.next hb5
                   have hxc := hx.cell
                   have hxc2 := hy.cell
                   have hxf2 := hy.free
                   have hxl2 := hy.lt
                   have HY := Lib.hid (And.intro (HX.out.2.1.trans (hb5.mono HX.out.2.1.size)) (And.intro hx hy))
                   clear hb5 hx hy))
            go_roundw
            case rel => exact ⟨1, by omega, rfl, HY.out.1, HY.out.2.2, none_next H.out.2.2 HC.out (fun h => h.1 (HM.out.trans HQ.out))⟩
            case measure => simp [intOf]
          have k1 : (NM.toList == []) = false := by rw [← HNM.out]; exact beq_no2 hq0
          by_cases hq1 : nm = s
          · have k2 : (NM.toList == S.toList) = true := by rw [← HNM.out, ← HS.out]; exact beq_yes hq1
            have HP := Lib.hid (parse_hit H.out.2.2 HC.out ⟨fun e => hq0 (HM.out.symm.trans e), HM.out.trans hq1⟩)
            clear hq0 hq1
            go_wp2_with (first
                | (go_at_call 6
                   refine (C.out _).mono ?_
                   rintro e w5 ⟨rfl, hb5⟩
                   have hx := HX.out.1.next hb5
                   have hy := HX.out.2.2.next hb5
                   have hxc := hx.cell
                   have hxc2 := hy.cell
                   have hxf2 := hy.free
                   have hxl2 := hy.lt
                   have HY := Lib.hid (And.intro (HX.out.2.1.trans (hb5.mono HX.out.2.1.size)) (And.intro hx hy))
                   clear hb5 hx hy))
            refine bodyPost_ret (v := FN.v ⟨1, id, seg, false⟩) ?_ rfl ?_
            · simp [results, Tryd.results8, go_sem, hxc2, FN.v]
            refine ⟨by rw [HP.out], ?_⟩
            repeat (first | with_reducible exact HY.out.1 | refine Below.setCell ?_ (by simp) _)
          · have k2 : (NM.toList == S.toList) = false := by rw [← HNM.out, ← HS.out]; exact beq_no hq1
            have HQ := Lib.hid hq1
            clear hq0 hq1
            go_wp2_with (first
                | (go_at_call 6
                   refine (C.out _).mono ?_
                   rintro e w5 ⟨rfl, hb5⟩
                   have hx := HX.out.1.next hb5
                   have hy := HX.out.2.2.next hb5
                   have hxc := hx.cell
                   have hxc2 := hy.cell
                   have hxf2 := hy.free
                   have hxl2 := hy.lt
                   have HY := Lib.hid (And.intro (HX.out.2.1.trans (hb5.mono HX.out.2.1.size)) (And.intro hx hy))
                   clear hb5 hx hy))
            go_roundw
            case rel => exact ⟨1, by omega, rfl, HY.out.1, HY.out.2.2, none_next H.out.2.2 HC.out (fun h => HQ.out (HM.out.symm.trans h.2))⟩
            case measure => simp [intOf]
        · have H := Lib.hid (And.intro hb (And.intro hx2 hno))
          clear hb hx2 hno ht
          rw [show ((1 : Nat) : Int) = 1 from rfl]
          have hc : (candsR s)[1]? = some ⟨1, id, seg, true⟩ := by
            show some (candR s 1 true) = _
            unfold candR
            rw [HI.out]
            simp
          have C := Lib.hid (nameR_any 1 id seg true)
          have HC := Lib.hid hc
          clear hc
          generalize hnm : nameN ⟨1, id, seg, true⟩ = nm at C
          have HM := Lib.hid hnm
          clear hnm
          obtain ⟨NM, hNM⟩ : ∃ S : ByteArray, (⟨nm.toArray⟩ : ByteArray) = S := ⟨_, rfl⟩
          rw [hNM] at C
          have HNM := Lib.hid hNM
          clear hNM
          have hx := Box.new wr 23 #[.int .i64 1, .int .i64 id, .int .i64 seg, .bool true]
          have hbw := Below.al wr (.cells #[.int .i64 1, .int .i64 id, .int .i64 seg, .bool true] 23)
          have HX := Lib.hid (And.intro hx (And.intro (H.out.1.trans (hbw.mono H.out.1.size)) (H.out.2.1.next hbw)))
          clear hx hbw
          by_cases hq0 : nm = []
          · have k1 : (NM.toList == []) = true := by rw [← HNM.out]; exact beq_yes2 hq0
            have HQ := Lib.hid hq0
            clear hq0
            go_wp2_with (first
                | (go_at_call 6
                   refine (C.out _).mono ?_
                   rintro e w5 ⟨rfl, hb5⟩
                   have hx := HX.out.1.next hb5
                   have hy := HX.out.2.2.next hb5
                   have hxc := hx.cell
                   have hxc2 := hy.cell
                   have hxf2 := hy.free
                   have hxl2 := hy.lt
                   have HY := Lib.hid (And.intro (HX.out.2.1.trans (hb5.mono HX.out.2.1.size)) (And.intro hx hy))
                   clear hb5 hx hy))
            go_roundw
            case rel => exact ⟨2, by omega, rfl, HY.out.1, HY.out.2.2, none_next H.out.2.2 HC.out (fun h => h.1 (HM.out.trans HQ.out))⟩
            case measure => simp [intOf]
          have k1 : (NM.toList == []) = false := by rw [← HNM.out]; exact beq_no2 hq0
          by_cases hq1 : nm = s
          · have k2 : (NM.toList == S.toList) = true := by rw [← HNM.out, ← HS.out]; exact beq_yes hq1
            have HP := Lib.hid (parse_hit H.out.2.2 HC.out ⟨fun e => hq0 (HM.out.symm.trans e), HM.out.trans hq1⟩)
            clear hq0 hq1
            go_wp2_with (first
                | (go_at_call 6
                   refine (C.out _).mono ?_
                   rintro e w5 ⟨rfl, hb5⟩
                   have hx := HX.out.1.next hb5
                   have hy := HX.out.2.2.next hb5
                   have hxc := hx.cell
                   have hxc2 := hy.cell
                   have hxf2 := hy.free
                   have hxl2 := hy.lt
                   have HY := Lib.hid (And.intro (HX.out.2.1.trans (hb5.mono HX.out.2.1.size)) (And.intro hx hy))
                   clear hb5 hx hy))
            refine bodyPost_ret (v := FN.v ⟨1, id, seg, true⟩) ?_ rfl ?_
            · simp [results, Tryd.results8, go_sem, hxc2, FN.v]
            refine ⟨by rw [HP.out], ?_⟩
            repeat (first | with_reducible exact HY.out.1 | refine Below.setCell ?_ (by simp) _)
          · have k2 : (NM.toList == S.toList) = false := by rw [← HNM.out, ← HS.out]; exact beq_no hq1
            have HQ := Lib.hid hq1
            clear hq0 hq1
            go_wp2_with (first
                | (go_at_call 6
                   refine (C.out _).mono ?_
                   rintro e w5 ⟨rfl, hb5⟩
                   have hx := HX.out.1.next hb5
                   have hy := HX.out.2.2.next hb5
                   have hxc := hx.cell
                   have hxc2 := hy.cell
                   have hxf2 := hy.free
                   have hxl2 := hy.lt
                   have HY := Lib.hid (And.intro (HX.out.2.1.trans (hb5.mono HX.out.2.1.size)) (And.intro hx hy))
                   clear hb5 hx hy))
            go_roundw
            case rel => exact ⟨2, by omega, rfl, HY.out.1, HY.out.2.2, none_next H.out.2.2 HC.out (fun h => HQ.out (HM.out.symm.trans h.2))⟩
            case measure => simp [intOf]
        · have H := Lib.hid (And.intro hb (And.intro hx2 hno))
          clear hb hx2 hno ht
          rw [show ((2 : Nat) : Int) = 2 from rfl]
          go_wp2_with fail
          go_roundw
          case rel => exact ⟨2, by omega, by omega, rfl, H.out.1, H.out.2.1, H.out.2.2⟩
          case measure => simp [intOf]
    · clear hk hk1 hk5
      rw [show ((2 : Nat) : Int) = 2 from rfl]
      go_wp2_with fail
      go_loopw [10] (fun tv wr => ∃ t : Nat, t ≤ 2 ∧ tv = .int .i64 t ∧ Below w.heap.size w wr ∧ Box wr w.heap.size 23 #[.int .i64 0, .int .i64 0, .int .i64 0, .bool false] ∧ NoneOf s (2 + t)) (fun tv _ => 2 - (intOf tv).toNat)
      case atStart => exact ⟨0, by omega, rfl, H0.out.1, H0.out.2.1, H0.out.2.2⟩
      case round =>
        clear H0
        obtain ⟨t, ht, rfl, hb, hx2, hno⟩ := hrel
        rcases (show t = 0 ∨ t = 1 ∨ t = 2 by omega) with rfl | rfl | rfl
        · have H := Lib.hid (And.intro hb (And.intro hx2 hno))
          clear hb hx2 hno ht
          rw [show ((0 : Nat) : Int) = 0 from rfl]
          have hc : (candsR s)[2]? = some ⟨2, id, seg, false⟩ := by
            show some (candR s 2 false) = _
            unfold candR
            rw [HI.out]
            simp
          have C := Lib.hid (nameR_any 2 id seg false)
          have HC := Lib.hid hc
          clear hc
          generalize hnm : nameN ⟨2, id, seg, false⟩ = nm at C
          have HM := Lib.hid hnm
          clear hnm
          obtain ⟨NM, hNM⟩ : ∃ S : ByteArray, (⟨nm.toArray⟩ : ByteArray) = S := ⟨_, rfl⟩
          rw [hNM] at C
          have HNM := Lib.hid hNM
          clear hNM
          have hx := Box.new wr 23 #[.int .i64 2, .int .i64 id, .int .i64 seg, .bool false]
          have hbw := Below.al wr (.cells #[.int .i64 2, .int .i64 id, .int .i64 seg, .bool false] 23)
          have HX := Lib.hid (And.intro hx (And.intro (H.out.1.trans (hbw.mono H.out.1.size)) (H.out.2.1.next hbw)))
          clear hx hbw
          by_cases hq0 : nm = []
          · have k1 : (NM.toList == []) = true := by rw [← HNM.out]; exact beq_yes2 hq0
            have HQ := Lib.hid hq0
            clear hq0
            go_wp2_with (first
                | (go_at_call 6
                   refine (C.out _).mono ?_
                   rintro e w5 ⟨rfl, hb5⟩
                   have hx := HX.out.1.next hb5
                   have hy := HX.out.2.2.next hb5
                   have hxc := hx.cell
                   have hxc2 := hy.cell
                   have hxf2 := hy.free
                   have hxl2 := hy.lt
                   have HY := Lib.hid (And.intro (HX.out.2.1.trans (hb5.mono HX.out.2.1.size)) (And.intro hx hy))
                   clear hb5 hx hy))
            go_roundw
            case rel => exact ⟨1, by omega, rfl, HY.out.1, HY.out.2.2, none_next H.out.2.2 HC.out (fun h => h.1 (HM.out.trans HQ.out))⟩
            case measure => simp [intOf]
          have k1 : (NM.toList == []) = false := by rw [← HNM.out]; exact beq_no2 hq0
          by_cases hq1 : nm = s
          · have k2 : (NM.toList == S.toList) = true := by rw [← HNM.out, ← HS.out]; exact beq_yes hq1
            have HP := Lib.hid (parse_hit H.out.2.2 HC.out ⟨fun e => hq0 (HM.out.symm.trans e), HM.out.trans hq1⟩)
            clear hq0 hq1
            go_wp2_with (first
                | (go_at_call 6
                   refine (C.out _).mono ?_
                   rintro e w5 ⟨rfl, hb5⟩
                   have hx := HX.out.1.next hb5
                   have hy := HX.out.2.2.next hb5
                   have hxc := hx.cell
                   have hxc2 := hy.cell
                   have hxf2 := hy.free
                   have hxl2 := hy.lt
                   have HY := Lib.hid (And.intro (HX.out.2.1.trans (hb5.mono HX.out.2.1.size)) (And.intro hx hy))
                   clear hb5 hx hy))
            refine bodyPost_ret (v := FN.v ⟨2, id, seg, false⟩) ?_ rfl ?_
            · simp [results, Tryd.results8, go_sem, hxc2, FN.v]
            refine ⟨by rw [HP.out], ?_⟩
            repeat (first | with_reducible exact HY.out.1 | refine Below.setCell ?_ (by simp) _)
          · have k2 : (NM.toList == S.toList) = false := by rw [← HNM.out, ← HS.out]; exact beq_no hq1
            have HQ := Lib.hid hq1
            clear hq0 hq1
            go_wp2_with (first
                | (go_at_call 6
                   refine (C.out _).mono ?_
                   rintro e w5 ⟨rfl, hb5⟩
                   have hx := HX.out.1.next hb5
                   have hy := HX.out.2.2.next hb5
                   have hxc := hx.cell
                   have hxc2 := hy.cell
                   have hxf2 := hy.free
                   have hxl2 := hy.lt
                   have HY := Lib.hid (And.intro (HX.out.2.1.trans (hb5.mono HX.out.2.1.size)) (And.intro hx hy))
                   clear hb5 hx hy))
            go_roundw
            case rel => exact ⟨1, by omega, rfl, HY.out.1, HY.out.2.2, none_next H.out.2.2 HC.out (fun h => HQ.out (HM.out.symm.trans h.2))⟩
            case measure => simp [intOf]
        · have H := Lib.hid (And.intro hb (And.intro hx2 hno))
          clear hb hx2 hno ht
          rw [show ((1 : Nat) : Int) = 1 from rfl]
          have hc : (candsR s)[3]? = some ⟨2, id, seg, true⟩ := by
            show some (candR s 2 true) = _
            unfold candR
            rw [HI.out]
            simp
          have C := Lib.hid (nameR_any 2 id seg true)
          have HC := Lib.hid hc
          clear hc
          generalize hnm : nameN ⟨2, id, seg, true⟩ = nm at C
          have HM := Lib.hid hnm
          clear hnm
          obtain ⟨NM, hNM⟩ : ∃ S : ByteArray, (⟨nm.toArray⟩ : ByteArray) = S := ⟨_, rfl⟩
          rw [hNM] at C
          have HNM := Lib.hid hNM
          clear hNM
          have hx := Box.new wr 23 #[.int .i64 2, .int .i64 id, .int .i64 seg, .bool true]
          have hbw := Below.al wr (.cells #[.int .i64 2, .int .i64 id, .int .i64 seg, .bool true] 23)
          have HX := Lib.hid (And.intro hx (And.intro (H.out.1.trans (hbw.mono H.out.1.size)) (H.out.2.1.next hbw)))
          clear hx hbw
          by_cases hq0 : nm = []
          · have k1 : (NM.toList == []) = true := by rw [← HNM.out]; exact beq_yes2 hq0
            have HQ := Lib.hid hq0
            clear hq0
            go_wp2_with (first
                | (go_at_call 6
                   refine (C.out _).mono ?_
                   rintro e w5 ⟨rfl, hb5⟩
                   have hx := HX.out.1.next hb5
                   have hy := HX.out.2.2.next hb5
                   have hxc := hx.cell
                   have hxc2 := hy.cell
                   have hxf2 := hy.free
                   have hxl2 := hy.lt
                   have HY := Lib.hid (And.intro (HX.out.2.1.trans (hb5.mono HX.out.2.1.size)) (And.intro hx hy))
                   clear hb5 hx hy))
            go_roundw
            case rel => exact ⟨2, by omega, rfl, HY.out.1, HY.out.2.2, none_next H.out.2.2 HC.out (fun h => h.1 (HM.out.trans HQ.out))⟩
            case measure => simp [intOf]
          have k1 : (NM.toList == []) = false := by rw [← HNM.out]; exact beq_no2 hq0
          by_cases hq1 : nm = s
          · have k2 : (NM.toList == S.toList) = true := by rw [← HNM.out, ← HS.out]; exact beq_yes hq1
            have HP := Lib.hid (parse_hit H.out.2.2 HC.out ⟨fun e => hq0 (HM.out.symm.trans e), HM.out.trans hq1⟩)
            clear hq0 hq1
            go_wp2_with (first
                | (go_at_call 6
                   refine (C.out _).mono ?_
                   rintro e w5 ⟨rfl, hb5⟩
                   have hx := HX.out.1.next hb5
                   have hy := HX.out.2.2.next hb5
                   have hxc := hx.cell
                   have hxc2 := hy.cell
                   have hxf2 := hy.free
                   have hxl2 := hy.lt
                   have HY := Lib.hid (And.intro (HX.out.2.1.trans (hb5.mono HX.out.2.1.size)) (And.intro hx hy))
                   clear hb5 hx hy))
            refine bodyPost_ret (v := FN.v ⟨2, id, seg, true⟩) ?_ rfl ?_
            · simp [results, Tryd.results8, go_sem, hxc2, FN.v]
            refine ⟨by rw [HP.out], ?_⟩
            repeat (first | with_reducible exact HY.out.1 | refine Below.setCell ?_ (by simp) _)
          · have k2 : (NM.toList == S.toList) = false := by rw [← HNM.out, ← HS.out]; exact beq_no hq1
            have HQ := Lib.hid hq1
            clear hq0 hq1
            go_wp2_with (first
                | (go_at_call 6
                   refine (C.out _).mono ?_
                   rintro e w5 ⟨rfl, hb5⟩
                   have hx := HX.out.1.next hb5
                   have hy := HX.out.2.2.next hb5
                   have hxc := hx.cell
                   have hxc2 := hy.cell
                   have hxf2 := hy.free
                   have hxl2 := hy.lt
                   have HY := Lib.hid (And.intro (HX.out.2.1.trans (hb5.mono HX.out.2.1.size)) (And.intro hx hy))
                   clear hb5 hx hy))
            go_roundw
            case rel => exact ⟨2, by omega, rfl, HY.out.1, HY.out.2.2, none_next H.out.2.2 HC.out (fun h => HQ.out (HM.out.symm.trans h.2))⟩
            case measure => simp [intOf]
        · have H := Lib.hid (And.intro hb (And.intro hx2 hno))
          clear hb hx2 hno ht
          rw [show ((2 : Nat) : Int) = 2 from rfl]
          go_wp2_with fail
          go_roundw
          case rel => exact ⟨3, by omega, by omega, rfl, H.out.1, H.out.2.1, H.out.2.2⟩
          case measure => simp [intOf]
    · clear hk hk1 hk5
      rw [show ((3 : Nat) : Int) = 3 from rfl]
      go_wp2_with fail
      go_loopw [10] (fun tv wr => ∃ t : Nat, t ≤ 2 ∧ tv = .int .i64 t ∧ Below w.heap.size w wr ∧ Box wr w.heap.size 23 #[.int .i64 0, .int .i64 0, .int .i64 0, .bool false] ∧ NoneOf s (4 + t)) (fun tv _ => 2 - (intOf tv).toNat)
      case atStart => exact ⟨0, by omega, rfl, H0.out.1, H0.out.2.1, H0.out.2.2⟩
      case round =>
        clear H0
        obtain ⟨t, ht, rfl, hb, hx2, hno⟩ := hrel
        rcases (show t = 0 ∨ t = 1 ∨ t = 2 by omega) with rfl | rfl | rfl
        · have H := Lib.hid (And.intro hb (And.intro hx2 hno))
          clear hb hx2 hno ht
          rw [show ((0 : Nat) : Int) = 0 from rfl]
          have hc : (candsR s)[4]? = some ⟨3, id, 0, false⟩ := by
            show some (candR s 3 false) = _
            unfold candR
            rw [HI.out]
            simp
          have C := Lib.hid (nameR_any 3 id 0 false)
          have HC := Lib.hid hc
          clear hc
          generalize hnm : nameN ⟨3, id, 0, false⟩ = nm at C
          have HM := Lib.hid hnm
          clear hnm
          obtain ⟨NM, hNM⟩ : ∃ S : ByteArray, (⟨nm.toArray⟩ : ByteArray) = S := ⟨_, rfl⟩
          rw [hNM] at C
          have HNM := Lib.hid hNM
          clear hNM
          have hx := Box.new wr 23 #[.int .i64 3, .int .i64 id, .int .i64 0, .bool false]
          have hbw := Below.al wr (.cells #[.int .i64 3, .int .i64 id, .int .i64 0, .bool false] 23)
          have HX := Lib.hid (And.intro hx (And.intro (H.out.1.trans (hbw.mono H.out.1.size)) (H.out.2.1.next hbw)))
          clear hx hbw
          by_cases hq0 : nm = []
          · have k1 : (NM.toList == []) = true := by rw [← HNM.out]; exact beq_yes2 hq0
            have HQ := Lib.hid hq0
            clear hq0
            go_wp2_with (first
                | (go_at_call 6
                   refine (C.out _).mono ?_
                   rintro e w5 ⟨rfl, hb5⟩
                   have hx := HX.out.1.next hb5
                   have hy := HX.out.2.2.next hb5
                   have hxc := hx.cell
                   have hxc2 := hy.cell
                   have hxf2 := hy.free
                   have hxl2 := hy.lt
                   have HY := Lib.hid (And.intro (HX.out.2.1.trans (hb5.mono HX.out.2.1.size)) (And.intro hx hy))
                   clear hb5 hx hy))
            go_roundw
            case rel => exact ⟨1, by omega, rfl, HY.out.1, HY.out.2.2, none_next H.out.2.2 HC.out (fun h => h.1 (HM.out.trans HQ.out))⟩
            case measure => simp [intOf]
          have k1 : (NM.toList == []) = false := by rw [← HNM.out]; exact beq_no2 hq0
          by_cases hq1 : nm = s
          · have k2 : (NM.toList == S.toList) = true := by rw [← HNM.out, ← HS.out]; exact beq_yes hq1
            have HP := Lib.hid (parse_hit H.out.2.2 HC.out ⟨fun e => hq0 (HM.out.symm.trans e), HM.out.trans hq1⟩)
            clear hq0 hq1
            go_wp2_with (first
                | (go_at_call 6
                   refine (C.out _).mono ?_
                   rintro e w5 ⟨rfl, hb5⟩
                   have hx := HX.out.1.next hb5
                   have hy := HX.out.2.2.next hb5
                   have hxc := hx.cell
                   have hxc2 := hy.cell
                   have hxf2 := hy.free
                   have hxl2 := hy.lt
                   have HY := Lib.hid (And.intro (HX.out.2.1.trans (hb5.mono HX.out.2.1.size)) (And.intro hx hy))
                   clear hb5 hx hy))
            refine bodyPost_ret (v := FN.v ⟨3, id, 0, false⟩) ?_ rfl ?_
            · simp [results, Tryd.results8, go_sem, hxc2, FN.v]
            refine ⟨by rw [HP.out], ?_⟩
            repeat (first | with_reducible exact HY.out.1 | refine Below.setCell ?_ (by simp) _)
          · have k2 : (NM.toList == S.toList) = false := by rw [← HNM.out, ← HS.out]; exact beq_no hq1
            have HQ := Lib.hid hq1
            clear hq0 hq1
            go_wp2_with (first
                | (go_at_call 6
                   refine (C.out _).mono ?_
                   rintro e w5 ⟨rfl, hb5⟩
                   have hx := HX.out.1.next hb5
                   have hy := HX.out.2.2.next hb5
                   have hxc := hx.cell
                   have hxc2 := hy.cell
                   have hxf2 := hy.free
                   have hxl2 := hy.lt
                   have HY := Lib.hid (And.intro (HX.out.2.1.trans (hb5.mono HX.out.2.1.size)) (And.intro hx hy))
                   clear hb5 hx hy))
            go_roundw
            case rel => exact ⟨1, by omega, rfl, HY.out.1, HY.out.2.2, none_next H.out.2.2 HC.out (fun h => HQ.out (HM.out.symm.trans h.2))⟩
            case measure => simp [intOf]
        · have H := Lib.hid (And.intro hb (And.intro hx2 hno))
          clear hb hx2 hno ht
          rw [show ((1 : Nat) : Int) = 1 from rfl]
          have hc : (candsR s)[5]? = some ⟨3, id, 0, true⟩ := by
            show some (candR s 3 true) = _
            unfold candR
            rw [HI.out]
            simp
          have C := Lib.hid (nameR_any 3 id 0 true)
          have HC := Lib.hid hc
          clear hc
          generalize hnm : nameN ⟨3, id, 0, true⟩ = nm at C
          have HM := Lib.hid hnm
          clear hnm
          obtain ⟨NM, hNM⟩ : ∃ S : ByteArray, (⟨nm.toArray⟩ : ByteArray) = S := ⟨_, rfl⟩
          rw [hNM] at C
          have HNM := Lib.hid hNM
          clear hNM
          have hx := Box.new wr 23 #[.int .i64 3, .int .i64 id, .int .i64 0, .bool true]
          have hbw := Below.al wr (.cells #[.int .i64 3, .int .i64 id, .int .i64 0, .bool true] 23)
          have HX := Lib.hid (And.intro hx (And.intro (H.out.1.trans (hbw.mono H.out.1.size)) (H.out.2.1.next hbw)))
          clear hx hbw
          by_cases hq0 : nm = []
          · have k1 : (NM.toList == []) = true := by rw [← HNM.out]; exact beq_yes2 hq0
            have HQ := Lib.hid hq0
            clear hq0
            go_wp2_with (first
                | (go_at_call 6
                   refine (C.out _).mono ?_
                   rintro e w5 ⟨rfl, hb5⟩
                   have hx := HX.out.1.next hb5
                   have hy := HX.out.2.2.next hb5
                   have hxc := hx.cell
                   have hxc2 := hy.cell
                   have hxf2 := hy.free
                   have hxl2 := hy.lt
                   have HY := Lib.hid (And.intro (HX.out.2.1.trans (hb5.mono HX.out.2.1.size)) (And.intro hx hy))
                   clear hb5 hx hy))
            go_roundw
            case rel => exact ⟨2, by omega, rfl, HY.out.1, HY.out.2.2, none_next H.out.2.2 HC.out (fun h => h.1 (HM.out.trans HQ.out))⟩
            case measure => simp [intOf]
          have k1 : (NM.toList == []) = false := by rw [← HNM.out]; exact beq_no2 hq0
          by_cases hq1 : nm = s
          · have k2 : (NM.toList == S.toList) = true := by rw [← HNM.out, ← HS.out]; exact beq_yes hq1
            have HP := Lib.hid (parse_hit H.out.2.2 HC.out ⟨fun e => hq0 (HM.out.symm.trans e), HM.out.trans hq1⟩)
            clear hq0 hq1
            go_wp2_with (first
                | (go_at_call 6
                   refine (C.out _).mono ?_
                   rintro e w5 ⟨rfl, hb5⟩
                   have hx := HX.out.1.next hb5
                   have hy := HX.out.2.2.next hb5
                   have hxc := hx.cell
                   have hxc2 := hy.cell
                   have hxf2 := hy.free
                   have hxl2 := hy.lt
                   have HY := Lib.hid (And.intro (HX.out.2.1.trans (hb5.mono HX.out.2.1.size)) (And.intro hx hy))
                   clear hb5 hx hy))
            refine bodyPost_ret (v := FN.v ⟨3, id, 0, true⟩) ?_ rfl ?_
            · simp [results, Tryd.results8, go_sem, hxc2, FN.v]
            refine ⟨by rw [HP.out], ?_⟩
            repeat (first | with_reducible exact HY.out.1 | refine Below.setCell ?_ (by simp) _)
          · have k2 : (NM.toList == S.toList) = false := by rw [← HNM.out, ← HS.out]; exact beq_no hq1
            have HQ := Lib.hid hq1
            clear hq0 hq1
            go_wp2_with (first
                | (go_at_call 6
                   refine (C.out _).mono ?_
                   rintro e w5 ⟨rfl, hb5⟩
                   have hx := HX.out.1.next hb5
                   have hy := HX.out.2.2.next hb5
                   have hxc := hx.cell
                   have hxc2 := hy.cell
                   have hxf2 := hy.free
                   have hxl2 := hy.lt
                   have HY := Lib.hid (And.intro (HX.out.2.1.trans (hb5.mono HX.out.2.1.size)) (And.intro hx hy))
                   clear hb5 hx hy))
            go_roundw
            case rel => exact ⟨2, by omega, rfl, HY.out.1, HY.out.2.2, none_next H.out.2.2 HC.out (fun h => HQ.out (HM.out.symm.trans h.2))⟩
            case measure => simp [intOf]
        · have H := Lib.hid (And.intro hb (And.intro hx2 hno))
          clear hb hx2 hno ht
          rw [show ((2 : Nat) : Int) = 2 from rfl]
          go_wp2_with fail
          go_roundw
          case rel => exact ⟨4, by omega, by omega, rfl, H.out.1, H.out.2.1, H.out.2.2⟩
          case measure => simp [intOf]
    · clear hk hk1 hk5
      rw [show ((4 : Nat) : Int) = 4 from rfl]
      go_wp2_with fail
      go_loopw [10] (fun tv wr => ∃ t : Nat, t ≤ 2 ∧ tv = .int .i64 t ∧ Below w.heap.size w wr ∧ Box wr w.heap.size 23 #[.int .i64 0, .int .i64 0, .int .i64 0, .bool false] ∧ NoneOf s (6 + t)) (fun tv _ => 2 - (intOf tv).toNat)
      case atStart => exact ⟨0, by omega, rfl, H0.out.1, H0.out.2.1, H0.out.2.2⟩
      case round =>
        clear H0
        obtain ⟨t, ht, rfl, hb, hx2, hno⟩ := hrel
        rcases (show t = 0 ∨ t = 1 ∨ t = 2 by omega) with rfl | rfl | rfl
        · have H := Lib.hid (And.intro hb (And.intro hx2 hno))
          clear hb hx2 hno ht
          rw [show ((0 : Nat) : Int) = 0 from rfl]
          have hc : (candsR s)[6]? = some ⟨4, 0, 0, false⟩ := by
            show some (candR s 4 false) = _
            unfold candR
            rw [HI.out]
            simp
          have C := Lib.hid (nameR_any 4 0 0 false)
          have HC := Lib.hid hc
          clear hc
          generalize hnm : nameN ⟨4, 0, 0, false⟩ = nm at C
          have HM := Lib.hid hnm
          clear hnm
          obtain ⟨NM, hNM⟩ : ∃ S : ByteArray, (⟨nm.toArray⟩ : ByteArray) = S := ⟨_, rfl⟩
          rw [hNM] at C
          have HNM := Lib.hid hNM
          clear hNM
          have hx := Box.new wr 23 #[.int .i64 4, .int .i64 0, .int .i64 0, .bool false]
          have hbw := Below.al wr (.cells #[.int .i64 4, .int .i64 0, .int .i64 0, .bool false] 23)
          have HX := Lib.hid (And.intro hx (And.intro (H.out.1.trans (hbw.mono H.out.1.size)) (H.out.2.1.next hbw)))
          clear hx hbw
          by_cases hq0 : nm = []
          · have k1 : (NM.toList == []) = true := by rw [← HNM.out]; exact beq_yes2 hq0
            have HQ := Lib.hid hq0
            clear hq0
            go_wp2_with (first
                | (go_at_call 6
                   refine (C.out _).mono ?_
                   rintro e w5 ⟨rfl, hb5⟩
                   have hx := HX.out.1.next hb5
                   have hy := HX.out.2.2.next hb5
                   have hxc := hx.cell
                   have hxc2 := hy.cell
                   have hxf2 := hy.free
                   have hxl2 := hy.lt
                   have HY := Lib.hid (And.intro (HX.out.2.1.trans (hb5.mono HX.out.2.1.size)) (And.intro hx hy))
                   clear hb5 hx hy))
            go_roundw
            case rel => exact ⟨1, by omega, rfl, HY.out.1, HY.out.2.2, none_next H.out.2.2 HC.out (fun h => h.1 (HM.out.trans HQ.out))⟩
            case measure => simp [intOf]
          have k1 : (NM.toList == []) = false := by rw [← HNM.out]; exact beq_no2 hq0
          by_cases hq1 : nm = s
          · have k2 : (NM.toList == S.toList) = true := by rw [← HNM.out, ← HS.out]; exact beq_yes hq1
            have HP := Lib.hid (parse_hit H.out.2.2 HC.out ⟨fun e => hq0 (HM.out.symm.trans e), HM.out.trans hq1⟩)
            clear hq0 hq1
            go_wp2_with (first
                | (go_at_call 6
                   refine (C.out _).mono ?_
                   rintro e w5 ⟨rfl, hb5⟩
                   have hx := HX.out.1.next hb5
                   have hy := HX.out.2.2.next hb5
                   have hxc := hx.cell
                   have hxc2 := hy.cell
                   have hxf2 := hy.free
                   have hxl2 := hy.lt
                   have HY := Lib.hid (And.intro (HX.out.2.1.trans (hb5.mono HX.out.2.1.size)) (And.intro hx hy))
                   clear hb5 hx hy))
            refine bodyPost_ret (v := FN.v ⟨4, 0, 0, false⟩) ?_ rfl ?_
            · simp [results, Tryd.results8, go_sem, hxc2, FN.v]
            refine ⟨by rw [HP.out], ?_⟩
            repeat (first | with_reducible exact HY.out.1 | refine Below.setCell ?_ (by simp) _)
          · have k2 : (NM.toList == S.toList) = false := by rw [← HNM.out, ← HS.out]; exact beq_no hq1
            have HQ := Lib.hid hq1
            clear hq0 hq1
            go_wp2_with (first
                | (go_at_call 6
                   refine (C.out _).mono ?_
                   rintro e w5 ⟨rfl, hb5⟩
                   have hx := HX.out.1.next hb5
                   have hy := HX.out.2.2.next hb5
                   have hxc := hx.cell
                   have hxc2 := hy.cell
                   have hxf2 := hy.free
                   have hxl2 := hy.lt
                   have HY := Lib.hid (And.intro (HX.out.2.1.trans (hb5.mono HX.out.2.1.size)) (And.intro hx hy))
                   clear hb5 hx hy))
            go_roundw
            case rel => exact ⟨1, by omega, rfl, HY.out.1, HY.out.2.2, none_next H.out.2.2 HC.out (fun h => HQ.out (HM.out.symm.trans h.2))⟩
            case measure => simp [intOf]
        · have H := Lib.hid (And.intro hb (And.intro hx2 hno))
          clear hb hx2 hno ht
          rw [show ((1 : Nat) : Int) = 1 from rfl]
          have hc : (candsR s)[7]? = some ⟨4, 0, 0, true⟩ := by
            show some (candR s 4 true) = _
            unfold candR
            rw [HI.out]
            simp
          have C := Lib.hid (nameR_any 4 0 0 true)
          have HC := Lib.hid hc
          clear hc
          generalize hnm : nameN ⟨4, 0, 0, true⟩ = nm at C
          have HM := Lib.hid hnm
          clear hnm
          obtain ⟨NM, hNM⟩ : ∃ S : ByteArray, (⟨nm.toArray⟩ : ByteArray) = S := ⟨_, rfl⟩
          rw [hNM] at C
          have HNM := Lib.hid hNM
          clear hNM
          have hx := Box.new wr 23 #[.int .i64 4, .int .i64 0, .int .i64 0, .bool true]
          have hbw := Below.al wr (.cells #[.int .i64 4, .int .i64 0, .int .i64 0, .bool true] 23)
          have HX := Lib.hid (And.intro hx (And.intro (H.out.1.trans (hbw.mono H.out.1.size)) (H.out.2.1.next hbw)))
          clear hx hbw
          by_cases hq0 : nm = []
          · have k1 : (NM.toList == []) = true := by rw [← HNM.out]; exact beq_yes2 hq0
            have HQ := Lib.hid hq0
            clear hq0
            go_wp2_with (first
                | (go_at_call 6
                   refine (C.out _).mono ?_
                   rintro e w5 ⟨rfl, hb5⟩
                   have hx := HX.out.1.next hb5
                   have hy := HX.out.2.2.next hb5
                   have hxc := hx.cell
                   have hxc2 := hy.cell
                   have hxf2 := hy.free
                   have hxl2 := hy.lt
                   have HY := Lib.hid (And.intro (HX.out.2.1.trans (hb5.mono HX.out.2.1.size)) (And.intro hx hy))
                   clear hb5 hx hy))
            go_roundw
            case rel => exact ⟨2, by omega, rfl, HY.out.1, HY.out.2.2, none_next H.out.2.2 HC.out (fun h => h.1 (HM.out.trans HQ.out))⟩
            case measure => simp [intOf]
          have k1 : (NM.toList == []) = false := by rw [← HNM.out]; exact beq_no2 hq0
          by_cases hq1 : nm = s
          · have k2 : (NM.toList == S.toList) = true := by rw [← HNM.out, ← HS.out]; exact beq_yes hq1
            have HP := Lib.hid (parse_hit H.out.2.2 HC.out ⟨fun e => hq0 (HM.out.symm.trans e), HM.out.trans hq1⟩)
            clear hq0 hq1
            go_wp2_with (first
                | (go_at_call 6
                   refine (C.out _).mono ?_
                   rintro e w5 ⟨rfl, hb5⟩
                   have hx := HX.out.1.next hb5
                   have hy := HX.out.2.2.next hb5
                   have hxc := hx.cell
                   have hxc2 := hy.cell
                   have hxf2 := hy.free
                   have hxl2 := hy.lt
                   have HY := Lib.hid (And.intro (HX.out.2.1.trans (hb5.mono HX.out.2.1.size)) (And.intro hx hy))
                   clear hb5 hx hy))
            refine bodyPost_ret (v := FN.v ⟨4, 0, 0, true⟩) ?_ rfl ?_
            · simp [results, Tryd.results8, go_sem, hxc2, FN.v]
            refine ⟨by rw [HP.out], ?_⟩
            repeat (first | with_reducible exact HY.out.1 | refine Below.setCell ?_ (by simp) _)
          · have k2 : (NM.toList == S.toList) = false := by rw [← HNM.out, ← HS.out]; exact beq_no hq1
            have HQ := Lib.hid hq1
            clear hq0 hq1
            go_wp2_with (first
                | (go_at_call 6
                   refine (C.out _).mono ?_
                   rintro e w5 ⟨rfl, hb5⟩
                   have hx := HX.out.1.next hb5
                   have hy := HX.out.2.2.next hb5
                   have hxc := hx.cell
                   have hxc2 := hy.cell
                   have hxf2 := hy.free
                   have hxl2 := hy.lt
                   have HY := Lib.hid (And.intro (HX.out.2.1.trans (hb5.mono HX.out.2.1.size)) (And.intro hx hy))
                   clear hb5 hx hy))
            go_roundw
            case rel => exact ⟨2, by omega, rfl, HY.out.1, HY.out.2.2, none_next H.out.2.2 HC.out (fun h => HQ.out (HM.out.symm.trans h.2))⟩
            case measure => simp [intOf]
        · have H := Lib.hid (And.intro hb (And.intro hx2 hno))
          clear hb hx2 hno ht
          rw [show ((2 : Nat) : Int) = 2 from rfl]
          go_wp2_with fail
          go_roundw
          case rel => exact ⟨5, by omega, by omega, rfl, H.out.1, H.out.2.1, H.out.2.2⟩
          case measure => simp [intOf]
theorem parseR_any (s : List UInt8) (hs : s.length ≤ 1048576) (w : World) :
    Calls Tryd.prog 8 #[.string ⟨s.toArray⟩] w fun e w' => e = .returned (FN.v (parseR s)) ∧ Below w.heap.size w w' := by
  match h : s with
  | [] => exact parseR_e [] rfl w
  | b :: r =>
    by_cases hb : b = 116
    · match hr : (digR 0 r).2 with
      | [] => exact parseR_1 (b :: r) b r rfl hb hr hs w
      | c :: r2 => exact parseR_2 (b :: r) b r rfl hb c r2 hr hs w
    · exact parseR_o (b :: r) b r rfl hb w
end Go.Proofs.YtbmbgkgjlnookaaDoor
