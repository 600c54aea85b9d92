import Derived.Test.YtjgdjfmgkmegfaaMan16
namespace Go.Proofs.Ytjgdjfmgkmegfaa
open Go.RowKit Go.Maps

set_option maxRecDepth 100000 in
set_option maxHeartbeats 8000000 in
theorem octEncode (id ns nx mk cl : Int) (A A2 : Option Addr) (c d : Nat) (segs : List Int) (prods : List P3) (w : World) (hA : Rd w w.heap.size A (segs.map (.int .i64))) (hB : Rd w w.heap.size A2 (prods.flatMap tri)) (hws : ∀ s ∈ segs, (Lit.int .i64 s).wf = true) :
    Calls Try.prog 21 #[manV id ns nx mk cl (.slice A segs.length c) (.slice A2 prods.length d)] w fun e w' =>
      ∃ b cap, e = .returned (.tuple #[.slice b (encM id ns nx mk cl segs prods).length cap, .int .i64 (manE id ns nx mk cl segs prods)]) ∧
        w'.ownsRow w.heap.size 5 1 (.slice b (encM id ns nx mk cl segs prods).length cap) (encM id ns nx mk cl segs prods).length (bv (encM id ns nx mk cl segs prods)) ∧ Below w.heap.size w w' := by
  have hb0 : Below w.heap.size w (w.alloc (.cells #[.int .i64 id, .int .i64 ns, .int .i64 nx, .int .i64 mk, .int .i64 cl, .slice A segs.length c, .slice A2 prods.length d] 25)) := (Below.refl _ _).alloc (Nat.le_refl _) _
  have hX0 := Box.new w 25 #[.int .i64 id, .int .i64 ns, .int .i64 nx, .int .i64 mk, .int .i64 cl, .slice A segs.length c, .slice A2 prods.length d]
  have Hb0 := Lib.hid hb0
  have HX0 := Lib.hid hX0
  have HA := Lib.hid hA
  have HB := Lib.hid hB
  clear hb0 hX0 hA hB
  cases hr : manR id ns nx mk cl segs prods with
  | false =>
    have HE := Lib.hid (show manE id ns nx mk cl segs prods = 70 by rw [manE, hr]; rfl)
    have HL := Lib.hid (show encM id ns nx mk cl segs prods = [] by rw [encM, hr]; rfl)
    clear hr
    go_enter Try.func21, Try.ntmps21
    go_wp2_with (go_at_call 9; refine (check_any id ns nx mk cl A A2 c d segs prods _ ((HA.out.below Hb0.out).mono (by simp)) ((HB.out.below Hb0.out).mono (by simp)) hws).mono ?_; rintro e w1 ⟨he, hb1⟩; rw [HE.out] at he; subst he; have Hb1 := Lib.hid hb1; clear hb1)
    go_ret2
    rw [HL.out, HE.out]
    exact ⟨none, 0, rfl, nil_own _ _ _ _, Hb0.out.trans (Hb1.out.mono (by simp))⟩
  | true =>
    have HE := Lib.hid (show manE id ns nx mk cl segs prods = 0 by rw [manE, hr]; rfl)
    have HL := Lib.hid (show encM id ns nx mk cl segs prods = wrapB 179 (bodyM id ns nx mk cl segs prods) by rw [encM, hr]; rfl)
    obtain ⟨fa, fb, fs, fp, fse, fpr⟩ := manR_facts hr
    unfold manA at fa
    unfold manB at fb
    obtain ⟨⟨⟨a1, a2⟩, a3⟩, a4⟩ := fa
    obtain ⟨⟨⟨b1, b2⟩, b3, b4⟩, b5, b6⟩ := fb
    have Fse := Lib.hid fse
    have Fpr := Lib.hid fpr
    clear hr fse fpr
    go_enter Try.func21, Try.ntmps21
    go_wp2_with (first
      | (go_at_call 9; refine (check_any id ns nx mk cl A A2 c d segs prods _ ((HA.out.below Hb0.out).mono (by simp)) ((HB.out.below Hb0.out).mono (by simp)) hws).mono ?_; rintro e w1 ⟨he, hb1⟩; rw [HE.out] at he; subst he; have HX := Lib.hid (HX0.out.below hb1 (by simp)); have Hb1 := Lib.hid (Hb0.out.trans (hb1.mono (by simp))); have hsz1 : w.heap.size < w1.heap.size := by (have := hb1.size; simp at this; omega)
         have hcx1 := HX.out.cell
         clear hb1)
      | (go_at_call 45; refine (wNew _).mono ?_; rintro e w2 ⟨rfl, hw2, hb2⟩; have S := Lib.hid (WS.new (B := w.heap.size + 1) (by omega) hw2 hb2); have hcx2 := (HX.out.below hb2 HX.out.lt).cell; have L : Hid (([] : List UInt8).length ≤ 0) := by (show _ ≤ 0; simp)
         have G : Hid True := trivial
         clear hw2 hb2))
    have hvb : ∀ v ∈ [id, ns, nx, mk, cl, (segs.length : Int)], 0 ≤ v ∧ v < 18446744073709551616 := by
      intro v hv
      simp only [List.mem_cons, List.not_mem_nil, or_false] at hv
      omega
    have Hvb := Lib.hid hvb
    clear hvb
    go_loopw [33] (fun i wr => ∃ (k : Nat) (g : Option Nat) (l : List UInt8), k ≤ 6 ∧ i = .int .i64 k ∧ WS (w.heap.size + 1) w1 wr 92 w1.heap.size g l ∧ l.length ≤ 10 * k ∧ l = ([id, ns, nx, mk, cl, (segs.length : Int)].take k).flatMap uvarI ∧
        Box wr w2.heap.size 2 #[.int .i64 id, .int .i64 ns, .int .i64 nx, .int .i64 mk, .int .i64 cl, .int .i64 (segs.length : Int)] ∧ (∀ j, g = some j → w2.heap.size < j))
      (fun i _ => 6 - (intOf i).toNat)
    case atStart =>
      exact ⟨0, _, _, Nat.zero_le _, rfl, S.out.on ((Below.refl _ _).alloc (Nat.le_refl _) _), by have := L.out; omega, rfl, Box.new _ _ _, fun _ e => by cases e⟩
    case round =>
      have hw12 : w1.heap.size < w2.heap.size := S.out.wr.lt
      clear S L G
      obtain ⟨k, g, l, hk, rfl, hS, hL, hl, hQ, hG⟩ := hrel
      have S := Lib.hid hS
      have L := Lib.hid hL
      have Hl := Lib.hid hl
      have HQ := Lib.hid hQ
      have G := Lib.hid hG
      have hcx3 := (HX.out.below hS.below (by omega)).cell
      clear hS hL hl hG
      by_cases hlt : k < 6
      · have hck := hQ.cell k
        have hlv : k < [id, ns, nx, mk, cl, (segs.length : Int)].length := hlt
        have ha : (#[.int .i64 id, .int .i64 ns, .int .i64 nx, .int .i64 mk, .int .i64 cl, .int .i64 (segs.length : Int)] : Array Value)[k]? = some (.int .i64 [id, ns, nx, mk, cl, (segs.length : Int)][k]) := by
          rw [show (#[.int .i64 id, .int .i64 ns, .int .i64 nx, .int .i64 mk, .int .i64 cl, .int .i64 (segs.length : Int)] : Array Value) = ([id, ns, nx, mk, cl, (segs.length : Int)].map (Value.int .i64)).toArray from rfl]
          simp only [List.getElem?_toArray, List.getElem?_map, List.getElem?_eq_getElem hlv, Option.map_some]
        rw [ha] at hck
        have hvk := Hvb.out _ (List.getElem_mem hlv)
        have Hs := Lib.hid (flat_take [id, ns, nx, mk, cl, (segs.length : Int)] uvarI k hlv)
        generalize [id, ns, nx, mk, cl, (segs.length : Int)][k] = vk at hck hvk Hs
        clear hQ ha
        go_wp2_with (first
          | (go_at_call 46; refine (wUv S.out L.out (by omega) _ (by omega) (by omega)).mono ?_; rintro e wq ⟨rfl, gq, s1, s2, s3, s4⟩; have S' := Lib.hid s1; have L' := Lib.hid s2; have hX' := HX.out.below s1.below (by omega); have hcx' := hX'.cell; have HQ' := Lib.hid (HQ.out.chg s3 (by rintro (e | e); exact absurd e (by omega); exact absurd (G.out _ e.symm) (by omega))); have G' : Hid (∀ j, gq = some j → w2.heap.size < j) := (by rcases s4 with s4 | ⟨k', s4, s5⟩; exact fun j hj => G.out j (s4.symm.trans hj); exact fun j hj => (by rw [s4] at hj; cases hj; have := HQ.out.lt; omega)); clear s1 s2 s3 s4 S L HQ G; have HQ := HQ'; have G := G'; clear HQ' G'; have S := S'; have L := L'; clear S' L' hX'))
        go_roundw
        case rel => exact ⟨k + 1, _, _, by omega, by go_num, S.out, by have := L.out; omega, by rw [Hs.out, Hl.out], HQ.out, G.out⟩
        case measure => simp [intOf]; omega
      · have hke : Hid ([id, ns, nx, mk, cl, (segs.length : Int)].take k = [id, ns, nx, mk, cl, (segs.length : Int)]) := List.take_of_length_le (by simp; omega)
        rw [hke.out] at Hl
        clear hQ
        go_wp2
        go_loopw [45] (fun i wr => ∃ (k : Nat) (g : Option Nat) (l : List UInt8), k ≤ segs.length ∧ i = .int .i64 k ∧ WS (w.heap.size + 1) w1 wr 92 w1.heap.size g l ∧ l.length ≤ 60 + 10 * k ∧ l = [id, ns, nx, mk, cl, (segs.length : Int)].flatMap uvarI ++ (segs.take k).flatMap uvarI)
          (fun i _ => segs.length - (intOf i).toNat)
        case atStart => exact ⟨0, _, _, Nat.zero_le _, rfl, S.out, by have := L.out; omega, by rw [Hl.out]; simp⟩
        case round =>
          clear S L G Hl HQ
          obtain ⟨k, g, l, hk, rfl, hS, hL, hl⟩ := hrel
          have S := Lib.hid hS
          have L := Lib.hid hL
          have Hl := Lib.hid hl
          have hcx3 := (HX.out.below hS.below (by omega)).cell
          clear hS hL hl
          by_cases hlt : k < segs.length
          · obtain ⟨ad, rfl, _, hck⟩ := (HA.out.below (Hb1.out.trans (S.out.below.mono (by omega)))).int hlt
            have hse := Fse.out _ (List.getElem_mem hlt)
            have Hs := Lib.hid (flat_take segs uvarI k hlt)
            generalize segs[k] = sk at hck hse Hs
            go_wp2_with (first
              | (go_at_call 46; refine (wUv S.out L.out (by omega) _ (by omega) (by omega)).mono ?_; rintro e wq ⟨rfl, gq, s1, s2, s3, s4⟩; have S' := Lib.hid s1; have L' := Lib.hid s2; have hX' := HX.out.below s1.below (by omega); have hcx' := hX'.cell; clear s1 s2 s3 s4 S L; have S := S'; have L := L'; clear S' L' hX'))
            go_roundw
            case rel => exact ⟨k + 1, _, _, by omega, by go_num, S.out, by have := L.out; omega, by rw [Hs.out, ← List.append_assoc, Hl.out]⟩
            case measure => simp [intOf]; omega
          · have hke : Hid (segs.take k = segs) := List.take_of_length_le (by omega)
            rw [hke.out] at Hl
            go_wp2_with (first
              | (go_at_call 46; refine (wUv S.out L.out (by omega) _ (by omega) (by omega)).mono ?_; rintro e wq ⟨rfl, gq, s1, s2, s3, s4⟩; have S' := Lib.hid s1; have L' := Lib.hid s2; have hX' := HX.out.below s1.below (by omega); have hcx' := hX'.cell; clear s1 s2 s3 s4 S L; have S := S'; have L := L'; clear S' L' hX'))
            go_loopw [63] (fun i wr => ∃ (k : Nat) (g : Option Nat) (l : List UInt8), k ≤ prods.length ∧ i = .int .i64 k ∧ WS (w.heap.size + 1) w1 wr 92 w1.heap.size g l ∧ l.length ≤ 1000 + 30 * k ∧
                l = [id, ns, nx, mk, cl, (segs.length : Int)].flatMap uvarI ++ segs.flatMap uvarI ++ uvarI prods.length ++ (prods.take k).flatMap prodB)
              (fun i _ => prods.length - (intOf i).toNat)
            case atStart => exact ⟨0, _, _, Nat.zero_le _, rfl, S.out, by have := L.out; omega, by rw [Hl.out]; simp⟩
            case round =>
              clear S L Hl
              obtain ⟨m, g, l, hm, rfl, hS, hL, hl⟩ := hrel
              have S := Lib.hid hS
              have L := Lib.hid hL
              have Hl := Lib.hid hl
              have hcx4 := (HX.out.below hS.below (by omega)).cell
              clear hS hL hl
              by_cases hlt : m < prods.length
              · obtain ⟨ad, rfl, _, hp1, hp2, hp3⟩ := (HB.out.below (Hb1.out.trans (S.out.below.mono (by omega)))).tri_ hlt
                have hpr := Fpr.out _ (List.getElem_mem hlt)
                have Hs := Lib.hid (flat_take prods prodB m hlt)
                generalize prods[m] = pm at hp1 hp2 hp3 hpr Hs
                obtain ⟨⟨q1, q2⟩, ⟨q3, q4⟩, q5, q6⟩ := hpr
                have HQ := Lib.hid (Box.new wr 58 #[.int .i64 pm.1, .int .i64 pm.2.1, .int .i64 pm.2.2])
                have S' := Lib.hid (S.out.on ((Below.refl _ _).alloc (Nat.le_refl _) (.cells #[.int .i64 pm.1, .int .i64 pm.2.1, .int .i64 pm.2.2] 58)))
                have G : Hid (∀ k, g = some k → wr.heap.size ≠ k) := fun k hk => by have := S.out.wr.glt hk; omega
                have hpw : w1.heap.size < wr.heap.size := S.out.wr.lt
                clear S
                have S := S'
                clear S'
                go_wp2_with (first
                  | (go_at_call 46; refine (wUv S.out L.out (by omega) _ (by omega) (by omega)).mono ?_; rintro e wq ⟨rfl, gq, s1, s2, s3, s4⟩; have S' := Lib.hid s1; have L' := Lib.hid s2; have hX' := HX.out.below s1.below (by omega); have hcx' := hX'.cell; have HQ' := Lib.hid (HQ.out.chg s3 (by rintro (e | e); exact absurd e (by omega); exact absurd rfl (G.out _ e.symm))); have hcq' := HQ'.out.cell; have G' : Hid (∀ j, gq = some j → wr.heap.size ≠ j) := (by rcases s4 with s4 | ⟨k', s4, s5⟩; exact fun j hj => G.out j (s4.symm.trans hj); exact fun j hj => (by rw [s4] at hj; cases hj; have := HQ.out.lt; omega)); clear s1 s2 s3 s4 S L HQ G; have HQ := HQ'; have G := G'; clear HQ' G'; have S := S'; have L := L'; clear S' L' hX'))
                go_roundw
                case rel => exact ⟨m + 1, _, _, by omega, by go_num, S.out, by have := L.out; omega, by rw [Hs.out, ← List.append_assoc, ← Hl.out]; simp [prodB]⟩
                case measure => simp [intOf]; omega
              · have hke : Hid (prods.take m = prods) := List.take_of_length_le (by omega)
                rw [hke.out] at Hl
                have Hbl := Lib.hid (show l.length = (bodyM id ns nx mk cl segs prods).length by rw [Hl.out]; rfl)
                have hbl : (bodyM id ns nx mk cl segs prods).length ≤ 1000000 := by have := L.out; rw [← Hbl.out]; omega
                go_wp2_with (first
                  | (go_at_call 48; refine (wBytesL _ _ _ (bodyM id ns nx mk cl segs prods) (bodyM id ns nx mk cl segs prods).length _ S.out.wr Hl.out rfl (by omega)).mono ?_; rintro e w5 ⟨b5, cap5, rfl, hown, hb5⟩; have S5 := Lib.hid (S.out.on hb5); have O5 := Lib.hid hown; clear hown hb5)
                  | (go_at_call 47; refine (octWrap 179 _ (bodyM id ns nx mk cl segs prods).length _ (bodyM id ns nx mk cl segs prods) _ (ownsRow_rd O5.out) rfl (by omega)).mono ?_; rintro e w6 ⟨b6, cap6, rfl, hown, hb6⟩; have S6 := Lib.hid (S5.out.on hb6); have O6 := Lib.hid hown; clear hown hb6))
                go_ret2
                rw [HL.out, HE.out, wrapB_len]
                exact ⟨b6, cap6, rfl, ownsRow_le O6.out (Nat.le_trans Hb1.out.size S5.out.below.size), Hb1.out.trans (S6.out.below.mono (by omega))⟩
end Go.Proofs.Ytjgdjfmgkmegfaa
