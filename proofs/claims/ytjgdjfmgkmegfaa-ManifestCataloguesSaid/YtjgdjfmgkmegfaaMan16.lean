import Derived.Test.YtjgdjfmgkmegfaaOct9
import Derived.Test.YtjgdjfmgkmegfaaOctU
import Derived.Test.YtjgdjfmgkmegfaaMan15
namespace Go.Proofs.Ytjgdjfmgkmegfaa
open Go.RowKit Go.Maps

def prodB (p : P3) : List UInt8 := uvarI p.1 ++ uvarI p.2.1 ++ uvarI p.2.2
def bodyM (id ns nx mk cl : Int) (segs : List Int) (prods : List P3) : List UInt8 :=
  [id, ns, nx, mk, cl, (segs.length : Int)].flatMap uvarI ++ segs.flatMap uvarI ++ uvarI prods.length ++ prods.flatMap prodB
/-- The bytes of a manifest; none, if it may not be. -/
def encM (id ns nx mk cl : Int) (segs : List Int) (prods : List P3) : List UInt8 := if manR id ns nx mk cl segs prods = true then wrapB 179 (bodyM id ns nx mk cl segs prods) else []

theorem prodsGo_facts {nx : Int} : ∀ {last : Int} {l : List P3}, prodsGo nx last l = true → ∀ p ∈ l, (last < p.1 ∧ p.1 < 4294967296) ∧ (1 ≤ p.2.1 ∧ p.2.1 ≤ 1099511627775) ∧ 0 ≤ p.2.2 ∧ p.2.2 ≤ nx - 1
  | _, [], _, p, hp => by cases hp
  | last, q :: l, h, p, hp => by
    simp only [prodsGo, Bool.and_eq_true] at h
    have hq := okp_ref.1 h.1
    rcases List.mem_cons.1 hp with rfl | hp
    · exact hq
    · have := prodsGo_facts h.2 p hp
      omega
theorem manR_facts {id ns nx mk cl : Int} {segs : List Int} {prods : List P3} (h : manR id ns nx mk cl segs prods = true) :
    manA id ns ∧ manB nx mk cl ∧ segs.length ≤ 64 ∧ prods.length ≤ 64 ∧ (∀ s ∈ segs, 1 ≤ s ∧ s < ns) ∧ ∀ p ∈ prods, (0 < p.1 ∧ p.1 < 4294967296) ∧ (1 ≤ p.2.1 ∧ p.2.1 ≤ 1099511627775) ∧ 0 ≤ p.2.2 ∧ p.2.2 ≤ nx - 1 := by
  simp only [manR, Bool.and_eq_true, decide_eq_true_eq, segsR, prodsR, List.all_eq_true] at h
  obtain ⟨⟨⟨h1, h2⟩, ⟨⟨h3, h4⟩, h5⟩, h6⟩, h7, h8⟩ := h
  exact ⟨h1, h2, h4, h7, fun s hs => by have := h5 s hs; omega, prodsGo_facts h8⟩
theorem flat_take {α : Type} (l : List α) (f : α → List UInt8) (k : Nat) (h : k < l.length) : (l.take (k + 1)).flatMap f = (l.take k).flatMap f ++ f l[k] := by
  rw [take_snoc l k h, List.flatMap_append]; simp

set_option maxRecDepth 100000 in
set_option maxHeartbeats 8000000 in
theorem refEncode (id ns nx mk cl : Int) (A A2 : Option Addr) (c d : Nat) (segs : List Int) (prods : List P3) (w : World) (hA : Rd w w.heap.size A (segs.map (.int .i64))) (hB : Rd w w.heap.size A2 (prods.flatMap tri)) :
    Calls Try.prog 23 #[manV id ns nx mk cl (.slice A segs.length c) (.slice A2 prods.length d)] w fun e w' =>
      ∃ b cap, e = .returned (.tuple #[.slice b (encM id ns nx mk cl segs prods).length cap, .int .i64 (manE id ns nx mk cl segs prods)]) ∧
        w'.ownsRow w.heap.size 5 1 (.slice b (encM id ns nx mk cl segs prods).length cap) (encM id ns nx mk cl segs prods).length (bv (encM id ns nx mk cl segs prods)) ∧ Below w.heap.size w w' := by
  have hb0 : Below w.heap.size w (w.alloc (.cells #[.int .i64 id, .int .i64 ns, .int .i64 nx, .int .i64 mk, .int .i64 cl, .slice A segs.length c, .slice A2 prods.length d] 25)) := (Below.refl _ _).alloc (Nat.le_refl _) _
  have hX0 := Box.new w 25 #[.int .i64 id, .int .i64 ns, .int .i64 nx, .int .i64 mk, .int .i64 cl, .slice A segs.length c, .slice A2 prods.length d]
  have Hb0 := Lib.hid hb0
  have HX0 := Lib.hid hX0
  have HA := Lib.hid hA
  have HB := Lib.hid hB
  clear hb0 hX0 hA hB
  cases hr : manR id ns nx mk cl segs prods with
  | false =>
    have HE := Lib.hid (show manE id ns nx mk cl segs prods = 70 by rw [manE, hr]; rfl)
    have HL := Lib.hid (show encM id ns nx mk cl segs prods = [] by rw [encM, hr]; rfl)
    clear hr
    go_enter Try.func23, Try.ntmps23
    go_wp2_with (go_at_call 15; refine (refCheck_any id ns nx mk cl A A2 c d segs prods _ ((HA.out.below Hb0.out).mono (by simp)) ((HB.out.below Hb0.out).mono (by simp))).mono ?_; rintro e w1 ⟨he, hb1⟩; rw [HE.out] at he; subst he; have Hb1 := Lib.hid hb1; clear hb1)
    go_ret2
    rw [HL.out, HE.out]
    exact ⟨none, 0, rfl, nil_own _ _ _ _, Hb0.out.trans (Hb1.out.mono (by simp))⟩
  | true =>
    have HE := Lib.hid (show manE id ns nx mk cl segs prods = 0 by rw [manE, hr]; rfl)
    have HL := Lib.hid (show encM id ns nx mk cl segs prods = wrapB 179 (bodyM id ns nx mk cl segs prods) by rw [encM, hr]; rfl)
    obtain ⟨fa, fb, fs, fp, fse, fpr⟩ := manR_facts hr
    unfold manA at fa
    unfold manB at fb
    obtain ⟨⟨⟨a1, a2⟩, a3⟩, a4⟩ := fa
    obtain ⟨⟨⟨b1, b2⟩, b3, b4⟩, b5, b6⟩ := fb
    have Fse := Lib.hid fse
    have Fpr := Lib.hid fpr
    clear hr fse fpr
    go_enter Try.func23, Try.ntmps23
    go_wp2_with (first
      | (go_at_call 15; refine (refCheck_any id ns nx mk cl A A2 c d segs prods _ ((HA.out.below Hb0.out).mono (by simp)) ((HB.out.below Hb0.out).mono (by simp))).mono ?_; rintro e w1 ⟨he, hb1⟩; rw [HE.out] at he; subst he; have HX := Lib.hid (HX0.out.below hb1 (by simp)); have Hb1 := Lib.hid (Hb0.out.trans (hb1.mono (by simp))); have hsz1 : w.heap.size < w1.heap.size := by (have := hb1.size; simp at this; omega)
         have hcx1 := HX.out.cell
         clear hb1)
      | (go_at_call 49; refine (rwNew _).mono ?_; rintro e w2 ⟨rfl, hw2, hb2⟩; have S := Lib.hid (WS.new (B := w.heap.size + 1) (by omega) hw2 hb2); have hcx2 := (HX.out.below hb2 HX.out.lt).cell; have L : Hid (([] : List UInt8).length ≤ 0) := by (show _ ≤ 0; simp)
         have G : Hid (∀ k, (none : Option Nat) = some k → w.heap.size < k) := fun _ e => by cases e
         clear hw2 hb2)
      | (go_at_call 50; refine (rwUv S.out L.out (by omega) _ (by omega) (by omega)).mono ?_; rintro e wq ⟨rfl, gq, s1, s2, s3, s4⟩; have S' := Lib.hid s1; have L' := Lib.hid s2; have hX' := HX.out.below s1.below (by omega); have hcx' := hX'.cell; clear s1 s2 s3 s4 S L; have S := S'; have L := L'; clear S' L' hX'))
    go_loopw [6] (fun i wr => ∃ (k : Nat) (g : Option Nat) (l : List UInt8), k ≤ segs.length ∧ i = .int .i64 k ∧ WS (w.heap.size + 1) w1 wr 101 w1.heap.size g l ∧ l.length ≤ 60 + 10 * k ∧ l = [id, ns, nx, mk, cl, (segs.length : Int)].flatMap uvarI ++ (segs.take k).flatMap uvarI)
      (fun i _ => segs.length - (intOf i).toNat)
    case atStart => exact ⟨0, _, _, Nat.zero_le _, rfl, S.out, by have := L.out; omega, by simp⟩
    case round =>
      clear S L G
      obtain ⟨k, g, l, hk, rfl, hS, hL, hl⟩ := hrel
      have S := Lib.hid hS
      have L := Lib.hid hL
      have Hl := Lib.hid hl
      have hcx3 := (HX.out.below hS.below (by omega)).cell
      clear hS hL hl
      by_cases hlt : k < segs.length
      · obtain ⟨ad, rfl, _, hck⟩ := (HA.out.below (Hb1.out.trans (S.out.below.mono (by omega)))).int hlt
        have hse := Fse.out _ (List.getElem_mem hlt)
        have Hs := Lib.hid (flat_take segs uvarI k hlt)
        generalize segs[k] = sk at hck hse Hs
        go_wp2_with (first
          | (go_at_call 50; refine (rwUv S.out L.out (by omega) _ (by omega) (by omega)).mono ?_; rintro e wq ⟨rfl, gq, s1, s2, s3, s4⟩; have S' := Lib.hid s1; have L' := Lib.hid s2; have hX' := HX.out.below s1.below (by omega); have hcx' := hX'.cell; clear s1 s2 s3 s4 S L; have S := S'; have L := L'; clear S' L' hX'))
        go_roundw
        case rel => exact ⟨k + 1, _, _, by omega, by go_num, S.out, by have := L.out; omega, by rw [Hs.out, ← List.append_assoc, Hl.out]⟩
        case measure => simp [intOf]; omega
      · have hke : Hid (segs.take k = segs) := List.take_of_length_le (by omega)
        rw [hke.out] at Hl
        go_wp2_with (first
          | (go_at_call 50; refine (rwUv S.out L.out (by omega) _ (by omega) (by omega)).mono ?_; rintro e wq ⟨rfl, gq, s1, s2, s3, s4⟩; have S' := Lib.hid s1; have L' := Lib.hid s2; have hX' := HX.out.below s1.below (by omega); have hcx' := hX'.cell; clear s1 s2 s3 s4 S L; have S := S'; have L := L'; clear S' L' hX'))
        go_loopw [7] (fun i wr => ∃ (k : Nat) (g : Option Nat) (l : List UInt8), k ≤ prods.length ∧ i = .int .i64 k ∧ WS (w.heap.size + 1) w1 wr 101 w1.heap.size g l ∧ l.length ≤ 1000 + 30 * k ∧
            l = [id, ns, nx, mk, cl, (segs.length : Int)].flatMap uvarI ++ segs.flatMap uvarI ++ uvarI prods.length ++ (prods.take k).flatMap prodB)
          (fun i _ => prods.length - (intOf i).toNat)
        case atStart => exact ⟨0, _, _, Nat.zero_le _, rfl, S.out, by have := L.out; omega, by rw [Hl.out]; simp⟩
        case round =>
          clear S L Hl
          obtain ⟨m, g, l, hm, rfl, hS, hL, hl⟩ := hrel
          have S := Lib.hid hS
          have L := Lib.hid hL
          have Hl := Lib.hid hl
          have hcx4 := (HX.out.below hS.below (by omega)).cell
          clear hS hL hl
          by_cases hlt : m < prods.length
          · have hpc := fun (W : World) (hW : Below (w.heap.size + 1) w1 W) => (HB.out.below (Hb1.out.trans (hW.mono (by omega)))).tri_ hlt
            obtain ⟨ad, rfl, _, hp1, hp2, hp3⟩ := hpc _ S.out.below
            have Hpc := Lib.hid hpc
            clear hpc
            have hpr := Fpr.out _ (List.getElem_mem hlt)
            have Hs := Lib.hid (flat_take prods prodB m hlt)
            have Hq : Hid (∀ (W : World), Below (w.heap.size + 1) w1 W → W.cell? (ad.add (m * 3)) = some (.int .i64 prods[m].1) ∧
                W.cell? ⟨(ad.add (m * 3)).block, (ad.add (m * 3)).off + 1, none⟩ = some (.int .i64 prods[m].2.1) ∧ W.cell? ⟨(ad.add (m * 3)).block, (ad.add (m * 3)).off + 2, none⟩ = some (.int .i64 prods[m].2.2)) := fun W hW => by
              obtain ⟨ad', e, _, h⟩ := Hpc.out W hW
              cases e
              exact h
            clear Hpc
            generalize prods[m] = pm at hp1 hp2 hp3 hpr Hs Hq
            obtain ⟨⟨q1, q2⟩, ⟨q3, q4⟩, q5, q6⟩ := hpr
            go_wp2_with (first
              | (go_at_call 50; refine (rwUv S.out L.out (by omega) _ (by omega) (by omega)).mono ?_; rintro e wq ⟨rfl, gq, s1, s2, s3, s4⟩; have S' := Lib.hid s1; have L' := Lib.hid s2; have hX' := HX.out.below s1.below (by omega); have hcx' := hX'.cell; obtain ⟨hp1', hp2', hp3'⟩ := Hq.out _ s1.below; clear s1 s2 s3 s4 S L; have S := S'; have L := L'; clear S' L' hX'))
            go_roundw
            case rel => exact ⟨m + 1, _, _, by omega, by go_num, S.out, by have := L.out; omega, by rw [Hs.out, ← List.append_assoc, ← Hl.out]; simp [prodB]⟩
            case measure => simp [intOf]; omega
          · have hke : Hid (prods.take m = prods) := List.take_of_length_le (by omega)
            rw [hke.out] at Hl
            have Hbl := Lib.hid (show l.length = (bodyM id ns nx mk cl segs prods).length by rw [Hl.out]; rfl)
            have hbl : (bodyM id ns nx mk cl segs prods).length ≤ 1000000 := by have := L.out; rw [← Hbl.out]; omega
            go_wp2_with (first
              | (go_at_call 52; refine (rwBytesL _ _ _ (bodyM id ns nx mk cl segs prods) (bodyM id ns nx mk cl segs prods).length _ S.out.wr Hl.out rfl (by omega)).mono ?_; rintro e w5 ⟨b5, cap5, rfl, hown, hb5⟩; have S5 := Lib.hid (S.out.on hb5); have O5 := Lib.hid hown; clear hown hb5)
              | (go_at_call 51; refine (refWrap 179 _ (bodyM id ns nx mk cl segs prods).length _ (bodyM id ns nx mk cl segs prods) _ (ownsRow_rd O5.out) rfl (by omega)).mono ?_; rintro e w6 ⟨b6, cap6, rfl, hown, hb6⟩; have S6 := Lib.hid (S5.out.on hb6); have O6 := Lib.hid hown; clear hown hb6))
            go_ret2
            rw [HL.out, HE.out, wrapB_len]
            exact ⟨b6, cap6, rfl, ownsRow_le O6.out (Nat.le_trans Hb1.out.size S5.out.below.size), Hb1.out.trans (S6.out.below.mono (by omega))⟩
end Go.Proofs.Ytjgdjfmgkmegfaa
