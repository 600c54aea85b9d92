import Derived.Test.YtdeaefbjddodjaaGreatDoorGd
import Derived.Test.YtdeaefbjddodjaaGreatDoorGf
import Derived.Test.YtdeaefbjddodjaaGreatDoorGe
namespace Go.Proofs.YtdeaefbjddodjaaGreatDoor
open Go.RowKit Go.Maps

def prodB (p : P3) : List UInt8 := uvarI p.1 ++ uvarI p.2.1 ++ uvarI p.2.2
def bodyM (id ns nx mk cl : Int) (segs : List Int) (prods : List P3) : List UInt8 :=
  [id, ns, nx, mk, cl, (segs.length : Int)].flatMap uvarI ++ segs.flatMap uvarI ++ uvarI prods.length ++ prods.flatMap prodB
/-- The bytes of a manifest; none, if it may not be. -/
def encM (id ns nx mk cl : Int) (segs : List Int) (prods : List P3) : List UInt8 := if manR id ns nx mk cl segs prods = true then wrapB 179 (bodyM id ns nx mk cl segs prods) else []

theorem prodsGo_facts {nx : Int} : ∀ {last : Int} {l : List P3}, prodsGo nx last l = true → ∀ p ∈ l, (last < p.1 ∧ p.1 < 4294967296) ∧ (1 ≤ p.2.1 ∧ p.2.1 ≤ 1099511627775) ∧ 0 ≤ p.2.2 ∧ p.2.2 ≤ nx - 1
  | _, [], _, p, hp => by cases hp
  | last, q :: l, h, p, hp => by
    simp only [prodsGo, Bool.and_eq_true] at h
    have hq := okp_ref.1 h.1
    rcases List.mem_cons.1 hp with rfl | hp
    · exact hq
    · have := prodsGo_facts h.2 p hp
      omega
theorem manR_facts {id ns nx mk cl : Int} {segs : List Int} {prods : List P3} (h : manR id ns nx mk cl segs prods = true) :
    manA id ns ∧ manBB nx mk cl ∧ segs.length ≤ 64 ∧ prods.length ≤ 64 ∧ (∀ s ∈ segs, 1 ≤ s ∧ s < ns) ∧ ∀ p ∈ prods, (0 < p.1 ∧ p.1 < 4294967296) ∧ (1 ≤ p.2.1 ∧ p.2.1 ≤ 1099511627775) ∧ 0 ≤ p.2.2 ∧ p.2.2 ≤ nx - 1 := by
  simp only [manR, Bool.and_eq_true, decide_eq_true_eq, segsR, prodsR, List.all_eq_true] at h
  obtain ⟨⟨⟨h1, h2⟩, ⟨⟨h3, h4⟩, h5⟩, h6⟩, h7, h8⟩ := h
  exact ⟨h1, h2, h4, h7, fun s hs => by have := h5 s hs; omega, prodsGo_facts h8⟩
theorem flat_take {α : Type} (l : List α) (f : α → List UInt8) (k : Nat) (h : k < l.length) : (l.take (k + 1)).flatMap f = (l.take k).flatMap f ++ f l[k] := by
  rw [take_snoc l k h, List.flatMap_append]; simp

end Go.Proofs.YtdeaefbjddodjaaGreatDoor
namespace Go.Proofs.YtdeaefbjddodjaaGreatDoor
open Go.RowKit Go.Maps

set_option maxRecDepth 100000 in
set_option maxHeartbeats 8000000 in
theorem octEncode (id ns nx mk cl : Int) (A A2 : Option Addr) (c d : Nat) (segs : List Int) (prods : List P3) (w : World) (hA : Rd w w.heap.size A (segs.map (.int .i64))) (hB : Rd w w.heap.size A2 (prods.flatMap tri)) (hws : ∀ s ∈ segs, (Lit.int .i64 s).wf = true) :
    Calls Tryz.prog 4 #[manV id ns nx mk cl (.slice A segs.length c) (.slice A2 prods.length d)] w fun e w' =>
      ∃ b cap, e = .returned (.tuple #[.slice b (encM id ns nx mk cl segs prods).length cap, .int .i64 (manE id ns nx mk cl segs prods)]) ∧
        w'.ownsRow w.heap.size 5 1 (.slice b (encM id ns nx mk cl segs prods).length cap) (encM id ns nx mk cl segs prods).length (bv (encM id ns nx mk cl segs prods)) ∧ Below w.heap.size w w' := by
  have hb0 : Below w.heap.size w (w.alloc (.cells #[.int .i64 id, .int .i64 ns, .int .i64 nx, .int .i64 mk, .int .i64 cl, .slice A segs.length c, .slice A2 prods.length d] 25)) := (Below.refl _ _).alloc (Nat.le_refl _) _
  have hX0 := Box.new w 25 #[.int .i64 id, .int .i64 ns, .int .i64 nx, .int .i64 mk, .int .i64 cl, .slice A segs.length c, .slice A2 prods.length d]
  have Hb0 := Lib.hid hb0
  have HX0 := Lib.hid hX0
  have HA := Lib.hid hA
  have HB := Lib.hid hB
  clear hb0 hX0 hA hB
  cases hr : manR id ns nx mk cl segs prods with
  | false =>
    have HE := Lib.hid (show manE id ns nx mk cl segs prods = 70 by rw [manE, hr]; rfl)
    have HL := Lib.hid (show encM id ns nx mk cl segs prods = [] by rw [encM, hr]; rfl)
    clear hr
    go_enter Tryz.func4, Tryz.ntmps4
    go_wp2_with (go_at_call 7; refine (check_any id ns nx mk cl A A2 c d segs prods _ ((HA.out.below Hb0.out).mono (by simp)) ((HB.out.below Hb0.out).mono (by simp)) hws).mono ?_; rintro e w1 ⟨he, hb1⟩; rw [HE.out] at he; subst he; have Hb1 := Lib.hid hb1; clear hb1)
    go_ret2
    rw [HL.out, HE.out]
    exact ⟨none, 0, rfl, nil_own _ _ _ _, Hb0.out.trans (Hb1.out.mono (by simp))⟩
  | true =>
    have HE := Lib.hid (show manE id ns nx mk cl segs prods = 0 by rw [manE, hr]; rfl)
    have HL := Lib.hid (show encM id ns nx mk cl segs prods = wrapB 179 (bodyM id ns nx mk cl segs prods) by rw [encM, hr]; rfl)
    obtain ⟨fa, fb, fs, fp, fse, fpr⟩ := manR_facts hr
    unfold manA at fa
    unfold manBB at fb
    obtain ⟨⟨⟨a1, a2⟩, a3⟩, a4⟩ := fa
    obtain ⟨⟨⟨b1, b2⟩, b3, b4⟩, b5, b6⟩ := fb
    have Fse := Lib.hid fse
    have Fpr := Lib.hid fpr
    clear hr fse fpr
    go_enter Tryz.func4, Tryz.ntmps4
    go_wp2_with (first
      | (go_at_call 7; refine (check_any id ns nx mk cl A A2 c d segs prods _ ((HA.out.below Hb0.out).mono (by simp)) ((HB.out.below Hb0.out).mono (by simp)) hws).mono ?_; rintro e w1 ⟨he, hb1⟩; rw [HE.out] at he; subst he; have HX := Lib.hid (HX0.out.below hb1 (by simp)); have Hb1 := Lib.hid (Hb0.out.trans (hb1.mono (by simp))); have hsz1 : w.heap.size < w1.heap.size := by (have := hb1.size; simp at this; omega)
         have hcx1 := HX.out.cell
         clear hb1)
      | (go_at_call 16; refine (wNew _).mono ?_; rintro e w2 ⟨rfl, hw2, hb2⟩; have S := Lib.hid (WS.new (B := w.heap.size + 1) (by omega) hw2 hb2); have hcx2 := (HX.out.below hb2 HX.out.lt).cell; have L : Hid (([] : List UInt8).length ≤ 0) := by (show _ ≤ 0; simp)
         have G : Hid True := trivial
         clear hw2 hb2))
    have hvb : ∀ v ∈ [id, ns, nx, mk, cl, (segs.length : Int)], 0 ≤ v ∧ v < 18446744073709551616 := by
      intro v hv
      simp only [List.mem_cons, List.not_mem_nil, or_false] at hv
      omega
    have Hvb := Lib.hid hvb
    clear hvb
    go_loopw [33] (fun i wr => ∃ (k : Nat) (g : Option Nat) (l : List UInt8), k ≤ 6 ∧ i = .int .i64 k ∧ WS (w.heap.size + 1) w1 wr 91 w1.heap.size g l ∧ l.length ≤ 10 * k ∧ l = ([id, ns, nx, mk, cl, (segs.length : Int)].take k).flatMap uvarI ∧
        Box wr w2.heap.size 2 #[.int .i64 id, .int .i64 ns, .int .i64 nx, .int .i64 mk, .int .i64 cl, .int .i64 (segs.length : Int)] ∧ (∀ j, g = some j → w2.heap.size < j))
      (fun i _ => 6 - (intOf i).toNat)
    case atStart =>
      exact ⟨0, _, _, Nat.zero_le _, rfl, S.out.on ((Below.refl _ _).alloc (Nat.le_refl _) _), by have := L.out; omega, rfl, Box.new _ _ _, fun _ e => by cases e⟩
    case round =>
      have hw12 : w1.heap.size < w2.heap.size := S.out.wr.lt
      clear S L G
      obtain ⟨k, g, l, hk, rfl, hS, hL, hl, hQ, hG⟩ := hrel
      have S := Lib.hid hS
      have L := Lib.hid hL
      have Hl := Lib.hid hl
      have HQ := Lib.hid hQ
      have G := Lib.hid hG
      have hcx3 := (HX.out.below hS.below (by omega)).cell
      clear hS hL hl hG
      by_cases hlt : k < 6
      · have hck := hQ.cell k
        have hlv : k < [id, ns, nx, mk, cl, (segs.length : Int)].length := hlt
        have ha : (#[.int .i64 id, .int .i64 ns, .int .i64 nx, .int .i64 mk, .int .i64 cl, .int .i64 (segs.length : Int)] : Array Value)[k]? = some (.int .i64 [id, ns, nx, mk, cl, (segs.length : Int)][k]) := by
          rw [show (#[.int .i64 id, .int .i64 ns, .int .i64 nx, .int .i64 mk, .int .i64 cl, .int .i64 (segs.length : Int)] : Array Value) = ([id, ns, nx, mk, cl, (segs.length : Int)].map (Value.int .i64)).toArray from rfl]
          simp only [List.getElem?_toArray, List.getElem?_map, List.getElem?_eq_getElem hlv, Option.map_some]
        rw [ha] at hck
        have hvk := Hvb.out _ (List.getElem_mem hlv)
        have Hs := Lib.hid (flat_take [id, ns, nx, mk, cl, (segs.length : Int)] uvarI k hlv)
        generalize [id, ns, nx, mk, cl, (segs.length : Int)][k] = vk at hck hvk Hs
        clear hQ ha
        go_wp2_with (first
          | (go_at_call 17; refine (wUv S.out L.out (by omega) _ (by omega) (by omega)).mono ?_; rintro e wq ⟨rfl, gq, s1, s2, s3, s4⟩; have S' := Lib.hid s1; have L' := Lib.hid s2; have hX' := HX.out.below s1.below (by omega); have hcx' := hX'.cell; have HQ' := Lib.hid (HQ.out.chg s3 (by rintro (e | e); exact absurd e (by omega); exact absurd (G.out _ e.symm) (by omega))); have G' : Hid (∀ j, gq = some j → w2.heap.size < j) := (by rcases s4 with s4 | ⟨k', s4, s5⟩; exact fun j hj => G.out j (s4.symm.trans hj); exact fun j hj => (by rw [s4] at hj; cases hj; have := HQ.out.lt; omega)); clear s1 s2 s3 s4 S L HQ G; have HQ := HQ'; have G := G'; clear HQ' G'; have S := S'; have L := L'; clear S' L' hX'))
        go_roundw
        case rel => exact ⟨k + 1, _, _, by omega, by go_num, S.out, by have := L.out; omega, by rw [Hs.out, Hl.out], HQ.out, G.out⟩
        case measure => simp [intOf]; omega
      · have hke : Hid ([id, ns, nx, mk, cl, (segs.length : Int)].take k = [id, ns, nx, mk, cl, (segs.length : Int)]) := List.take_of_length_le (by simp; omega)
        rw [hke.out] at Hl
        clear hQ
        go_wp2
        go_loopw [45] (fun i wr => ∃ (k : Nat) (g : Option Nat) (l : List UInt8), k ≤ segs.length ∧ i = .int .i64 k ∧ WS (w.heap.size + 1) w1 wr 91 w1.heap.size g l ∧ l.length ≤ 60 + 10 * k ∧ l = [id, ns, nx, mk, cl, (segs.length : Int)].flatMap uvarI ++ (segs.take k).flatMap uvarI)
          (fun i _ => segs.length - (intOf i).toNat)
        case atStart => exact ⟨0, _, _, Nat.zero_le _, rfl, S.out, by have := L.out; omega, by rw [Hl.out]; simp⟩
        case round =>
          clear S L G Hl HQ
          obtain ⟨k, g, l, hk, rfl, hS, hL, hl⟩ := hrel
          have S := Lib.hid hS
          have L := Lib.hid hL
          have Hl := Lib.hid hl
          have hcx3 := (HX.out.below hS.below (by omega)).cell
          clear hS hL hl
          by_cases hlt : k < segs.length
          · obtain ⟨ad, rfl, _, hck⟩ := (HA.out.below (Hb1.out.trans (S.out.below.mono (by omega)))).int hlt
            have hse := Fse.out _ (List.getElem_mem hlt)
            have Hs := Lib.hid (flat_take segs uvarI k hlt)
            generalize segs[k] = sk at hck hse Hs
            go_wp2_with (first
              | (go_at_call 17; refine (wUv S.out L.out (by omega) _ (by omega) (by omega)).mono ?_; rintro e wq ⟨rfl, gq, s1, s2, s3, s4⟩; have S' := Lib.hid s1; have L' := Lib.hid s2; have hX' := HX.out.below s1.below (by omega); have hcx' := hX'.cell; clear s1 s2 s3 s4 S L; have S := S'; have L := L'; clear S' L' hX'))
            go_roundw
            case rel => exact ⟨k + 1, _, _, by omega, by go_num, S.out, by have := L.out; omega, by rw [Hs.out, ← List.append_assoc, Hl.out]⟩
            case measure => simp [intOf]; omega
          · have hke : Hid (segs.take k = segs) := List.take_of_length_le (by omega)
            rw [hke.out] at Hl
            go_wp2_with (first
              | (go_at_call 17; refine (wUv S.out L.out (by omega) _ (by omega) (by omega)).mono ?_; rintro e wq ⟨rfl, gq, s1, s2, s3, s4⟩; have S' := Lib.hid s1; have L' := Lib.hid s2; have hX' := HX.out.below s1.below (by omega); have hcx' := hX'.cell; clear s1 s2 s3 s4 S L; have S := S'; have L := L'; clear S' L' hX'))
            go_loopw [63] (fun i wr => ∃ (k : Nat) (g : Option Nat) (l : List UInt8), k ≤ prods.length ∧ i = .int .i64 k ∧ WS (w.heap.size + 1) w1 wr 91 w1.heap.size g l ∧ l.length ≤ 1000 + 30 * k ∧
                l = [id, ns, nx, mk, cl, (segs.length : Int)].flatMap uvarI ++ segs.flatMap uvarI ++ uvarI prods.length ++ (prods.take k).flatMap prodB)
              (fun i _ => prods.length - (intOf i).toNat)
            case atStart => exact ⟨0, _, _, Nat.zero_le _, rfl, S.out, by have := L.out; omega, by rw [Hl.out]; simp⟩
            case round =>
              clear S L Hl
              obtain ⟨m, g, l, hm, rfl, hS, hL, hl⟩ := hrel
              have S := Lib.hid hS
              have L := Lib.hid hL
              have Hl := Lib.hid hl
              have hcx4 := (HX.out.below hS.below (by omega)).cell
              clear hS hL hl
              by_cases hlt : m < prods.length
              · obtain ⟨ad, rfl, _, hp1, hp2, hp3⟩ := (HB.out.below (Hb1.out.trans (S.out.below.mono (by omega)))).tri_ hlt
                have hpr := Fpr.out _ (List.getElem_mem hlt)
                have Hs := Lib.hid (flat_take prods prodB m hlt)
                generalize prods[m] = pm at hp1 hp2 hp3 hpr Hs
                obtain ⟨⟨q1, q2⟩, ⟨q3, q4⟩, q5, q6⟩ := hpr
                have HQ := Lib.hid (Box.new wr 55 #[.int .i64 pm.1, .int .i64 pm.2.1, .int .i64 pm.2.2])
                have S' := Lib.hid (S.out.on ((Below.refl _ _).alloc (Nat.le_refl _) (.cells #[.int .i64 pm.1, .int .i64 pm.2.1, .int .i64 pm.2.2] 55)))
                have G : Hid (∀ k, g = some k → wr.heap.size ≠ k) := fun k hk => by have := S.out.wr.glt hk; omega
                have hpw : w1.heap.size < wr.heap.size := S.out.wr.lt
                clear S
                have S := S'
                clear S'
                go_wp2_with (first
                  | (go_at_call 17; refine (wUv S.out L.out (by omega) _ (by omega) (by omega)).mono ?_; rintro e wq ⟨rfl, gq, s1, s2, s3, s4⟩; have S' := Lib.hid s1; have L' := Lib.hid s2; have hX' := HX.out.below s1.below (by omega); have hcx' := hX'.cell; have HQ' := Lib.hid (HQ.out.chg s3 (by rintro (e | e); exact absurd e (by omega); exact absurd rfl (G.out _ e.symm))); have hcq' := HQ'.out.cell; have G' : Hid (∀ j, gq = some j → wr.heap.size ≠ j) := (by rcases s4 with s4 | ⟨k', s4, s5⟩; exact fun j hj => G.out j (s4.symm.trans hj); exact fun j hj => (by rw [s4] at hj; cases hj; have := HQ.out.lt; omega)); clear s1 s2 s3 s4 S L HQ G; have HQ := HQ'; have G := G'; clear HQ' G'; have S := S'; have L := L'; clear S' L' hX'))
                go_roundw
                case rel => exact ⟨m + 1, _, _, by omega, by go_num, S.out, by have := L.out; omega, by rw [Hs.out, ← List.append_assoc, ← Hl.out]; simp [prodB]⟩
                case measure => simp [intOf]; omega
              · have hke : Hid (prods.take m = prods) := List.take_of_length_le (by omega)
                rw [hke.out] at Hl
                have Hbl := Lib.hid (show l.length = (bodyM id ns nx mk cl segs prods).length by rw [Hl.out]; rfl)
                have hbl : (bodyM id ns nx mk cl segs prods).length ≤ 1000000 := by have := L.out; rw [← Hbl.out]; omega
                go_wp2_with (first
                  | (go_at_call 19; refine (wBytesL _ _ _ (bodyM id ns nx mk cl segs prods) (bodyM id ns nx mk cl segs prods).length _ S.out.wr Hl.out rfl (by omega)).mono ?_; rintro e w5 ⟨b5, cap5, rfl, hown, hb5⟩; have S5 := Lib.hid (S.out.on hb5); have O5 := Lib.hid hown; clear hown hb5)
                  | (go_at_call 18; refine (octWrap 179 _ (bodyM id ns nx mk cl segs prods).length _ (bodyM id ns nx mk cl segs prods) _ (ownsRow_rd O5.out) rfl (by omega)).mono ?_; rintro e w6 ⟨b6, cap6, rfl, hown, hb6⟩; have S6 := Lib.hid (S5.out.on hb6); have O6 := Lib.hid hown; clear hown hb6))
                go_ret2
                rw [HL.out, HE.out, wrapB_len]
                exact ⟨b6, cap6, rfl, ownsRow_le O6.out (Nat.le_trans Hb1.out.size S5.out.below.size), Hb1.out.trans (S6.out.below.mono (by omega))⟩
end Go.Proofs.YtdeaefbjddodjaaGreatDoor
namespace Go.Proofs.YtdeaefbjddodjaaGreatDoor
open Go.RowKit Go.Maps

theorem octRestM (p : Nat) (l : List UInt8) (s : RSt) (w : World) (h : ORd w p l s) (hmx : l.length ≤ 140737488355328) :
    Calls Tryz.prog 49 #[.pointer (some ⟨p, 0, none⟩)] w fun e w' => e = .returned (.int .i64 ((l.length : Int) - s.at_)) ∧ ∃ n, w' = w.drewN n := by
  obtain ⟨b, cap, er, ea, h⟩ := h
  exact octRest p b cap er ea l s w h hmx
theorem octRawI (p n : Nat) (x : Int) (hx : x = n) (l : List UInt8) (s : RSt) (w : World) (h : ORd w p l s) (hn : n ≤ 140737488355000) (hmx : l.length ≤ 140737488355328) :
    Calls Tryz.prog 48 #[.pointer (some ⟨p, 0, none⟩), .int .i64 x] w fun e w' => ∃ b c, e = .returned (.slice b (tkS n l s).1.length c) ∧ w'.ownsRow w.heap.size 5 1 (.slice b (tkS n l s).1.length c) (tkS n l s).1.length (bv (tkS n l s).1) ∧ RAft p l (tkS n l s).2 w w' := by
  subst hx
  exact octRaw p n l s w h hn hmx
theorem Below.al' (W : World) (o : Obj) : Below W.heap.size W (W.alloc o) := (Below.refl _ _).alloc (Nat.le_refl _) o
theorem RAft.below {w0 w w' : World} {p : Nat} {l : List UInt8} {s : RSt} (h : RAft p l s w w') (hb : Below w0.heap.size w0 w) (hp : w0.heap.size ≤ p) : Below w0.heap.size w0 w' :=
  hb.trans (h.2.below hb.size fun k hk => by omega)

theorem fxN_be32 (n : Nat) (hn : n < 4294967296) : fxN (be32 n) = n := by
  simp [fxN, be32]; omega
theorem be32_fxN {t : List UInt8} (h : t.length = 4) : be32 (fxN t) = t := by
  match t, h with
  | [a, b, c, d], _ =>
    have ha := a.toNat_lt; have hb := b.toNat_lt; have hc := c.toNat_lt; have hd := d.toNat_lt
    simp only [fxN, List.foldl_cons, List.foldl_nil, be32, List.cons.injEq, and_true]
    refine ⟨?_, ?_, ?_, ?_⟩ <;> apply UInt8.toNat_inj.1 <;> simp <;> omega
theorem field0 : ∀ (W : World) (a b : Int), (Instr.field 76 (.agg #[.int .i64 a, .int .i64 b]) 0).run Tryz.prog W = .ok (.int .i64 a) W := fun _ _ _ => by kernel_rfl
/-- What unwrap answers. -/
def UAns (mark : UInt8) (bs : List UInt8) (w' : World) (e : Ending) : Prop :=
  (∃ (body : List UInt8) (b : Option Addr) (c : Nat), bs = wrapB mark body ∧ body.length < 4294967296 ∧ e = .returned (.tuple #[.slice b body.length c, .bool true]) ∧ Rd w' w'.heap.size b (bv body)) ∨
  ((∀ body : List UInt8, body.length < 4294967296 → bs ≠ wrapB mark body) ∧ ∃ v, e = .returned (.tuple #[v, .bool false]))
theorem tkS_fl {n : Nat} {l : List UInt8} {s : RSt} (h : (tkS n l s).2.fl = false) : s.fl = false ∧ s.at_ + n ≤ l.length ∧ tkS n l s = ((l.drop s.at_).take n, ⟨s.at_ + n, false⟩) := by
  by_cases hb : s.fl = true ∨ l.length < s.at_ + n
  · rw [tkS_bad hb] at h
    have := badS_fl l s
    simp only at h
    rw [h] at this; cases this
  · simp only [not_or, Bool.not_eq_true] at hb
    exact ⟨hb.1, by omega, tkS_ok hb.1 (by omega)⟩
/-- The chain of readings of unwrap, when all went well. -/
theorem chain_ok {bs : List UInt8} {r : Nat} {t1 t2 t3 t4 : List UInt8} {s1 s2 s3 s4 : RSt} (h1 : tkS 1 bs ⟨0, false⟩ = (t1, s1)) (h2 : tkS 4 bs s1 = (t2, s2)) (h3 : tkS 4 bs s2 = (t3, s3)) (h4 : tkS r bs s3 = (t4, s4)) (hf : s4.fl = false) (ha : s4.at_ = bs.length) :
    bs = hd0 t1 :: (t2 ++ (t3 ++ t4)) ∧ t1 = [hd0 t1] ∧ t2.length = 4 ∧ t3.length = 4 ∧ t2 = (bs.drop 1).take 4 ∧ 9 ≤ bs.length := by
  obtain ⟨f3, g4, e4⟩ := tkS_fl (n := r) (l := bs) (s := s3) (by rw [h4]; exact hf)
  obtain ⟨f2, g3, e3⟩ := tkS_fl (n := 4) (l := bs) (s := s2) (by rw [h3]; exact f3)
  obtain ⟨f1, g2, e2⟩ := tkS_fl (n := 4) (l := bs) (s := s1) (by rw [h2]; exact f2)
  obtain ⟨_, g1, e1⟩ := tkS_fl (n := 1) (l := bs) (s := ⟨0, false⟩) (by rw [h1]; exact f1)
  rw [h1] at e1; rw [h2] at e2; rw [h3] at e3; rw [h4] at e4
  simp only [Prod.mk.injEq, Nat.zero_add, List.drop_zero] at e1 e2 e3 e4
  obtain ⟨rfl, rfl⟩ := e1
  obtain ⟨rfl, rfl⟩ := e2
  obtain ⟨rfl, rfl⟩ := e3
  obtain ⟨rfl, rfl⟩ := e4
  simp only at g2 g3 g4 ha
  have h9 : 9 ≤ bs.length := by omega
  match bs, h9 with
  | x :: r5, h9 =>
    have e5 : (x :: r5).take 1 = [x] := by simp
    refine ⟨?_, by simp [hd0], ?_, ?_, rfl, h9⟩
    · rw [e5]
      simp only [hd0, List.drop_succ_cons, List.drop_zero, Nat.reduceAdd]
      congr 1
      have q1 : (r5.drop 8).take r = r5.drop 8 := List.take_of_length_le (by simp at *; omega)
      rw [q1]
      have q2 := List.take_append_drop 4 (r5.drop 4)
      rw [List.drop_drop] at q2
      simp only [Nat.reduceAdd] at q2
      rw [q2, List.take_append_drop]
    · simp at *; omega
    · simp at *; omega
theorem chain_wrap {bs : List UInt8} {mark : UInt8} {r : Nat} {t1 t2 t3 t4 : List UInt8} {s1 s2 s3 s4 : RSt} (h1 : tkS 1 bs ⟨0, false⟩ = (t1, s1)) (h2 : tkS 4 bs s1 = (t2, s2)) (h3 : tkS 4 bs s2 = (t3, s3)) (hr : r = bs.length - s3.at_) (h4 : tkS r bs s3 = (t4, s4))
    {body : List UInt8} (hb : body.length < 4294967296) (he : bs = wrapB mark body) : (s4.fl = false ∧ s4.at_ = bs.length) ∧ hd0 t1 = mark ∧ fxN t2 = t4.length ∧ t4 = body ∧ fxN t3 = crcE (crcE 0 t2) t4 := by
  have hl := wrapB_len mark body
  rw [← he] at hl
  have e1 := tkS_ok (n := 1) (l := bs) (s := ⟨0, false⟩) rfl (by simp; omega)
  rw [h1] at e1
  simp only [Prod.mk.injEq, Nat.zero_add, List.drop_zero] at e1
  obtain ⟨rfl, rfl⟩ := e1
  have e2 := tkS_ok (n := 4) (l := bs) (s := ⟨1, false⟩) rfl (by simp; omega)
  rw [h2] at e2
  simp only [Prod.mk.injEq, Nat.reduceAdd] at e2
  obtain ⟨rfl, rfl⟩ := e2
  have e3 := tkS_ok (n := 4) (l := bs) (s := ⟨5, false⟩) rfl (by simp; omega)
  rw [h3] at e3
  simp only [Prod.mk.injEq, Nat.reduceAdd] at e3
  obtain ⟨rfl, rfl⟩ := e3
  have e4 := tkS_ok (n := r) (l := bs) (s := ⟨9, false⟩) rfl (by simp only at *; omega)
  rw [h4] at e4
  simp only [Prod.mk.injEq] at e4
  obtain ⟨rfl, rfl⟩ := e4
  have q1 : bs.take 1 = [mark] := by rw [he]; rfl
  have q2 : (bs.drop 1).take 4 = be32 body.length := by rw [he]; rfl
  have q3 : (bs.drop 5).take 4 = be32 (crcE (crcE 0 (be32 body.length)) body) := by rw [he]; rfl
  have q4 : (bs.drop 9).take r = body := by
    have : bs.drop 9 = body := by rw [he]; rfl
    rw [this]; exact List.take_of_length_le (by simp only at hr; omega)
  rw [q1, q2, q3, q4]
  refine ⟨⟨rfl, by simp only at hr ⊢; omega⟩, rfl, fxN_be32 _ hb, rfl, fxN_be32 _ (crcE_lt _ _)⟩
theorem chain_back {bs : List UInt8} {mark : UInt8} {t1 t2 t3 t4 : List UInt8} (e : bs = hd0 t1 :: (t2 ++ (t3 ++ t4))) (l2 : t2.length = 4) (l3 : t3.length = 4) (c1 : hd0 t1 = mark) (c2 : fxN t2 = t4.length) (c3 : fxN t3 = crcE (crcE 0 t2) t4) : bs = wrapB mark t4 := by
  rw [e, c1, wrapB, ← c2, be32_fxN l2, ← c3, be32_fxN l3]

set_option maxRecDepth 100000 in
set_option maxHeartbeats 8000000 in
theorem octUnwrap (mark : UInt8) (A : Option Addr) (n c : Nat) (bs : List UInt8) (w : World) (hA : Rd w w.heap.size A (bv bs)) (hn : bs.length = n) (hnc : n ≤ c) (hmx : n ≤ 140737488355000) :
    Calls Tryz.prog 27 #[.int .u8 mark.toNat, .slice A n c] w fun e w' => UAns mark bs w' e ∧ Below w.heap.size w w' := by
  rcases h1 : tkS 1 bs ⟨0, false⟩ with ⟨t1, s1⟩
  rcases h2 : tkS 4 bs s1 with ⟨t2, s2⟩
  rcases h3 : tkS 4 bs s2 with ⟨t3, s3⟩
  rcases h4 : tkS (bs.length - s3.at_) bs s3 with ⟨t4, s4⟩
  have HA := Lib.hid hA
  have Hn := Lib.hid hn
  have H1 := Lib.hid h1
  have H2 := Lib.hid h2
  have H3 := Lib.hid h3
  have H4 := Lib.hid h4
  have hlx : bs.length ≤ 140737488355000 := by omega
  have Hlx : Hid (bs.length ≤ 140737488355328) := by show _ ≤ _; omega
  have hN := fxN_lt t2
  have hS := fxN_lt t3
  have ht4 : t4.length ≤ bs.length := by have := tkS_len (n := bs.length - s3.at_) (l := bs) (s := s3); rw [h4] at this; simp only at this; omega
  have hl2 : t2.length ≤ 4 := by have := tkS_len (n := 4) (l := bs) (s := s1); rw [h2] at this; exact this
  have hl3 : t3.length ≤ 4 := by have := tkS_len (n := 4) (l := bs) (s := s2); rw [h3] at this; exact this
  have hN2 : fxN t2 < 4294967296 := Nat.lt_of_lt_of_le hN (Nat.le_trans (Nat.pow_le_pow_right (by omega) hl2) (by decide))
  have hS2 : fxN t3 < 4294967296 := Nat.lt_of_lt_of_le hS (Nat.le_trans (Nat.pow_le_pow_right (by omega) hl3) (by decide))
  clear hA hn h1 h2 h3 h4 hN hS hl2 hl3
  generalize hNe : fxN t2 = N at hN2
  generalize hSe : fxN t3 = S at hS2
  generalize hfe : (hd0 t1).toNat = f
  have HV := Lib.hid (And.intro hNe (And.intro hSe hfe))
  clear hNe hSe hfe
  by_cases hfin : s4.fl = false ∧ s4.at_ = bs.length
  · have HF : Hid (∀ x, EndE bs s4 x → x = 0) := fun x h => h.1 hfin
    have HC := Lib.hid (chain_ok H1.out H2.out H3.out H4.out hfin.1 hfin.2)
    have h9 := HC.out.2.2.2.2.2
    generalize hC : crcE (crcE 0 t2) t4 = C
    have HCe := Lib.hid hC
    clear hfin hC
    have hsl : ∀ W, (Instr.slice 31 (.slice A n c) (some (.int .i64 1)) (some (.int .i64 5)) none).run Tryz.prog W = .ok (.slice (tailA A c 1) 4 (c - 1)) W := fun _ => run_part2 _ A n c 1 4 1 5 rfl rfl (by have := Hn.out; omega)
    by_cases c1 : f = mark.toNat
    case neg =>
      have HNo : Hid (∀ body : List UInt8, body.length < 4294967296 → bs ≠ wrapB mark body) := fun body hb he => by
        have h := chain_wrap H1.out H2.out H3.out rfl H4.out hb he
        exact c1 (by rw [← HV.out.2.2, h.2.1])
      generalize mark.toNat = mk at c1
      have h1 : ((f : Int) != (mk : Int)) = true := by simp; omega
      have h2 : (f != mk) = true := by simp; omega
      clear c1
      have hfd := field0
      go_enter Tryz.func27, Tryz.ntmps27
      go_wp2_with (first
        | (go_at_call 28; refine (octNewR A n c bs _ HA.out Hn.out (by omega)).mono ?_; rintro e w1 ⟨p, rfl, hR, hp, hb1⟩; have K0 := Lib.hid (And.intro hR (And.intro hb1 hp)); clear hR hb1 hp)
        | (go_at_call 46; refine (octByte p bs _ _ K0.out.1 Hlx.out).mono ?_; rintro e w2 ⟨he, ha⟩; rw [H1.out] at he ha; simp only at he ha; rw [HV.out.2.2] at he; subst he; have K1 := Lib.hid (And.intro ha.1 (And.intro (RAft.below ha K0.out.2.1 K0.out.2.2) K0.out.2.2)); clear ha K0)
        | (go_at_call 47; refine (octRU32 p bs s1 _ K1.out.1 Hlx.out).mono ?_; rintro e w3 ⟨he, ha⟩; rw [H2.out] at he ha; simp only at he ha; rw [HV.out.1] at he; subst he; have K2 := Lib.hid (And.intro ha.1 (And.intro (RAft.below ha K1.out.2.1 K1.out.2.2) K1.out.2.2)); clear ha K1)
        | (go_at_call 47; refine (octRU32 p bs s2 _ K2.out.1 Hlx.out).mono ?_; rintro e w4 ⟨he, ha⟩; rw [H3.out] at he ha; simp only at he ha; rw [HV.out.2.1] at he; subst he; have K3 := Lib.hid (And.intro ha.1 (And.intro (RAft.below ha K2.out.2.1 K2.out.2.2) K2.out.2.2)); clear ha K2)
        | (go_at_call 49; refine (octRestM p bs s3 _ K3.out.1 Hlx.out).mono ?_; rintro e wr ⟨rfl, nd, rfl⟩; have hle3 := K3.out.1.le; have K4 := Lib.hid (And.intro (K3.out.1.below (below_drewN (Below.refl _ _) nd)) (And.intro (below_drewN K3.out.2.1 nd) K3.out.2.2)); clear K3)
        | (go_at_call 48; refine (octRawI p (bs.length - s3.at_) _ (by omega) bs s3 _ K4.out.1 (by omega) Hlx.out).mono ?_; rintro e w5 ⟨b5, cap5, he, hown, ha⟩; rw [H4.out] at he hown ha; simp only at he hown ha; subst he; have O5 := Lib.hid hown; clear hown; have K5 := Lib.hid (And.intro ha.1 (And.intro (RAft.below ha K4.out.2.1 K4.out.2.2) K4.out.2.2)); clear ha K4)
        | (go_at_call 31; refine (octEnd p bs s4 _ K5.out.1).mono ?_; rintro e w6 ⟨x, y, rfl, hx, hb6⟩; obtain rfl := HF.out x hx; clear hx; have K6 := Lib.hid (And.intro (ownsRow_block O5.out fun k hk => hb6.block k (O5.out.lt k hk).2) (K5.out.2.1.trans (hb6.mono K5.out.2.1.size))); clear hb6 K5 O5))
      go_ret2
      exact ⟨.inr ⟨HNo.out, _, rfl⟩, K6.out.2⟩
    by_cases c2 : N = t4.length
    case neg =>
      have HNo : Hid (∀ body : List UInt8, body.length < 4294967296 → bs ≠ wrapB mark body) := fun body hb he => by
        have h := chain_wrap H1.out H2.out H3.out rfl H4.out hb he
        exact c2 (by rw [← HV.out.1, h.2.2.1])
      subst c1
      have h1 : ((N : Int) != (t4.length : Int)) = true := by simp; omega
      have h2 : (N != t4.length) = true := by simp; omega
      clear c2
      have hfd := field0
      go_enter Tryz.func27, Tryz.ntmps27
      go_wp2_with (first
        | (go_at_call 28; refine (octNewR A n c bs _ HA.out Hn.out (by omega)).mono ?_; rintro e w1 ⟨p, rfl, hR, hp, hb1⟩; have K0 := Lib.hid (And.intro hR (And.intro hb1 hp)); clear hR hb1 hp)
        | (go_at_call 46; refine (octByte p bs _ _ K0.out.1 Hlx.out).mono ?_; rintro e w2 ⟨he, ha⟩; rw [H1.out] at he ha; simp only at he ha; rw [HV.out.2.2] at he; subst he; have K1 := Lib.hid (And.intro ha.1 (And.intro (RAft.below ha K0.out.2.1 K0.out.2.2) K0.out.2.2)); clear ha K0)
        | (go_at_call 47; refine (octRU32 p bs s1 _ K1.out.1 Hlx.out).mono ?_; rintro e w3 ⟨he, ha⟩; rw [H2.out] at he ha; simp only at he ha; rw [HV.out.1] at he; subst he; have K2 := Lib.hid (And.intro ha.1 (And.intro (RAft.below ha K1.out.2.1 K1.out.2.2) K1.out.2.2)); clear ha K1)
        | (go_at_call 47; refine (octRU32 p bs s2 _ K2.out.1 Hlx.out).mono ?_; rintro e w4 ⟨he, ha⟩; rw [H3.out] at he ha; simp only at he ha; rw [HV.out.2.1] at he; subst he; have K3 := Lib.hid (And.intro ha.1 (And.intro (RAft.below ha K2.out.2.1 K2.out.2.2) K2.out.2.2)); clear ha K2)
        | (go_at_call 49; refine (octRestM p bs s3 _ K3.out.1 Hlx.out).mono ?_; rintro e wr ⟨rfl, nd, rfl⟩; have hle3 := K3.out.1.le; have K4 := Lib.hid (And.intro (K3.out.1.below (below_drewN (Below.refl _ _) nd)) (And.intro (below_drewN K3.out.2.1 nd) K3.out.2.2)); clear K3)
        | (go_at_call 48; refine (octRawI p (bs.length - s3.at_) _ (by omega) bs s3 _ K4.out.1 (by omega) Hlx.out).mono ?_; rintro e w5 ⟨b5, cap5, he, hown, ha⟩; rw [H4.out] at he hown ha; simp only at he hown ha; subst he; have O5 := Lib.hid hown; clear hown; have K5 := Lib.hid (And.intro ha.1 (And.intro (RAft.below ha K4.out.2.1 K4.out.2.2) K4.out.2.2)); clear ha K4)
        | (go_at_call 31; refine (octEnd p bs s4 _ K5.out.1).mono ?_; rintro e w6 ⟨x, y, rfl, hx, hb6⟩; obtain rfl := HF.out x hx; clear hx; have K6 := Lib.hid (And.intro (ownsRow_block O5.out fun k hk => hb6.block k (O5.out.lt k hk).2) (K5.out.2.1.trans (hb6.mono K5.out.2.1.size))); clear hb6 K5 O5))
      go_ret2
      exact ⟨.inr ⟨HNo.out, _, rfl⟩, K6.out.2⟩
    by_cases c3 : S = C
    case neg =>
      have HNo : Hid (∀ body : List UInt8, body.length < 4294967296 → bs ≠ wrapB mark body) := fun body hb he => by
        have h := chain_wrap H1.out H2.out H3.out rfl H4.out hb he
        exact c3 (by rw [← HV.out.2.1, ← HCe.out, h.2.2.2.2])
      subst c1 c2
      have h1 : ((S : Int) == (C : Int)) = false := by simp; omega
      have h2 : (S == C) = false := by simp; omega
      clear c3
      have hfd := field0
      go_enter Tryz.func27, Tryz.ntmps27
      go_wp2_with (first
        | (go_at_call 28; refine (octNewR A n c bs _ HA.out Hn.out (by omega)).mono ?_; rintro e w1 ⟨p, rfl, hR, hp, hb1⟩; have K0 := Lib.hid (And.intro hR (And.intro hb1 hp)); clear hR hb1 hp)
        | (go_at_call 46; refine (octByte p bs _ _ K0.out.1 Hlx.out).mono ?_; rintro e w2 ⟨he, ha⟩; rw [H1.out] at he ha; simp only at he ha; rw [HV.out.2.2] at he; subst he; have K1 := Lib.hid (And.intro ha.1 (And.intro (RAft.below ha K0.out.2.1 K0.out.2.2) K0.out.2.2)); clear ha K0)
        | (go_at_call 47; refine (octRU32 p bs s1 _ K1.out.1 Hlx.out).mono ?_; rintro e w3 ⟨he, ha⟩; rw [H2.out] at he ha; simp only at he ha; rw [HV.out.1] at he; subst he; have K2 := Lib.hid (And.intro ha.1 (And.intro (RAft.below ha K1.out.2.1 K1.out.2.2) K1.out.2.2)); clear ha K1)
        | (go_at_call 47; refine (octRU32 p bs s2 _ K2.out.1 Hlx.out).mono ?_; rintro e w4 ⟨he, ha⟩; rw [H3.out] at he ha; simp only at he ha; rw [HV.out.2.1] at he; subst he; have K3 := Lib.hid (And.intro ha.1 (And.intro (RAft.below ha K2.out.2.1 K2.out.2.2) K2.out.2.2)); clear ha K2)
        | (go_at_call 49; refine (octRestM p bs s3 _ K3.out.1 Hlx.out).mono ?_; rintro e wr ⟨rfl, nd, rfl⟩; have hle3 := K3.out.1.le; have K4 := Lib.hid (And.intro (K3.out.1.below (below_drewN (Below.refl _ _) nd)) (And.intro (below_drewN K3.out.2.1 nd) K3.out.2.2)); clear K3)
        | (go_at_call 48; refine (octRawI p (bs.length - s3.at_) _ (by omega) bs s3 _ K4.out.1 (by omega) Hlx.out).mono ?_; rintro e w5 ⟨b5, cap5, he, hown, ha⟩; rw [H4.out] at he hown ha; simp only at he hown ha; subst he; have O5 := Lib.hid hown; clear hown; have K5 := Lib.hid (And.intro ha.1 (And.intro (RAft.below ha K4.out.2.1 K4.out.2.2) K4.out.2.2)); clear ha K4)
        | (go_at_call 31; refine (octEnd p bs s4 _ K5.out.1).mono ?_; rintro e w6 ⟨x, y, rfl, hx, hb6⟩; obtain rfl := HF.out x hx; clear hx; have K6 := Lib.hid (And.intro (ownsRow_block O5.out fun k hk => hb6.block k (O5.out.lt k hk).2) (K5.out.2.1.trans (hb6.mono K5.out.2.1.size))); clear hb6 K5 O5)
        | (go_at_call 45; refine (octSum (tailA A c 1) 4 (c - 1) t2 _ (by rw [HC.out.2.2.2.2.1]; exact (((HA.out.below K6.out.2).mono K6.out.2.size).tail_ 1 (by have := Hn.out; omega)).take_ 4) HC.out.2.2.1 (by unfold maxLen; omega)).mono ?_; rintro e w7 ⟨rfl, hb7⟩; have K7 := Lib.hid (And.intro (ownsRow_block K6.out.1 fun k hk => hb7.block k (K6.out.1.lt k hk).2) (K6.out.2.trans (hb7.mono K6.out.2.size))); clear hb7 K6)
        | (go_at_call 44; refine (octExtend (crcE 0 t2) (crcE_lt _ _) b5 t4.length cap5 t4 _ (ownsRow_rd K7.out.1) rfl (by unfold maxLen; omega)).mono ?_; rintro e w8 ⟨he, hb8⟩; rw [HCe.out] at he; subst he; have K8 := Lib.hid (And.intro (ownsRow_block K7.out.1 fun k hk => hb8.block k (K7.out.1.lt k hk).2) (K7.out.2.trans (hb8.mono K7.out.2.size))); clear hb8 K7))
      go_ret2
      exact ⟨.inr ⟨HNo.out, _, rfl⟩, K8.out.2⟩
    have HW : Hid (bs = wrapB mark t4) := chain_back HC.out.1 HC.out.2.2.1 HC.out.2.2.2.1 (UInt8.toNat_inj.1 (HV.out.2.2.trans c1)) (HV.out.1.trans c2) ((HV.out.2.1.trans c3).trans HCe.out.symm)
    subst c1 c2 c3
    have hfd := field0
    go_enter Tryz.func27, Tryz.ntmps27
    go_wp2_with (first
      | (go_at_call 28; refine (octNewR A n c bs _ HA.out Hn.out (by omega)).mono ?_; rintro e w1 ⟨p, rfl, hR, hp, hb1⟩; have K0 := Lib.hid (And.intro hR (And.intro hb1 hp)); clear hR hb1 hp)
      | (go_at_call 46; refine (octByte p bs _ _ K0.out.1 Hlx.out).mono ?_; rintro e w2 ⟨he, ha⟩; rw [H1.out] at he ha; simp only at he ha; rw [HV.out.2.2] at he; subst he; have K1 := Lib.hid (And.intro ha.1 (And.intro (RAft.below ha K0.out.2.1 K0.out.2.2) K0.out.2.2)); clear ha K0)
      | (go_at_call 47; refine (octRU32 p bs s1 _ K1.out.1 Hlx.out).mono ?_; rintro e w3 ⟨he, ha⟩; rw [H2.out] at he ha; simp only at he ha; rw [HV.out.1] at he; subst he; have K2 := Lib.hid (And.intro ha.1 (And.intro (RAft.below ha K1.out.2.1 K1.out.2.2) K1.out.2.2)); clear ha K1)
      | (go_at_call 47; refine (octRU32 p bs s2 _ K2.out.1 Hlx.out).mono ?_; rintro e w4 ⟨he, ha⟩; rw [H3.out] at he ha; simp only at he ha; rw [HV.out.2.1] at he; subst he; have K3 := Lib.hid (And.intro ha.1 (And.intro (RAft.below ha K2.out.2.1 K2.out.2.2) K2.out.2.2)); clear ha K2)
      | (go_at_call 49; refine (octRestM p bs s3 _ K3.out.1 Hlx.out).mono ?_; rintro e wr ⟨rfl, nd, rfl⟩; have hle3 := K3.out.1.le; have K4 := Lib.hid (And.intro (K3.out.1.below (below_drewN (Below.refl _ _) nd)) (And.intro (below_drewN K3.out.2.1 nd) K3.out.2.2)); clear K3)
      | (go_at_call 48; refine (octRawI p (bs.length - s3.at_) _ (by omega) bs s3 _ K4.out.1 (by omega) Hlx.out).mono ?_; rintro e w5 ⟨b5, cap5, he, hown, ha⟩; rw [H4.out] at he hown ha; simp only at he hown ha; subst he; have O5 := Lib.hid hown; clear hown; have K5 := Lib.hid (And.intro ha.1 (And.intro (RAft.below ha K4.out.2.1 K4.out.2.2) K4.out.2.2)); clear ha K4)
      | (go_at_call 31; refine (octEnd p bs s4 _ K5.out.1).mono ?_; rintro e w6 ⟨x, y, rfl, hx, hb6⟩; obtain rfl := HF.out x hx; clear hx; have K6 := Lib.hid (And.intro (ownsRow_block O5.out fun k hk => hb6.block k (O5.out.lt k hk).2) (K5.out.2.1.trans (hb6.mono K5.out.2.1.size))); clear hb6 K5 O5)
      | (go_at_call 45; refine (octSum (tailA A c 1) 4 (c - 1) t2 _ (by rw [HC.out.2.2.2.2.1]; exact (((HA.out.below K6.out.2).mono K6.out.2.size).tail_ 1 (by have := Hn.out; omega)).take_ 4) HC.out.2.2.1 (by unfold maxLen; omega)).mono ?_; rintro e w7 ⟨rfl, hb7⟩; have K7 := Lib.hid (And.intro (ownsRow_block K6.out.1 fun k hk => hb7.block k (K6.out.1.lt k hk).2) (K6.out.2.trans (hb7.mono K6.out.2.size))); clear hb7 K6)
      | (go_at_call 44; refine (octExtend (crcE 0 t2) (crcE_lt _ _) b5 t4.length cap5 t4 _ (ownsRow_rd K7.out.1) rfl (by unfold maxLen; omega)).mono ?_; rintro e w8 ⟨he, hb8⟩; rw [HCe.out] at he; subst he; have K8 := Lib.hid (And.intro (ownsRow_block K7.out.1 fun k hk => hb8.block k (K7.out.1.lt k hk).2) (K7.out.2.trans (hb8.mono K7.out.2.size))); clear hb8 K7))
    go_ret2
    exact ⟨.inl ⟨t4, b5, cap5, HW.out, by omega, (by simp), ownsRow_rd K8.out.1⟩, K8.out.2⟩
  · have HF : Hid (∀ x, EndE bs s4 x → x ≠ 0) := fun x h e => hfin (h.2 e)
    have HNo : Hid (∀ body : List UInt8, body.length < 4294967296 → bs ≠ wrapB mark body) := fun body hb he => by
      have h := chain_wrap H1.out H2.out H3.out rfl H4.out hb he
      exact hfin h.1
    clear hfin
    have hfd := field0
    go_enter Tryz.func27, Tryz.ntmps27
    go_wp2_with (first
      | (go_at_call 28; refine (octNewR A n c bs _ HA.out Hn.out (by omega)).mono ?_; rintro e w1 ⟨p, rfl, hR, hp, hb1⟩; have K0 := Lib.hid (And.intro hR (And.intro hb1 hp)); clear hR hb1 hp)
      | (go_at_call 46; refine (octByte p bs _ _ K0.out.1 Hlx.out).mono ?_; rintro e w2 ⟨he, ha⟩; rw [H1.out] at he ha; simp only at he ha; rw [HV.out.2.2] at he; subst he; have K1 := Lib.hid (And.intro ha.1 (And.intro (RAft.below ha K0.out.2.1 K0.out.2.2) K0.out.2.2)); clear ha K0)
      | (go_at_call 47; refine (octRU32 p bs s1 _ K1.out.1 Hlx.out).mono ?_; rintro e w3 ⟨he, ha⟩; rw [H2.out] at he ha; simp only at he ha; rw [HV.out.1] at he; subst he; have K2 := Lib.hid (And.intro ha.1 (And.intro (RAft.below ha K1.out.2.1 K1.out.2.2) K1.out.2.2)); clear ha K1)
      | (go_at_call 47; refine (octRU32 p bs s2 _ K2.out.1 Hlx.out).mono ?_; rintro e w4 ⟨he, ha⟩; rw [H3.out] at he ha; simp only at he ha; rw [HV.out.2.1] at he; subst he; have K3 := Lib.hid (And.intro ha.1 (And.intro (RAft.below ha K2.out.2.1 K2.out.2.2) K2.out.2.2)); clear ha K2)
      | (go_at_call 49; refine (octRestM p bs s3 _ K3.out.1 Hlx.out).mono ?_; rintro e wr ⟨rfl, nd, rfl⟩; have hle3 := K3.out.1.le; have K4 := Lib.hid (And.intro (K3.out.1.below (below_drewN (Below.refl _ _) nd)) (And.intro (below_drewN K3.out.2.1 nd) K3.out.2.2)); clear K3)
      | (go_at_call 48; refine (octRawI p (bs.length - s3.at_) _ (by omega) bs s3 _ K4.out.1 (by omega) Hlx.out).mono ?_; rintro e w5 ⟨b5, cap5, he, hown, ha⟩; rw [H4.out] at he hown ha; simp only at he hown ha; subst he; have O5 := Lib.hid hown; clear hown; have K5 := Lib.hid (And.intro ha.1 (And.intro (RAft.below ha K4.out.2.1 K4.out.2.2) K4.out.2.2)); clear ha K4)
      | (go_at_call 31; refine (octEnd p bs s4 _ K5.out.1).mono ?_; rintro e w6 ⟨x, y, rfl, hx, hb6⟩; have hx0 : (x != 0) = true := bne_iff_ne.2 (HF.out x hx); clear hx; have K6 := Lib.hid (And.intro (ownsRow_block O5.out fun k hk => hb6.block k (O5.out.lt k hk).2) (K5.out.2.1.trans (hb6.mono K5.out.2.1.size))); clear hb6 K5 O5))
    go_ret2
    exact ⟨.inr ⟨HNo.out, _, rfl⟩, K6.out.2⟩
end Go.Proofs.YtdeaefbjddodjaaGreatDoor
namespace Go.Proofs.YtdeaefbjddodjaaGreatDoor
open Go.RowKit Go.Maps

/-- A number below 2^62; else the reader fails. -/
def nxS (l : List UInt8) (s : RSt) : Nat × RSt := if (uvS l s).1 < 4611686018427387904 then uvS l s else (0, badS l (uvS l s).2)
def cnS (most : Nat) (l : List UInt8) (s : RSt) : Nat × RSt := if (nxS l s).1 ≤ most then nxS l s else (0, badS l (nxS l s).2)
theorem uvS_fl0 {l : List UInt8} {s : RSt} (h : (uvS l s).2.fl = true) : (uvS l s).1 = 0 := by
  unfold uvS at h ⊢
  split
  · rfl
  · split
    · rename_i hx _ _ _ hr; rw [if_neg hx, hr] at h; cases h
    · rfl
theorem nxS_lt (l : List UInt8) (s : RSt) : (nxS l s).1 < 4611686018427387904 := by
  unfold nxS; split
  · assumption
  · show (0 : Nat) < 4611686018427387904; decide
theorem nxS_le {l : List UInt8} {s : RSt} (h : s.at_ ≤ l.length) : (nxS l s).2.at_ ≤ l.length := by
  unfold nxS; split
  · exact (uvS_le h).1
  · exact badS_le (uvS_le h).1
theorem nxS_fl0 {l : List UInt8} {s : RSt} (h : (nxS l s).2.fl = true) : (nxS l s).1 = 0 := by
  unfold nxS at h ⊢; split
  · rename_i hx; rw [if_pos hx] at h; exact uvS_fl0 h
  · rfl
theorem cnS_le (most : Nat) {l : List UInt8} {s : RSt} : (cnS most l s).1 ≤ most := by
  unfold cnS; split
  · assumption
  · exact Nat.zero_le _
theorem wrap_small {v : Nat} (h : v < 4611686018427387904) : wrap64 (v : Int) = v := by unfold wrap64; omega
theorem badS_new {l : List UInt8} {s : RSt} (h : s.fl = false) : badS l s = ⟨l.length, true⟩ := by unfold badS; rw [if_neg (by simp [h])]

set_option maxRecDepth 100000 in
set_option maxHeartbeats 2000000 in
theorem octNext (p : Nat) (l : List UInt8) (s : RSt) (w : World) (h : ORd w p l s) (hmx : l.length ≤ 140737488355328) :
    Calls Tryz.prog 29 #[.agg #[.pointer (some ⟨p, 0, none⟩)]] w fun e w' => e = .returned (.int .i64 (nxS l s).1) ∧ RAft p l (nxS l s).2 w w' := by
  have hpl := h.lt
  have hb := Below.refl w.heap.size w |>.alloc (Nat.le_refl _) (.cells #[.pointer (some ⟨p, 0, none⟩)] 72)
  have H := Lib.hid (h.below hb)
  have HX := Lib.hid (Box.new w 72 #[.pointer (some ⟨p, 0, none⟩)])
  have HB := Lib.hid hb
  have hlt := uvS_le h.le
  clear h hb
  rcases hu : uvS l s with ⟨v, s1⟩
  have Hu := Lib.hid hu
  rw [hu] at hlt
  have hv := hlt.2.2
  simp only at hv
  clear hu hlt
  by_cases hs : v < 4611686018427387904
  · have HN : Hid (nxS l s = (v, s1)) := by show nxS l s = (v, s1); unfold nxS; rw [Hu.out, if_pos hs]
    have HS := Lib.hid hs
    have hd : decide ((4611686018427387904 : Int) ≤ (v : Int)) = false := decide_eq_false (by omega)
    clear hs hv
    go_enter Tryz.func29, Tryz.ntmps29
    go_wp2_with (go_at_call 50; refine (octUv p l s _ H.out hmx).mono ?_; rintro e w1 ⟨he, ha⟩; rw [Hu.out] at he ha; simp only at he ha; subst he; have HA := Lib.hid ha; clear ha)
    go_ret
    rw [HN.out]
    exact ⟨ret_int (wrap_small HS.out), HA.out.1, ((Chg.refl (fun k => k = p) w).alloc _).trans HA.out.2⟩
  · have HN : Hid (nxS l s = (0, badS l s1)) := by show nxS l s = (0, badS l s1); unfold nxS; rw [Hu.out, if_neg hs]
    have hf1 : s1.fl = false := by
      cases hb : s1.fl with
      | false => rfl
      | true =>
        have := uvS_fl0 (l := l) (s := s) (by rw [Hu.out]; exact hb)
        rw [Hu.out] at this; simp only at this; omega
    have Hf1 := Lib.hid hf1
    have H72 : Hid ((72 : Int) ≠ 0) := by show (72 : Int) ≠ 0; decide
    have hd : decide ((4611686018427387904 : Int) ≤ (v : Int)) = true := decide_eq_true (by omega)
    clear hf1 hs hv
    go_enter Tryz.func29, Tryz.ntmps29
    go_wp2_with (first
      | (go_at_call 50; refine (octUv p l s _ H.out hmx).mono ?_; rintro e w1 ⟨he, ha⟩; rw [Hu.out] at he ha; simp only at he ha; subst he; have hX := HX.out.chg ha.2 (by omega); have hXc := hX.cell; have hXl := hX.lt; obtain ⟨b, cap, er, ea, hx⟩ := ha.1; have HA := Lib.hid (And.intro hx ha.2); clear ha hx hX)
      | (go_at_call 51; obtain ⟨at_, fl⟩ := s1; have hfl := Hf1.out; simp only at hfl; subst hfl; refine (octFail1 p b cap er ea _ l at_ _ HA.out.1 H72.out).mono ?_; rintro e w2 ⟨rfl, h2, h3⟩; have H2 := Lib.hid (And.intro h2 h3); clear h2 h3))
    go_ret
    rw [HN.out, badS_new rfl]
    exact ⟨rfl, ⟨_, _, _, _, H2.out.1⟩, (((Chg.refl (fun k => k = p) w).alloc _).trans HA.out.2).trans H2.out.2⟩

set_option maxRecDepth 100000 in
set_option maxHeartbeats 2000000 in
theorem octCount (p most : Nat) (hm : most ≤ 1000000) (l : List UInt8) (s : RSt) (w : World) (h : ORd w p l s) (hmx : l.length ≤ 140737488355328) :
    Calls Tryz.prog 30 #[.agg #[.pointer (some ⟨p, 0, none⟩)], .int .i64 most] w fun e w' => e = .returned (.int .i64 (cnS most l s).1) ∧ RAft p l (cnS most l s).2 w w' := by
  have hpl := h.lt
  have hb := Below.refl w.heap.size w |>.alloc (Nat.le_refl _) (.cells #[.pointer (some ⟨p, 0, none⟩)] 72)
  have H := Lib.hid (h.below hb)
  have HX := Lib.hid (Box.new w 72 #[.pointer (some ⟨p, 0, none⟩)])
  have HB := Lib.hid hb
  have hlt := nxS_lt l s
  clear h hb
  rcases hu : nxS l s with ⟨v, s1⟩
  have Hu := Lib.hid hu
  rw [hu] at hlt
  have hv := hlt
  simp only at hv
  clear hu hlt
  by_cases hs : v ≤ most
  · have HN : Hid (cnS most l s = (v, s1)) := by show cnS most l s = (v, s1); unfold cnS; rw [Hu.out, if_pos hs]
    have hd : decide (most < v) = false := decide_eq_false (by omega)
    clear hv
    go_enter Tryz.func30, Tryz.ntmps30
    go_wp2_with (go_at_call 29; refine (octNext p l s _ H.out hmx).mono ?_; rintro e w1 ⟨he, ha⟩; rw [Hu.out] at he ha; simp only at he ha; subst he; have HA := Lib.hid ha; clear ha)
    go_ret
    rw [HN.out]
    exact ⟨rfl, HA.out.1, ((Chg.refl (fun k => k = p) w).alloc _).trans HA.out.2⟩
  · have HN : Hid (cnS most l s = (0, badS l s1)) := by show cnS most l s = (0, badS l s1); unfold cnS; rw [Hu.out, if_neg hs]
    have hd : decide (most < v) = true := decide_eq_true (by omega)
    have hf1 : s1.fl = false := by
      cases hb : s1.fl with
      | false => rfl
      | true =>
        have := nxS_fl0 (l := l) (s := s) (by rw [Hu.out]; exact hb)
        rw [Hu.out] at this; simp only at this; omega
    have Hf1 := Lib.hid hf1
    have H72 : Hid ((72 : Int) ≠ 0) := by show (72 : Int) ≠ 0; decide
    clear hf1 hv
    go_enter Tryz.func30, Tryz.ntmps30
    go_wp2_with (first
      | (go_at_call 29; refine (octNext p l s _ H.out hmx).mono ?_; rintro e w1 ⟨he, ha⟩; rw [Hu.out] at he ha; simp only at he ha; subst he; have hX := HX.out.chg ha.2 (by omega); have hXc := hX.cell; have hXl := hX.lt; obtain ⟨b, cap, er, ea, hx⟩ := ha.1; have HA := Lib.hid (And.intro hx ha.2); clear ha hx hX)
      | (go_at_call 51; obtain ⟨at_, fl⟩ := s1; have hfl := Hf1.out; simp only at hfl; subst hfl; refine (octFail1 p b cap er ea _ l at_ _ HA.out.1 H72.out).mono ?_; rintro e w2 ⟨rfl, h2, h3⟩; have H2 := Lib.hid (And.intro h2 h3); clear h2 h3))
    go_ret
    rw [HN.out, badS_new rfl]
    exact ⟨rfl, ⟨_, _, _, _, H2.out.1⟩, (((Chg.refl (fun k => k = p) w).alloc _).trans HA.out.2).trans H2.out.2⟩
end Go.Proofs.YtdeaefbjddodjaaGreatDoor
namespace Go.Proofs.YtdeaefbjddodjaaGreatDoor
open Go.RowKit Go.Maps

/-! A manifest's bytes as numbers one behind the other. No program in sight. -/
theorem rdU_inv : ∀ (t : List UInt8) (i v k : Nat), i ≤ 9 → rdU i t = some (v, k) → t.take k = uvarF (10 - i) v ∧ (0 < i → 0 < v)
  | [], _, _, _, _, h => by cases h
  | c :: r, i, v, k, hi, h => by
    have hc := c.toNat_lt
    rw [rdU] at h
    split at h
    · cases h
    · rename_i h1
      split at h
      · cases h
      · rename_i h2
        have e10 : 10 - i = (9 - i) + 1 := by omega
        split at h
        · rename_i h3
          cases h
          refine ⟨?_, fun h0 => by omega⟩
          rw [e10, uvarF, if_pos h3]
          simp
        · rename_i h3
          rcases hh : rdU (i + 1) r with _ | ⟨v', k'⟩
          · rw [hh] at h; cases h
          · rw [hh] at h
            simp only [Option.map_some, Option.some.injEq, Prod.mk.injEq] at h
            obtain ⟨rfl, rfl⟩ := h
            have hi9 : i ≠ 9 := fun e => by
              have : c.toNat = 1 := Classical.byContradiction fun hn => h1 ⟨e, hn⟩
              omega
            obtain ⟨g1, g2⟩ := rdU_inv r (i + 1) v' k' (by omega) hh
            have hv' := g2 (by omega)
            refine ⟨?_, fun _ => by omega⟩
            rw [e10, uvarF, if_neg (by omega), List.take_succ_cons, g1]
            rw [show 10 - (i + 1) = 9 - i by omega, show (c.toNat % 128 + 128 * v') / 128 = v' by omega, show (c.toNat % 128 + 128 * v') % 128 + 128 = c.toNat by omega]
            simp
theorem rdE_inv {t : List UInt8} {v k : Nat} (h : rdE t = some (v, k)) : t.take k = uvar v := (rdU_inv t 0 v k (by omega) h).1

def flat3 (p : P3) : List Int := [p.1, p.2.1, p.2.2]
def numsM (id ns nx mk cl : Int) (segs : List Int) (prods : List P3) : List Int := [id, ns, nx, mk, cl, (segs.length : Int)] ++ (segs ++ ((prods.length : Int) :: prods.flatMap flat3))
theorem flat3_bytes (prods : List P3) : (prods.flatMap flat3).flatMap uvarI = prods.flatMap prodB := by
  induction prods with
  | nil => rfl
  | cons p r ih => simp only [List.flatMap_cons, List.flatMap_append, ih]; simp [flat3, prodB]
theorem bodyM_nums (id ns nx mk cl : Int) (segs : List Int) (prods : List P3) : bodyM id ns nx mk cl segs prods = (numsM id ns nx mk cl segs prods).flatMap uvarI := by
  simp only [numsM, bodyM, List.flatMap_append, List.flatMap_cons, flat3_bytes, List.append_assoc]
theorem flat3_len (prods : List P3) : (prods.flatMap flat3).length = 3 * prods.length := by
  induction prods with
  | nil => rfl
  | cons p r ih => simp only [List.flatMap_cons, List.length_append, ih, List.length_cons]; simp [flat3]; omega
theorem numsM_len (id ns nx mk cl : Int) (segs : List Int) (prods : List P3) : (numsM id ns nx mk cl segs prods).length = 7 + segs.length + 3 * prods.length := by
  simp only [numsM, List.length_append, List.length_cons, flat3_len, List.length_nil]; omega
theorem flat3_inj : ∀ {a b : List P3}, a.length = b.length → a.flatMap flat3 = b.flatMap flat3 → a = b
  | [], [], _, _ => rfl
  | [], _ :: _, h, _ => by cases h
  | _ :: _, [], h, _ => by cases h
  | ⟨a1, a2, a3⟩ :: a, ⟨b1, b2, b3⟩ :: b, h, e => by
    simp only [List.flatMap_cons, flat3, List.cons_append, List.nil_append, List.cons.injEq] at e
    obtain ⟨rfl, rfl, rfl, e⟩ := e
    rw [flat3_inj (by simpa using h) e]
theorem numsM_inj {id ns nx mk cl id' ns' nx' mk' cl' : Int} {segs segs' : List Int} {prods prods' : List P3} {ys : List Int} (h : numsM id ns nx mk cl segs prods = numsM id' ns' nx' mk' cl' segs' prods' ++ ys) :
    id = id' ∧ ns = ns' ∧ nx = nx' ∧ mk = mk' ∧ cl = cl' ∧ segs = segs' ∧ prods = prods' ∧ ys = [] := by
  simp only [numsM, List.cons_append, List.nil_append, List.append_assoc, List.cons.injEq] at h
  obtain ⟨h1, h2, h3, h4, h5, h6, h7⟩ := h
  obtain ⟨e1, e2⟩ := List.append_inj h7 (by omega)
  simp only [List.cons.injEq] at e2
  obtain ⟨h8, h9⟩ := e2
  have hl : prods.length = prods'.length := by omega
  have h10 : prods.flatMap flat3 ++ [] = prods'.flatMap flat3 ++ ys := by simpa using h9
  obtain ⟨e3, e4⟩ := List.append_inj h10 (by rw [flat3_len, flat3_len, hl])
  exact ⟨h1, h2, h3, h4, h5, e1, flat3_inj hl e3, e4.symm⟩
theorem numsM_bd {id ns nx mk cl : Int} {segs : List Int} {prods : List P3} (h : manR id ns nx mk cl segs prods = true) : ∀ x ∈ numsM id ns nx mk cl segs prods, 0 ≤ x ∧ x < 4611686018427387904 := by
  obtain ⟨fa, fb, fs, fp, fse, fpr⟩ := manR_facts h
  unfold manA at fa
  unfold manBB at fb
  intro x hx
  simp only [numsM, List.mem_append, List.mem_cons, List.not_mem_nil, or_false, List.mem_flatMap] at hx
  rcases hx with (rfl | rfl | rfl | rfl | rfl | rfl) | hx | rfl | ⟨p, hp, hx⟩
  · omega
  · omega
  · omega
  · omega
  · omega
  · omega
  · have := fse x hx; omega
  · omega
  · have := fpr p hp
    simp only [flat3, List.mem_cons, List.not_mem_nil, or_false] at hx
    omega

/-- What was read so far are the bytes of the numbers xs. -/
def ConM (l : List UInt8) (s : RSt) (xs : List Int) : Prop := s.fl = false → l.take s.at_ = xs.flatMap uvarI
/-- If the bytes are a right manifest's, xs are its first numbers. -/
def CanM (l : List UInt8) (s : RSt) (xs : List Int) : Prop := ∀ id ns nx mk cl segs prods, manR id ns nx mk cl segs prods = true → l = bodyM id ns nx mk cl segs prods →
  s.fl = false ∧ ∃ ys, numsM id ns nx mk cl segs prods = xs ++ ys ∧ l.drop s.at_ = ys.flatMap uvarI
theorem ConM.start (l : List UInt8) : ConM l ⟨0, false⟩ [] := fun _ => rfl
theorem CanM.start (l : List UInt8) : CanM l ⟨0, false⟩ [] := fun id ns nx mk cl segs prods _ hl => ⟨rfl, _, rfl, by rw [hl, bodyM_nums]; rfl⟩
theorem nxS_ok {l : List UInt8} {s s' : RSt} {v : Nat} (hu : nxS l s = (v, s')) (hf : s'.fl = false) : s.fl = false ∧ l.take s'.at_ = l.take s.at_ ++ uvar v := by
  unfold nxS at hu
  split at hu
  · unfold uvS at hu
    split at hu
    · rename_i hx; cases hu; rw [hx] at hf; cases hf
    · rename_i hx
      split at hu
      · rename_i v' k' hr
        cases hu
        refine ⟨by simpa using hx, ?_⟩
        have := rdE_inv hr
        show l.take (s.at_ + k') = _
        rw [← this, List.take_add]
      · cases hu; cases hf
  · cases hu
    have := badS_fl l (uvS l s).2
    rw [hf] at this; cases this
theorem ConM.next {l : List UInt8} {s s' : RSt} {xs : List Int} {v : Nat} (h : ConM l s xs) (hu : nxS l s = (v, s')) : ConM l s' (xs ++ [(v : Int)]) := fun hf => by
  obtain ⟨h1, h2⟩ := nxS_ok hu hf
  rw [h2, h h1, List.flatMap_append]
  simp [uvarI]
theorem CanM.next {l : List UInt8} {s s' : RSt} {xs : List Int} {v : Nat} (h : CanM l s xs) (hu : nxS l s = (v, s'))
    (hlen : ∀ id ns nx mk cl segs prods ys, manR id ns nx mk cl segs prods = true → numsM id ns nx mk cl segs prods = xs ++ ys → ys ≠ []) : CanM l s' (xs ++ [(v : Int)]) := by
  intro id ns nx mk cl segs prods hr hl
  obtain ⟨hf, ys, h1, h2⟩ := h id ns nx mk cl segs prods hr hl
  match ys, hlen id ns nx mk cl segs prods ys hr h1 with
  | y :: zs, _ =>
    have hy := numsM_bd hr y (by rw [h1]; simp)
    rw [List.flatMap_cons, uvarI] at h2
    obtain ⟨c1, c2, c3⟩ := uvS_canon hf h2 (by omega)
    unfold nxS at hu
    rw [if_pos (by omega)] at hu
    have e1 : (uvS l s).1 = v := by rw [hu]
    have e2 : (uvS l s).2 = s' := by rw [hu]
    rw [e1] at c1
    rw [e2] at c2 c3
    refine ⟨c2, zs, ?_, c3⟩
    rw [h1, show (v : Int) = y by omega]
    simp
theorem ConM.count {l : List UInt8} {s s' : RSt} {xs : List Int} {v most : Nat} (h : ConM l s xs) (hu : cnS most l s = (v, s')) : ConM l s' (xs ++ [(v : Int)]) := by
  unfold cnS at hu
  split at hu
  · exact h.next hu
  · cases hu
    intro hf
    have := badS_fl l (nxS l s).2
    rw [hf] at this; cases this
theorem CanM.count {l : List UInt8} {s s' : RSt} {xs : List Int} {v most : Nat} (h : CanM l s xs) (hu : cnS most l s = (v, s'))
    (hlen : ∀ id ns nx mk cl segs prods ys, manR id ns nx mk cl segs prods = true → numsM id ns nx mk cl segs prods = xs ++ ys → ∃ y zs, ys = y :: zs ∧ y ≤ most) : CanM l s' (xs ++ [(v : Int)]) := by
  intro id ns nx mk cl segs prods hr hl
  have h1 := h.next (s' := (nxS l s).2) (v := (nxS l s).1) rfl (fun id ns nx mk cl segs prods ys h1 h2 => by
    obtain ⟨y, zs, rfl, _⟩ := hlen id ns nx mk cl segs prods ys h1 h2
    exact List.cons_ne_nil _ _)
  obtain ⟨a1, ys, a2, a3⟩ := h1 id ns nx mk cl segs prods hr hl
  have hle : (nxS l s).1 ≤ most := by
    obtain ⟨y, zs, b1, b2⟩ := hlen id ns nx mk cl segs prods _ hr (by rw [a2, List.append_assoc])
    simp only [List.cons_append, List.nil_append, List.cons.injEq] at b1
    omega
  unfold cnS at hu
  rw [if_pos hle] at hu
  have e1 : (nxS l s).1 = v := by rw [hu]
  have e2 : (nxS l s).2 = s' := by rw [hu]
  rw [e1] at a2
  rw [e2] at a1 a3
  exact ⟨a1, ys, a2, a3⟩
/-- The end: what was read is a manifest. -/
theorem man_end {l : List UInt8} {s : RSt} {id ns nx mk cl : Int} {segs : List Int} {prods : List P3} (hc : ConM l s (numsM id ns nx mk cl segs prods)) (hf : s.fl = false) (ha : s.at_ = l.length) (hr : manR id ns nx mk cl segs prods = true) :
    encM id ns nx mk cl segs prods = wrapB 179 l := by
  have h := hc hf
  rw [ha, List.take_length] at h
  rw [encM, if_pos hr, bodyM_nums, ← h]
theorem wrapB_inj {mark : UInt8} {a b : List UInt8} (h : wrapB mark a = wrapB mark b) : a = b := by
  have := congrArg (List.drop 9) h
  exact this
theorem man_only {l : List UInt8} {s : RSt} {id ns nx mk cl id' ns' nx' mk' cl' : Int} {segs segs' : List Int} {prods prods' : List P3} (hc : CanM l s (numsM id ns nx mk cl segs prods)) (hle : s.at_ ≤ l.length) (hr : manR id' ns' nx' mk' cl' segs' prods' = true)
    (he : encM id' ns' nx' mk' cl' segs' prods' = wrapB 179 l) : (id' = id ∧ ns' = ns ∧ nx' = nx ∧ mk' = mk ∧ cl' = cl ∧ segs' = segs ∧ prods' = prods) ∧ s.fl = false ∧ s.at_ = l.length := by
  rw [encM, if_pos hr] at he
  obtain ⟨hf, ys, h1, h2⟩ := hc id' ns' nx' mk' cl' segs' prods' hr (wrapB_inj he).symm
  obtain ⟨e1, e2, e3, e4, e5, e6, e7, e8⟩ := numsM_inj h1
  subst e8
  refine ⟨⟨e1, e2, e3, e4, e5, e6, e7⟩, hf, ?_⟩
  have := congrArg List.length h2
  simp at this
  omega
end Go.Proofs.YtdeaefbjddodjaaGreatDoor
namespace Go.Proofs.YtdeaefbjddodjaaGreatDoor
open Go.RowKit Go.Maps

/-! The check sum tells one burst of four bytes. No program in sight. -/
theorem crcStep_top {x : Nat} (h : x < 4294967296) : (crcStep x).testBit 31 = decide (x % 2 = 1) := by
  unfold crcStep
  have h0 : (x / 2).testBit 31 = false := Nat.testBit_lt_two_pow (by omega)
  split
  · rename_i h1
    rw [Nat.testBit_xor, h0, h1]
    decide
  · rename_i h1
    rw [h0]; simp [h1]
theorem crcStep_inj {x y : Nat} (hx : x < 4294967296) (hy : y < 4294967296) (h : crcStep x = crcStep y) : x = y := by
  have t1 := crcStep_top hx
  have t2 := crcStep_top hy
  rw [h, t2] at t1
  unfold crcStep at h
  by_cases h1 : x % 2 = 1
  · have h2 : y % 2 = 1 := by simpa [h1] using t1
    rw [if_pos h1, if_pos h2] at h
    have := congrArg (· ^^^ 2197175160) h
    simp only [Nat.xor_assoc, Nat.xor_self, Nat.xor_zero] at this
    omega
  · have h2 : ¬ y % 2 = 1 := by simpa [h1] using t1
    rw [if_neg h1, if_neg h2] at h
    omega
theorem crcN_inj (k : Nat) {x y : Nat} (hx : x < 4294967296) (hy : y < 4294967296) (h : crcN k x = crcN k y) : x = y := by
  induction k generalizing x y with
  | zero => exact h
  | succ k ih => exact crcStep_inj hx hy (ih (crcStep_lt hx) (crcStep_lt hy) h)
theorem xor_left_inj' {a b c : Nat} (h : a ^^^ b = a ^^^ c) : b = c := by
  have := congrArg (a ^^^ ·) h
  simpa only [← Nat.xor_assoc, Nat.xor_self, Nat.zero_xor] using this
theorem xor_right_inj' {a b c : Nat} (h : a ^^^ c = b ^^^ c) : a = b := by
  rw [Nat.xor_comm a, Nat.xor_comm b] at h
  exact xor_left_inj' h
theorem crcX_app (x : Nat) (l m : List UInt8) : crcX x (l ++ m) = crcX (crcX x l) m := by simp [crcX, List.foldl_append]
theorem crcX_cons (x : Nat) (c : UInt8) (l : List UInt8) : crcX x (c :: l) = crcX (crcN 8 (x ^^^ c.toNat)) l := rfl
theorem crcX_inj (l : List UInt8) {x y : Nat} (hx : x < 4294967296) (hy : y < 4294967296) (h : crcX x l = crcX y l) : x = y := by
  induction l generalizing x y with
  | nil => exact h
  | cons c l ih =>
    have hc := c.toNat_lt
    have h2 := ih (crcN_lt 8 (xor32 hx (by omega))) (crcN_lt 8 (xor32 hy (by omega))) h
    exact xor_right_inj' (crcN_inj 8 (xor32 hx (by omega)) (xor32 hy (by omega)) h2)
/-- The bytes as one number, the first the lowest. -/
def leN : List UInt8 → Nat
  | [] => 0
  | c :: l => c.toNat ^^^ 256 * leN l
theorem xor_add256 (a b : Nat) (h : a < 256) : a ^^^ 256 * b = a + 256 * b := by
  have e := Nat.two_pow_add_eq_or_of_lt (i := 8) (b := a) (by omega) b
  have h2 : a ^^^ 2 ^ 8 * b = a ||| 2 ^ 8 * b := by
    apply Nat.eq_of_testBit_eq
    intro i
    rw [Nat.testBit_xor, Nat.testBit_or]
    rcases Nat.lt_or_ge i 8 with hi | hi
    · have : (2 ^ 8 * b).testBit i = false := by rw [Nat.testBit_two_pow_mul]; simp; omega
      rw [this]; simp
    · have : a.testBit i = false := Nat.testBit_lt_two_pow (Nat.lt_of_lt_of_le (show a < 2 ^ 8 by omega) (Nat.pow_le_pow_right (by decide) hi))
      rw [this]; simp
  rw [show (256 : Nat) = 2 ^ 8 from rfl, h2, Nat.or_comm, ← e]
  omega
theorem leN_inj : ∀ {a b : List UInt8}, a.length = b.length → leN a = leN b → a = b
  | [], [], _, _ => rfl
  | [], _ :: _, h, _ => by cases h
  | _ :: _, [], h, _ => by cases h
  | c :: a, d :: b, h, e => by
    have hc := c.toNat_lt
    have hd := d.toNat_lt
    rw [leN, leN, xor_add256 _ _ (by omega), xor_add256 _ _ (by omega)] at e
    have e1 : c.toNat = d.toNat := by omega
    have e2 : leN a = leN b := by omega
    rw [UInt8.toNat_inj.1 e1, leN_inj (by simpa using h) e2]
theorem leN_lt : ∀ (a : List UInt8), leN a < 256 ^ a.length
  | [] => by decide
  | c :: a => by
    have hc := c.toNat_lt
    have := leN_lt a
    rw [leN, xor_add256 _ _ (by omega), List.length_cons, Nat.pow_succ]
    omega
theorem crcX_leN (l : List UInt8) (x : Nat) : crcX x l = crcN (8 * l.length) (x ^^^ leN l) := by
  induction l generalizing x with
  | nil => simp [crcX, crcN, leN]
  | cons c l ih =>
    have hadd : ∀ (j k y : Nat), crcN (k + j) y = crcN j (crcN k y) := by
      intro j k y
      induction k generalizing y with
      | zero => simp [crcN]
      | succ k ihk => rw [show k + 1 + j = (k + j) + 1 by omega, crcN, ihk]; rfl
    rw [crcX_cons, ih, leN, List.length_cons, show 8 * (l.length + 1) = 8 + 8 * l.length by omega, hadd, ← Nat.xor_assoc, show (256 : Nat) = 2 ^ 8 from rfl, crcN_xor]
theorem crcX_burst {a b : List UInt8} (hl : a.length = b.length) (h4 : a.length ≤ 4) {x : Nat} (hx : x < 4294967296) (h : crcX x a = crcX x b) : a = b := by
  have ha := leN_lt a
  have hb := leN_lt b
  rw [← hl] at hb
  have hp : 256 ^ a.length ≤ 256 ^ 4 := Nat.pow_le_pow_right (by decide) h4
  rw [crcX_leN, crcX_leN, ← hl] at h
  exact leN_inj hl (xor_left_inj' (crcN_inj _ (xor32 hx (by omega)) (xor32 hx (by omega)) h))
/-- Two texts that part in one burst of at most four bytes alone have two sums. -/
theorem crcE_burst {s : Nat} {p a b q : List UInt8} (hs : s < 4294967296) (hl : a.length = b.length) (h4 : a.length ≤ 4) (h : crcE s (p ++ a ++ q) = crcE s (p ++ b ++ q)) : a = b := by
  unfold crcE at h
  have h0 : 4294967295 - s < 4294967296 := by omega
  have k1 := crcX_lt (4294967295 - s) (p ++ a ++ q) h0
  have k2 := crcX_lt (4294967295 - s) (p ++ b ++ q) h0
  have h1 : crcX (4294967295 - s) (p ++ a ++ q) = crcX (4294967295 - s) (p ++ b ++ q) := by omega
  rw [crcX_app, crcX_app, crcX_app, crcX_app] at h1
  have hp := crcX_lt (4294967295 - s) p h0
  exact crcX_burst hl h4 hp (crcX_inj q (crcX_lt _ _ hp) (crcX_lt _ _ hp) h1)

/-! Damage to a wrapped body. No program in sight. -/
theorem be32_inj {a b : Nat} (ha : a < 4294967296) (hb : b < 4294967296) (h : be32 a = be32 b) : a = b := by
  have := congrArg fxN h
  rwa [fxN_be32 _ ha, fxN_be32 _ hb] at this
theorem wrapB_head (mark : UInt8) (body : List UInt8) : (wrapB mark body).take 5 = mark :: be32 body.length := by simp [wrapB, be32]
theorem wrapB_body (mark : UInt8) (body : List UInt8) : (wrapB mark body).drop 9 = body := rfl
theorem wrapB_sum (mark : UInt8) (body : List UInt8) : ((wrapB mark body).drop 5).take 4 = be32 (crcE (crcE 0 (be32 body.length)) body) := by simp [wrapB, be32]
/-- Cut, or followed by something: no wrapped body. -/
theorem wrapB_cut {mark m2 : UInt8} {a b : List UInt8} {k : Nat} (ha : a.length < 4294967296) (hb : b.length < 4294967296) (hk : k < (wrapB mark a).length) (h : wrapB m2 b = (wrapB mark a).take k) : False := by
  have hl := congrArg List.length h
  rw [List.length_take, wrapB_len] at hl
  rw [wrapB_len] at hk hl
  have h5 := congrArg (List.take 5) h
  rw [List.take_take, show min 5 k = 5 by omega, wrapB_head, wrapB_head] at h5
  simp only [List.cons.injEq] at h5
  have := be32_inj hb ha h5.2
  omega
theorem wrapB_more {mark m2 : UInt8} {a b c : List UInt8} (ha : a.length < 4294967296) (hb : b.length < 4294967296) (hc : 0 < c.length) (h : wrapB m2 b = wrapB mark a ++ c) : False := by
  have hl := congrArg List.length h
  rw [List.length_append, wrapB_len, wrapB_len] at hl
  have h5 := congrArg (List.take 5) h
  rw [List.take_append_of_le_length (by rw [wrapB_len]; omega), wrapB_head, wrapB_head] at h5
  simp only [List.cons.injEq] at h5
  have := be32_inj hb ha h5.2
  omega
/-- The bytes l with the bytes o from place k on. -/
def splice (l : List UInt8) (k : Nat) (o : List UInt8) : List UInt8 := l.take k ++ o ++ l.drop (k + o.length)
theorem splice_len {l o : List UInt8} {k : Nat} (h : k + o.length ≤ l.length) : (splice l k o).length = l.length := by
  simp [splice]; omega
theorem splice_self {l : List UInt8} {k n : Nat} (h : k + n ≤ l.length) : splice l k ((l.drop k).take n) = l := by
  have : ((l.drop k).take n).length = n := by simp; omega
  unfold splice
  rw [this, ← List.drop_drop, List.append_assoc, List.take_append_drop, List.take_append_drop]
/-- One to four bytes, all ahead of the body or all in it: what is a wrapped body has not turned. -/
theorem wrapB_burst {mark : UInt8} {a b o : List UInt8} {k : Nat} (ha : a.length < 4294967296) (h4 : o.length ≤ 4) (hk : k + o.length ≤ (wrapB mark a).length) (hpl : 9 ≤ k ∨ k + o.length ≤ 9)
    (h : wrapB mark b = splice (wrapB mark a) k o) : wrapB mark b = wrapB mark a := by
  have hl := congrArg List.length h
  rw [splice_len hk, wrapB_len, wrapB_len] at hl
  have hab : b.length = a.length := by omega
  rw [wrapB_len] at hk
  rcases hpl with h9 | h9
  · -- in the body
    have hsum := congrArg (fun l => (l.drop 5).take 4) h
    have hbd := congrArg (List.drop 9) h
    have e1 : ((splice (wrapB mark a) k o).drop 5).take 4 = ((wrapB mark a).drop 5).take 4 := by
      unfold splice
      rw [List.append_assoc, List.drop_append_of_le_length (by simp [wrapB_len]; omega), List.take_append_of_le_length (by simp [wrapB_len]; omega), List.drop_take, List.take_take, show min 4 (k - 5) = 4 by omega]
    have e2 : (splice (wrapB mark a) k o).drop 9 = splice a (k - 9) o := by
      unfold splice
      rw [List.append_assoc, List.drop_append_of_le_length (by simp [wrapB_len]; omega), List.drop_take, wrapB_body, List.append_assoc, show k + o.length = 9 + (k - 9 + o.length) by omega, ← List.drop_drop, wrapB_body]
    rw [e1, wrapB_sum, wrapB_sum] at hsum
    rw [wrapB_body, e2] at hbd
    have hs := be32_inj (crcE_lt _ _) (crcE_lt _ _) hsum
    rw [hab] at hs
    have hself := splice_self (l := a) (k := k - 9) (n := o.length) (by omega)
    have hx : crcE (crcE 0 (be32 a.length)) (splice a (k - 9) o) = crcE (crcE 0 (be32 a.length)) (splice a (k - 9) ((a.drop (k - 9)).take o.length)) := by rw [hself, ← hbd, hs]
    have hon : ((a.drop (k - 9)).take o.length).length = o.length := by simp; omega
    unfold splice at hx
    rw [hon] at hx
    have := crcE_burst (crcE_lt _ _) hon.symm h4 hx
    rw [hbd, this, hself]
  · -- ahead of it
    have hbd := congrArg (List.drop 9) h
    have e2 : (splice (wrapB mark a) k o).drop 9 = a := by
      have hl1 : ((wrapB mark a).take k ++ o).length = k + o.length := by simp [wrapB_len]; omega
      unfold splice
      rw [List.drop_append, List.drop_eq_nil_of_le (by omega), hl1, List.nil_append, List.drop_drop, show k + o.length + (9 - (k + o.length)) = 9 by omega]
      rfl
    rw [wrapB_body, e2] at hbd
    rw [hbd]
end Go.Proofs.YtdeaefbjddodjaaGreatDoor
