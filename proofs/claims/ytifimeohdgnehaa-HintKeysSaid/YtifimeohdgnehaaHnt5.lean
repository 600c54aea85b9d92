import Derived.Test.YtifimeohdgnehaaHnt4
import Derived.Test.YtifimeohdgnehaaOctU
namespace Go.Proofs.Ytifimeohdgnehaa
open Go.RowKit Go.Maps

def longOf (e : HE) : Int := 2 * e.len + (if e.dead then 1 else 0)
def entB (off en : Int) (e : HE) : List UInt8 := uvarI (e.off - off) ++ uvarI e.time ++ uvarI (e.pos - en) ++ uvarI (longOf e) ++ textB e.key
def entsB (l : List HE) : Nat → List UInt8
  | 0 => []
  | i + 1 => entsB l i ++ entB (offAt l i) (endAt l i) (nth l i)
def bodyH (seg size : Int) (l : List HE) : List UInt8 := uvarI seg ++ uvarI size ++ uvarI l.length ++ entsB l l.length
open Classical in
/-- The bytes of a hint; none, if it may not be. -/
noncomputable def encH (seg size : Int) (l : List HE) : List UInt8 := if HintR seg size l then wrapB 177 (bodyH seg size l) else []
open Classical in
noncomputable def errH (seg size : Int) (l : List HE) : Int := if HintR seg size l then 0 else 60
theorem RAns.t {seg size : Int} {l : List HE} {r : Ending} (h : RAns seg size l r) (hr : HintR seg size l) : r = .returned (.bool true) := by
  rcases h with ⟨_, h⟩ | ⟨h, _⟩
  · exact h
  · exact absurd hr h
theorem RAns.f {seg size : Int} {l : List HE} {r : Ending} (h : RAns seg size l r) (hr : ¬ HintR seg size l) : r = .returned (.bool false) := by
  rcases h with ⟨h, _⟩ | ⟨_, h⟩
  · exact absurd h hr
  · exact h
theorem hint_ends {seg size : Int} {l : List HE} (h : HintR seg size l) : ∀ i, i ≤ l.length → 21 + 14 * (i : Int) ≤ endAt l i ∧ -1 ≤ offAt l i ∧ offAt l i < 1099511627776 ∧ (0 < i → endAt l i ≤ size - 17) := by
  intro i
  induction i with
  | zero => intro _; simp [endAt, offAt]
  | succ i ih =>
    intro hi
    have h1 := ih (by omega)
    have h2 := h.2.2.2.2.1 i (by omega)
    unfold EntR at h2
    simp only [endAt, offAt]
    omega
theorem hint_len {seg size : Int} {l : List HE} (h : HintR seg size l) : l.length ≤ 5000 := by
  rcases Nat.eq_zero_or_pos l.length with h0 | h0
  · omega
  · have := hint_ends h l.length (Nat.le_refl _)
    have h3 := h.2.2.2.1
    omega

set_option maxRecDepth 100000 in
set_option maxHeartbeats 8000000 in
theorem refEncodeH (seg size : Int) (A : Option Addr) (c : Nat) (l : List HE) (w : World) (hA : Rd w w.heap.size A (l.flatMap six)) (hmx : l.length ≤ 140737488355328) :
    Calls Try.prog 9 #[hV seg size (.slice A l.length c)] w fun e w' =>
      ∃ b cap, e = .returned (.tuple #[.slice b (encH seg size l).length cap, .int .i64 (errH seg size l)]) ∧
        w'.ownsRow w.heap.size 5 1 (.slice b (encH seg size l).length cap) (encH seg size l).length (bv (encH seg size l)) ∧ Below w.heap.size w w' := by
  unfold hV
  have hb0 : Below w.heap.size w (w.alloc (.cells #[.int .i64 seg, .int .i64 size, .slice A l.length c] 24)) := (Below.refl _ _).alloc (Nat.le_refl _) _
  have hX0 := Box.new w 24 #[.int .i64 seg, .int .i64 size, .slice A l.length c]
  have Hb0 := Lib.hid hb0
  have HX0 := Lib.hid hX0
  have HA := Lib.hid hA
  clear hb0 hX0 hA
  by_cases hr : HintR seg size l
  case neg =>
    have HE := Lib.hid (show errH seg size l = 60 from if_neg hr)
    have HL := Lib.hid (show encH seg size l = [] from if_neg hr)
    have Hr := Lib.hid hr
    clear hr
    go_enter Try.func9, Try.ntmps9
    go_wp2_with (go_at_call 28; refine (refRight seg size A c l _ ((HA.out.below Hb0.out).mono (by simp)) hmx).mono ?_; rintro e w1 ⟨he, hb1⟩; have he2 := he.f Hr.out; clear he; subst he2; have Hb1 := Lib.hid hb1; clear hb1)
    go_ret2
    rw [HL.out, HE.out]
    exact ⟨none, 0, rfl, nil_own _ _ _ _, Hb0.out.trans (Hb1.out.mono (by simp))⟩
  have HE := Lib.hid (show errH seg size l = 0 from if_pos hr)
  have HL := Lib.hid (show encH seg size l = wrapB 177 (bodyH seg size l) from if_pos hr)
  have Hr := Lib.hid hr
  have hll := hint_len hr
  obtain ⟨g1, g2, g3, g4, _⟩ := hr
  go_enter Try.func9, Try.ntmps9
  go_wp2_with (first
      | (go_at_call 28; refine (refRight seg size A c l _ ((HA.out.below Hb0.out).mono (by simp)) hmx).mono ?_; rintro e w1 ⟨he, hb1⟩; have he2 := he.t Hr.out; clear he; subst he2; have HX := Lib.hid (HX0.out.below hb1 (by simp)); have Hb1 := Lib.hid (Hb0.out.trans (hb1.mono (by simp))); have hsz1 : w.heap.size < w1.heap.size := by (have := hb1.size; simp at this; omega)
         have hcx1 := HX.out.cell
         clear hb1)
      | (go_at_call 29; refine (rwNew _).mono ?_; rintro e w2 ⟨rfl, hw2, hb2⟩; have S := Lib.hid (WS.new (B := w.heap.size + 1) (by omega) hw2 hb2); have hcx2 := (HX.out.below hb2 HX.out.lt).cell; have L : Hid (([] : List UInt8).length ≤ 0) := by (show _ ≤ 0; simp)
         clear hw2 hb2)
      | (go_at_call 30; refine (rwUv S.out L.out (by omega) _ (by omega) (by omega)).mono ?_; rintro e wq ⟨rfl, gq, s1, s2, s3, s4⟩; have S' := Lib.hid s1; have L' := Lib.hid s2; have hX' := HX.out.below s1.below (by omega); have hcx' := hX'.cell; clear s1 s2 s3 s4 S L; have S := S'; have L := L'; clear S' L' hX'))
  go_loopw [6, 7, 8] (fun o en i wr => ∃ (k : Nat) (g : Option Nat) (b : List UInt8), k ≤ l.length ∧ i = .int .i64 k ∧ o = .int .i64 (offAt l k) ∧ en = .int .i64 (endAt l k) ∧ WS (w.heap.size + 1) w1 wr 81 w1.heap.size g b ∧ b.length ≤ 60 + 114 * k ∧ b = uvarI seg ++ uvarI size ++ uvarI l.length ++ entsB l k)
      (fun _ _ i _ => l.length - (intOf i).toNat)
  case atStart => exact ⟨0, _, _, Nat.zero_le _, rfl, rfl, rfl, S.out, by have := L.out; omega, by simp [entsB]⟩
  case round =>
    clear S L
    obtain ⟨k, g, b, hk, rfl, rfl, rfl, hS, hL, hl⟩ := hrel
    have S := Lib.hid hS
    have L := Lib.hid hL
    have Hl := Lib.hid hl
    have hcx3 := (HX.out.below hS.below (by omega)).cell
    clear hS hL hl
    by_cases hlt : k < l.length
    · obtain ⟨ad, rfl, _, p0, p1, p2, p3, p4, p5⟩ := (HA.out.below (Hb1.out.trans (S.out.below.mono (by omega)))).six_ hlt
      have hent := Hr.out.2.2.2.2.1 k hlt
      obtain ⟨_, o1, o2, _⟩ := hint_ends Hr.out k hk
      have e1 := (hint_ends Hr.out k hk).1
      have Hen := Lib.hid (show offAt l (k + 1) = (nth l k).off ∧ endAt l (k + 1) = (nth l k).pos + (nth l k).len from ⟨rfl, rfl⟩)
      have Hbs := Lib.hid (show entsB l (k + 1) = entsB l k ++ entB (offAt l k) (endAt l k) (nth l k) from rfl)
      rw [← nth_eq hlt] at p0 p1 p2 p3 p4 p5
      generalize nth l k = p at p0 p1 p2 p3 p4 p5 Hen Hbs hent
      generalize offAt l k = oo at hent o1 o2 Hbs
      generalize endAt l k = ee at hent e1 Hbs
      obtain ⟨key, eo, et, ed, ep, el⟩ := p
      obtain ⟨t1, t2, t3, t4, t5, t6, t7, t8, t9, t10⟩ := hent
      simp only at p0 p1 p2 p3 p4 p5 t1 t2 t3 t4 t5 t6 t7 t8 t9 t10
      have HQ := Lib.hid (Box.new wr 33 #[.string key, .int .i64 eo, .int .i64 et, .bool ed, .int .i64 ep, .int .i64 el])
      have S' := Lib.hid (S.out.on ((Below.refl _ _).alloc (Nat.le_refl _) (.cells #[.string key, .int .i64 eo, .int .i64 et, .bool ed, .int .i64 ep, .int .i64 el] 33)))
      have G : Hid (∀ k, g = some k → wr.heap.size ≠ k) := fun k hk => by have := S.out.wr.glt hk; omega
      have hpw : w1.heap.size < wr.heap.size := S.out.wr.lt
      clear S
      have S := S'
      clear S'
      cases ed with
      | false =>
        go_wp2_with (first
          | (go_at_call 30; refine (rwUv S.out L.out (by omega) _ (by omega) (by omega)).mono ?_; rintro e wq ⟨rfl, gq, s1, s2, s3, s4⟩; have S' := Lib.hid s1; have L' := Lib.hid s2; have hX' := HX.out.below s1.below (by omega); have hcx' := hX'.cell; have HQ' := Lib.hid (HQ.out.chg s3 (by rintro (e | e); exact absurd e (by omega); exact absurd rfl (G.out _ e.symm))); have hcq' := HQ'.out.cell; have G' : Hid (∀ j, gq = some j → wr.heap.size ≠ j) := (by rcases s4 with s4 | ⟨k', s4, s5⟩; exact fun j hj => G.out j (s4.symm.trans hj); exact fun j hj => (by rw [s4] at hj; cases hj; have := HQ.out.lt; omega)); clear s1 s2 s3 s4 S L HQ G; have HQ := HQ'; have G := G'; clear HQ' G'; have S := S'; have L := L'; clear S' L' hX')
          | (go_at_call 31; refine (rwTx S.out L.out (by omega) key 64 t2 (by omega)).mono ?_; rintro e wq ⟨rfl, gq, s1, s2, s3, s4⟩; have S' := Lib.hid s1; have L' := Lib.hid s2; have hX' := HX.out.below s1.below (by omega); have hcx' := hX'.cell; have HQ' := Lib.hid (HQ.out.chg s3 (by rintro (e | e); exact absurd e (by omega); exact absurd rfl (G.out _ e.symm))); have hcq' := HQ'.out.cell; clear s1 s2 s3 s4 S L HQ G; have S := S'; have L := L'; clear S' L' hX'))
        go_roundw
        case rel => exact ⟨k + 1, _, _, by omega, by go_num, by rw [Hen.out.1], by rw [Hen.out.2], S.out, by have := L.out; omega, by rw [Hl.out, Hbs.out]; simp [entB, longOf]⟩
        case measure => simp [intOf]; omega
      | true =>
        go_wp2_with (first
          | (go_at_call 30; refine (rwUv S.out L.out (by omega) _ (by omega) (by omega)).mono ?_; rintro e wq ⟨rfl, gq, s1, s2, s3, s4⟩; have S' := Lib.hid s1; have L' := Lib.hid s2; have hX' := HX.out.below s1.below (by omega); have hcx' := hX'.cell; have HQ' := Lib.hid (HQ.out.chg s3 (by rintro (e | e); exact absurd e (by omega); exact absurd rfl (G.out _ e.symm))); have hcq' := HQ'.out.cell; have G' : Hid (∀ j, gq = some j → wr.heap.size ≠ j) := (by rcases s4 with s4 | ⟨k', s4, s5⟩; exact fun j hj => G.out j (s4.symm.trans hj); exact fun j hj => (by rw [s4] at hj; cases hj; have := HQ.out.lt; omega)); clear s1 s2 s3 s4 S L HQ G; have HQ := HQ'; have G := G'; clear HQ' G'; have S := S'; have L := L'; clear S' L' hX')
          | (go_at_call 31; refine (rwTx S.out L.out (by omega) key 64 t2 (by omega)).mono ?_; rintro e wq ⟨rfl, gq, s1, s2, s3, s4⟩; have S' := Lib.hid s1; have L' := Lib.hid s2; have hX' := HX.out.below s1.below (by omega); have hcx' := hX'.cell; have HQ' := Lib.hid (HQ.out.chg s3 (by rintro (e | e); exact absurd e (by omega); exact absurd rfl (G.out _ e.symm))); have hcq' := HQ'.out.cell; clear s1 s2 s3 s4 S L HQ G; have S := S'; have L := L'; clear S' L' hX'))
        go_roundw
        case rel => exact ⟨k + 1, _, _, by omega, by go_num, by rw [Hen.out.1], by rw [Hen.out.2], S.out, by have := L.out; omega, by rw [Hl.out, Hbs.out]; simp [entB, longOf]⟩
        case measure => simp [intOf]; omega
    · have hke : k = l.length := by omega
      subst hke
      have Hbl := Lib.hid (show b.length = (bodyH seg size l).length by rw [Hl.out]; rfl)
      have hbl : (bodyH seg size l).length ≤ 1000000 := by have := L.out; rw [← Hbl.out]; omega
      go_wp2_with (first
        | (go_at_call 33; refine (rwBytesL _ _ _ (bodyH seg size l) (bodyH seg size l).length _ S.out.wr Hl.out rfl (by omega)).mono ?_; rintro e w5 ⟨b5, cap5, rfl, hown, hb5⟩; have S5 := Lib.hid (S.out.on hb5); have O5 := Lib.hid hown; clear hown hb5)
        | (go_at_call 32; refine (refWrap 177 _ (bodyH seg size l).length _ (bodyH seg size l) _ (ownsRow_rd O5.out) rfl (by omega)).mono ?_; rintro e w6 ⟨b6, cap6, rfl, hown, hb6⟩; have S6 := Lib.hid (S5.out.on hb6); have O6 := Lib.hid hown; clear hown hb6))
      go_ret2
      rw [HL.out, HE.out, wrapB_len]
      exact ⟨b6, cap6, rfl, ownsRow_le O6.out (Nat.le_trans Hb1.out.size S5.out.below.size), Hb1.out.trans (S6.out.below.mono (by omega))⟩
end Go.Proofs.Ytifimeohdgnehaa
