import Derived.Test.YtifimeohdgnehaaHnt5
namespace Go.Proofs.Ytifimeohdgnehaa
open Go.RowKit Go.Maps

set_option maxRecDepth 100000 in
set_option maxHeartbeats 8000000 in
theorem octBodyH (seg size : Int) (A : Option Addr) (c : Nat) (l : List HE) (w : World) (hA : Rd w w.heap.size A (l.flatMap six)) (hr : HintR seg size l) :
    Calls Try.prog 20 #[hV seg size (.slice A l.length c)] w fun e w' =>
      ∃ b cap, e = .returned (.slice b (bodyH seg size l).length cap) ∧ (bodyH seg size l).length ≤ 1000000 ∧
        w'.ownsRow w.heap.size 5 1 (.slice b (bodyH seg size l).length cap) (bodyH seg size l).length (bv (bodyH seg size l)) ∧ Below w.heap.size w w' := by
  unfold hV
  have hb0 : Below w.heap.size w (w.alloc (.cells #[.int .i64 seg, .int .i64 size, .slice A l.length c] 24)) := (Below.refl _ _).alloc (Nat.le_refl _) _
  have HX := Lib.hid (Box.new w 24 #[.int .i64 seg, .int .i64 size, .slice A l.length c])
  have Hb0 := Lib.hid hb0
  have HA := Lib.hid hA
  have Hr := Lib.hid hr
  have hll := hint_len hr
  have hcx1 := HX.out.cell
  obtain ⟨g1, g2, g3, g4, _⟩ := hr
  clear hb0 hA
  go_enter Try.func20, Try.ntmps20
  go_wp2_with (first
      | (go_at_call 21; refine (wNew _).mono ?_; rintro e w2 ⟨rfl, hw2, hb2⟩; have S0 := WS.new (B := w.heap.size + 1) (by simp) hw2 hb2; rw [World.size_alloc] at S0; have S := Lib.hid S0; clear S0; have hcx2 := (HX.out.below hb2 HX.out.lt).cell; have L : Hid (([] : List UInt8).length ≤ 0) := by (show _ ≤ 0; simp)
         clear hw2 hb2)
      | (go_at_call 47; refine (wUv S.out L.out (by omega) _ (by omega) (by omega)).mono ?_; rintro e wq ⟨rfl, gq, s1, s2, s3, s4⟩; have S' := Lib.hid s1; have L' := Lib.hid s2; have hX' := HX.out.below s1.below (by omega); have hcx' := hX'.cell; clear s1 s2 s3 s4 S L; have S := S'; have L := L'; clear S' L' hX'))
  go_loopw [4, 5, 29] (fun o en i wr => ∃ (k : Nat) (g : Option Nat) (b : List UInt8), k ≤ l.length ∧ i = .int .i64 k ∧ o = .int .i64 (offAt l k) ∧ en = .int .i64 (endAt l k) ∧ WS (w.heap.size + 1) (w.alloc (.cells #[.int .i64 seg, .int .i64 size, .slice A l.length c] 24)) wr 75 (w.heap.size + 1) g b ∧ b.length ≤ 60 + 114 * k ∧ b = uvarI seg ++ uvarI size ++ uvarI l.length ++ entsB l k)
      (fun _ _ i _ => l.length - (intOf i).toNat)
  case atStart => exact ⟨0, _, _, Nat.zero_le _, rfl, rfl, rfl, S.out, by have := L.out; omega, by simp [entsB]⟩
  case round =>
    clear S L
    obtain ⟨k, g, b, hk, rfl, rfl, rfl, hS, hL, hl⟩ := hrel
    have S := Lib.hid hS
    have L := Lib.hid hL
    have Hl := Lib.hid hl
    have hcx3 := (HX.out.below hS.below (by omega)).cell
    clear hS hL hl
    by_cases hlt : k < l.length
    · obtain ⟨ad, rfl, _, p0, p1, p2, p3, p4, p5⟩ := (HA.out.below (Hb0.out.trans (S.out.below.mono (by omega)))).six_ hlt
      have hent := Hr.out.2.2.2.2.1 k hlt
      obtain ⟨_, o1, o2, _⟩ := hint_ends Hr.out k hk
      have e1 := (hint_ends Hr.out k hk).1
      have Hen := Lib.hid (show offAt l (k + 1) = (nth l k).off ∧ endAt l (k + 1) = (nth l k).pos + (nth l k).len from ⟨rfl, rfl⟩)
      have Hbs := Lib.hid (show entsB l (k + 1) = entsB l k ++ entB (offAt l k) (endAt l k) (nth l k) from rfl)
      rw [← nth_eq hlt] at p0 p1 p2 p3 p4 p5
      generalize nth l k = p at p0 p1 p2 p3 p4 p5 Hen Hbs hent
      generalize offAt l k = oo at hent o1 o2 Hbs
      generalize endAt l k = ee at hent e1 Hbs
      obtain ⟨key, eo, et, ed, ep, el⟩ := p
      obtain ⟨t1, t2, t3, t4, t5, t6, t7, t8, t9, t10⟩ := hent
      simp only at p0 p1 p2 p3 p4 p5 t1 t2 t3 t4 t5 t6 t7 t8 t9 t10
      have HQ := Lib.hid (Box.new wr 33 #[.string key, .int .i64 eo, .int .i64 et, .bool ed, .int .i64 ep, .int .i64 el])
      have S' := Lib.hid (S.out.on ((Below.refl _ _).alloc (Nat.le_refl _) (.cells #[.string key, .int .i64 eo, .int .i64 et, .bool ed, .int .i64 ep, .int .i64 el] 33)))
      have G : Hid (∀ k, g = some k → wr.heap.size ≠ k) := fun k hk => by have := S.out.wr.glt hk; omega
      have hpw : (w.heap.size + 1) < wr.heap.size := S.out.wr.lt
      clear S
      have S := S'
      clear S'
      cases ed with
      | false =>
        go_wp2_with (first
          | (go_at_call 47; refine (wUv S.out L.out (by omega) _ (by omega) (by omega)).mono ?_; rintro e wq ⟨rfl, gq, s1, s2, s3, s4⟩; have S' := Lib.hid s1; have L' := Lib.hid s2; have hX' := HX.out.below s1.below (by omega); have hcx' := hX'.cell; have HQ' := Lib.hid (HQ.out.chg s3 (by rintro (e | e); exact absurd e (by omega); exact absurd rfl (G.out _ e.symm))); have hcq' := HQ'.out.cell; have G' : Hid (∀ j, gq = some j → wr.heap.size ≠ j) := (by rcases s4 with s4 | ⟨k', s4, s5⟩; exact fun j hj => G.out j (s4.symm.trans hj); exact fun j hj => (by rw [s4] at hj; cases hj; have := HQ.out.lt; omega)); clear s1 s2 s3 s4 S L HQ G; have HQ := HQ'; have G := G'; clear HQ' G'; have S := S'; have L := L'; clear S' L' hX')
          | (go_at_call 48; refine (wTx S.out L.out (by omega) key 64 t2 (by omega)).mono ?_; rintro e wq ⟨rfl, gq, s1, s2, s3, s4⟩; have S' := Lib.hid s1; have L' := Lib.hid s2; have hX' := HX.out.below s1.below (by omega); have hcx' := hX'.cell; have HQ' := Lib.hid (HQ.out.chg s3 (by rintro (e | e); exact absurd e (by omega); exact absurd rfl (G.out _ e.symm))); have hcq' := HQ'.out.cell; clear s1 s2 s3 s4 S L HQ G; have S := S'; have L := L'; clear S' L' hX'))
        go_quiet (fail)
        go_wp2
        go_roundw
        case rel => exact ⟨k + 1, _, _, by omega, by go_num, by rw [Hen.out.1], by rw [Hen.out.2], S.out.on (below_drewN (Below.refl _ _) _), by have := L.out; omega, by rw [Hl.out, Hbs.out]; simp [entB, longOf]⟩
        case measure => simp [intOf]; omega
      | true =>
        go_wp2_with (first
          | (go_at_call 47; refine (wUv S.out L.out (by omega) _ (by omega) (by omega)).mono ?_; rintro e wq ⟨rfl, gq, s1, s2, s3, s4⟩; have S' := Lib.hid s1; have L' := Lib.hid s2; have hX' := HX.out.below s1.below (by omega); have hcx' := hX'.cell; have HQ' := Lib.hid (HQ.out.chg s3 (by rintro (e | e); exact absurd e (by omega); exact absurd rfl (G.out _ e.symm))); have hcq' := HQ'.out.cell; have G' : Hid (∀ j, gq = some j → wr.heap.size ≠ j) := (by rcases s4 with s4 | ⟨k', s4, s5⟩; exact fun j hj => G.out j (s4.symm.trans hj); exact fun j hj => (by rw [s4] at hj; cases hj; have := HQ.out.lt; omega)); clear s1 s2 s3 s4 S L HQ G; have HQ := HQ'; have G := G'; clear HQ' G'; have S := S'; have L := L'; clear S' L' hX')
          | (go_at_call 48; refine (wTx S.out L.out (by omega) key 64 t2 (by omega)).mono ?_; rintro e wq ⟨rfl, gq, s1, s2, s3, s4⟩; have S' := Lib.hid s1; have L' := Lib.hid s2; have hX' := HX.out.below s1.below (by omega); have hcx' := hX'.cell; have HQ' := Lib.hid (HQ.out.chg s3 (by rintro (e | e); exact absurd e (by omega); exact absurd rfl (G.out _ e.symm))); have hcq' := HQ'.out.cell; clear s1 s2 s3 s4 S L HQ G; have S := S'; have L := L'; clear S' L' hX'))
        go_quiet (fail)
        go_wp2
        go_roundw
        case rel => exact ⟨k + 1, _, _, by omega, by go_num, by rw [Hen.out.1], by rw [Hen.out.2], S.out.on (below_drewN (Below.refl _ _) _), by have := L.out; omega, by rw [Hl.out, Hbs.out]; simp [entB, longOf]⟩
        case measure => simp [intOf]; omega
    · have hke : k = l.length := by omega
      subst hke
      have Hbl := Lib.hid (show b.length = (bodyH seg size l).length by rw [Hl.out]; rfl)
      have hbl : (bodyH seg size l).length ≤ 1000000 := by have := L.out; rw [← Hbl.out]; omega
      go_wp2_with (first
        | (go_at_call 26; refine (wBytesL _ _ _ (bodyH seg size l) (bodyH seg size l).length _ S.out.wr Hl.out rfl (by omega)).mono ?_; rintro e w5 ⟨b5, cap5, rfl, hown, hb5⟩; have S5 := Lib.hid (S.out.on hb5); have O5 := Lib.hid hown; clear hown hb5))
      go_ret
      exact ⟨b5, cap5, rfl, hbl, ownsRow_le O5.out (Nat.le_trans Hb0.out.size S.out.below.size), Hb0.out.trans (S5.out.below.mono (by omega))⟩
end Go.Proofs.Ytifimeohdgnehaa
