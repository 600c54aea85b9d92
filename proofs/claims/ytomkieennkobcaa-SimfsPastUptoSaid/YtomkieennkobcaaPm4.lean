import Derived.Test.YtomkieennkobcaaPm3
import Derived.Test.YtomkieennkobcaaSm30
import Derived.Test.YtomkieennkobcaaPm2
import Derived.Test.YtomkieennkobcaaSm29
import Derived.Test.YtomkieennkobcaaSq1
/- SimfsPast: was over what is written down; the last that leads. -/
namespace Go.Proofs.Ytomkieennkobcaa
open Go.RowKit Go.Maps

def lastV (n : ByteArray) (l : List KE) : Int := l.foldl (fun a p => if p.1 = n then (p.2 : Nat) else a) (-1)
theorem lastV_snoc (n : ByteArray) (l : List KE) (p : KE) : lastV n (l ++ [p]) = if p.1 = n then ((p.2 : Nat) : Int) else lastV n l := by
  unfold lastV
  rw [List.foldl_append]
  rfl
theorem lastV_take {n : ByteArray} {l : List KE} {k : Nat} {p : KE} (hp : l[k]? = some p) : lastV n (l.take (k + 1)) = if p.1 = n then ((p.2 : Nat) : Int) else lastV n (l.take k) := by
  rw [List.take_add_one, hp]
  exact lastV_snoc n (l.take k) p
theorem lastV_is (n : ByteArray) (l : List KE) : ∀ k, k ≤ l.length → (lastV n (l.take k) = -1 ∧ ∀ p ∈ l.take k, p.1 ≠ n) ∨ ∃ p ∈ l.take k, p.1 = n ∧ lastV n (l.take k) = (p.2 : Nat)
  | 0, _ => .inl ⟨rfl, fun p hp => by simp at hp⟩
  | k + 1, h => by
    have hk : k < l.length := by omega
    have hp : l[k]? = some l[k] := List.getElem?_eq_getElem hk
    rw [lastV_take hp]
    have hm : l.take (k + 1) = l.take k ++ [l[k]] := by rw [List.take_add_one, hp]; rfl
    rw [hm]
    by_cases hx : l[k].1 = n
    · rw [if_pos hx]
      exact .inr ⟨l[k], List.mem_append_right _ (List.mem_singleton_self _), hx, rfl⟩
    · rw [if_neg hx]
      rcases lastV_is n l k (by omega) with ⟨h1, h2⟩ | ⟨p, h1, h2, h3⟩
      · refine .inl ⟨h1, fun p hp => ?_⟩
        rcases List.mem_append.1 hp with h | h
        · exact h2 p h
        · simp at h
          subst h
          exact hx
      · exact .inr ⟨p, List.mem_append_left _ h1, h2, h3⟩
theorem lead_mem {n : ByteArray} {l : List KE} {f : Nat} (h : leadP n l = some f) : ∃ p ∈ l, p.1 = n ∧ p.2 = f := by
  unfold leadP at h
  cases hf : l.find? fun p => decide (p.1 = n) with
  | none => rw [hf] at h; cases h
  | some p =>
    rw [hf] at h
    have h1 := List.find?_some hf
    simp at h1 h
    exact ⟨p, List.mem_of_find?_eq_some hf, h1, h⟩
/-- What fits asks at place j. -/
def FitAt (fs : VS) (gs : GS) (l : List KE) (im : List (ByteArray × List UInt8)) (j : Nat) : Prop :=
  ∃ (p : ByteArray × List UInt8) (f : Nat) (vs : List (List UInt8)) (g : List Int), im[j]? = some p ∧ leadP p.1 l = some f ∧ fs[f]? = some vs ∧ gs[f]? = some g ∧ Was vs g p.2 ∧ ∀ (i : Nat) (q : ByteArray × List UInt8), j = i + 1 → im[i]? = some q → kc q.1 p.1 = -1
theorem Fits.at_ {fs : VS} {gs : GS} {l : List KE} {im : List (ByteArray × List UInt8)} (h : Fits fs gs l im) {j : Nat} (hj : j < im.length) : FitAt fs gs l im j := by
  obtain ⟨_, h2, h3⟩ := h
  obtain ⟨f, vs, g, e1, e2, e3, e4⟩ := h2 j _ (List.getElem?_eq_getElem hj)
  refine ⟨_, f, vs, g, List.getElem?_eq_getElem hj, e1, e2, e3, e4, fun i q hi hq => ?_⟩
  subst hi
  obtain ⟨hil, rfl⟩ := List.getElem?_eq_some_iff.1 hq
  exact List.pairwise_iff_getElem.1 h3 i (i + 1) hil hj (by omega)
/-- A yes or no that is yes where p. -/
def Says (e : Ending) (p : Prop) : Prop := ∃ bb : Bool, e = .returned (.bool bb) ∧ (p → bb = true)
/-- What the rows are. -/
structure Wide (fs : VS) (gs : GS) : Prop where
  len : gs.length = fs.length
  few : fs.length ≤ 999999999999
  row : ∀ (i : Nat) (vs : List (List UInt8)) (g : List Int), fs[i]? = some vs → gs[i]? = some g → vs.length = g.length ∧ vs.length ≤ 999999999999 ∧ ∀ x ∈ vs, x.length ≤ 1073741824
section
variable {w : World} {L : Nat → Nat} {pp f nb cb : Nat} {vF vG vD : Value} {uF uG uD : List Value} {fs : VS} {gs : GS} {ds : List (List KE)} {vs : List (List UInt8)} {gv : List Int} {A : Option Addr} {b : List UInt8}
theorem was_ps (h : PsM w L pp vF uF vG uG vD uD fs gs ds) (hW : Wide fs gs) (hv : fs[f]? = some vs) (hg : gs[f]? = some gv) (hb : b.length = nb) (hR : Rd w w.heap.size A (bv b)) (hnb : nb ≤ 140737488351232) :
    Calls Try.prog 62 #[.pointer (some ⟨pp, 0, none⟩), .int .i64 f, .slice A nb cb] w fun e w' => e = .returned (.bool (wasB vs gv b)) ∧ ∃ k, w' = w.drewN k := by
  obtain ⟨h1, h2, h3⟩ := hW.row f vs gv hv hg
  have hfl := (List.getElem?_eq_some_iff.1 hv).1
  have hgl := (List.getElem?_eq_some_iff.1 hg).1
  obtain ⟨gF, cF, hvF, _, _, _⟩ := Own.of_row h.F.r (by omega)
  obtain ⟨gG, cG, hvG, _, _, _⟩ := Own.of_row h.G.r (by omega)
  have hul : uF.length = fs.length := by have := h.F.r.1; simpa using this
  have hugl : uG.length = gs.length := by have := h.G.r.1; simpa using this
  obtain ⟨u, hu⟩ : ∃ u, uF[f]? = some u := ⟨_, List.getElem?_eq_getElem (by omega)⟩
  obtain ⟨ug, hug⟩ : ∃ u, uG[f]? = some u := ⟨_, List.getElem?_eq_getElem (by omega)⟩
  obtain ⟨us, r1, r2, r3⟩ := h.F.f f vs u hv hu
  obtain ⟨q1, q2⟩ := h.G.f f gv ug hg hug
  obtain ⟨VA, cv, rfl⟩ := row_slice r1
  obtain ⟨GA, cg, rfl⟩ := row_slice q1
  have hF := h.F.r
  have hG := h.G.r
  rw [hvF] at hF
  rw [hvG] at hG
  refine was_any pp f fs.length cF gs.length cG ⟨gF, 0, none⟩ ⟨gG, 0, none⟩ VA GA vs.length cv gv.length cg vs gv A nb cb b w (by rw [← hvF]; exact h.box.cell 0) (by rw [← hvG]; exact h.box.cell 1) hfl hgl (by rw [add_zero_]; exact (row_at hF hu).1) (by rw [add_zero_]; exact (row_at hG hug).1) rfl rfl h1.symm (fun i x hx => ?_) (row_rd q1) hb hR h2 hnb (fun x hx => Nat.le_trans (h3 x hx) (by decide))
  have hsl : us.length = vs.length := by have := r1.1; simpa using this
  obtain ⟨v, hv2⟩ : ∃ v, us[i]? = some v := ⟨_, List.getElem?_eq_getElem (by have := (List.getElem?_eq_some_iff.1 hx).1; omega)⟩
  obtain ⟨ad, rfl, had, hc⟩ := row_rd r1 i v hv2
  obtain ⟨k1, k2⟩ := r3 i x v hx hv2
  obtain ⟨ax, cx, rfl⟩ := row_slice k1
  exact ⟨ad, ax, cx, rfl, had, hc, row_rd k1, row_cap k1⟩
end
end Go.Proofs.Ytomkieennkobcaa
/- SimfsPast: fits. -/
namespace Go.Proofs.Ytomkieennkobcaa
open Go.RowKit Go.Maps

set_option maxRecDepth 100000 in
set_option maxHeartbeats 16000000 in
theorem fits_any (pp : Nat) (L : Nat → Nat) (vF vG vD : Value) (uF uG uD : List Value) (fs : VS) (gs : GS) (ds : List (List KE)) (l : List KE) (A AI : Option Addr) (n c ni ci : Nat) (im : List (ByteArray × List UInt8)) (w : World) (h : PsM w L pp vF uF vG uG vD uD fs gs ds) (hW : Wide fs gs) (hl : l.length = n) (hN : RdN w w.heap.size A l) (hn : im.length = ni) (hI : IM w w.heap.size AI im)
    (hnd : ∀ p ∈ l, ∀ q ∈ l, p.1 = q.1 → p.2 = q.2) (hid : ∀ p ∈ l, p.2 < fs.length) (hib : ∀ p ∈ im, p.2.length ≤ 140737488351232) (hnm : n ≤ 999999999999) (hnim : ni ≤ 999999999999) :
    Calls Try.prog 57 #[.pointer (some ⟨pp, 0, none⟩), .slice A n c, .slice AI ni ci] w fun e w' => Says e (Fits fs gs l im) ∧ ∃ k, w' = w.drewN k := by
  have H := Lib.hid (And.intro h (And.intro hW (And.intro hl (And.intro hN (And.intro hn (And.intro hI (And.intro hnd (And.intro hid hib))))))))
  clear h hW hl hN hn hI hnd hid hib
  go_enter Try.func57, Try.ntmps57
  by_cases hne : n = ni
  · subst hne
    go_wp2
    go_loopw [7] (fun v7 wr => ∃ (j q : Nat), j ≤ n ∧ v7 = .int .i64 j ∧ wr = w.drewN q) (fun v7 _ => n - (intOf v7).toNat)
    case atStart => exact ⟨0, 0, Nat.zero_le _, rfl, rfl⟩
    case round =>
      obtain ⟨j, q, hj, rfl, hw⟩ := hrel
      by_cases hlt : j < n
      · have hj0 : (0 : Int) ≤ j := by omega
        have hj1 : (j : Int) < n := by omega
        obtain ⟨p, hp⟩ : ∃ p, im[j]? = some p := ⟨_, List.getElem?_eq_getElem (by rw [H.out.2.2.2.2.1]; exact hlt)⟩
        have HW := Lib.hid hw
        have hIr : IM wr w.heap.size AI im := by rw [hw]; exact H.out.2.2.2.2.2.1.drewN q
        have hNr : RdN wr w.heap.size A l := by rw [hw]; exact H.out.2.2.2.1
        obtain ⟨ai, xi, cxi, rfl, hai, b0, b1, hRx⟩ := H.out.2.2.2.2.2.1 j p hp
        obtain ⟨pl, hpl⟩ : ∃ m, p.2.length = m := ⟨_, rfl⟩
        rw [hpl] at b1
        have hplm : pl ≤ 140737488351232 := by rw [← hpl]; exact H.out.2.2.2.2.2.2.2.2 p (List.mem_of_getElem? hp)
        have HP := Lib.hid (And.intro hp (And.intro hRx (And.intro hpl (And.intro b0 b1))))
        clear hw hp hIr hNr hRx hpl hai b0 b1
        go_upto_region 8 with fail
        go_loopw [8, 9] (fun v8 v9 wx => ∃ (k q : Nat), k ≤ n ∧ v9 = .int .i64 k ∧ wx = w.drewN q ∧ v8 = .int .i64 (lastV p.1 (l.take k))) (fun _ v9 _ => n - (intOf v9).toNat)
        case atStart => exact ⟨0, q, Nat.zero_le _, rfl, HW.out, rfl⟩
        case round =>
          obtain ⟨k, q2, hk, rfl, hw2, rfl⟩ := hrel
          obtain ⟨V, hV⟩ : ∃ V, lastV p.1 (l.take k) = V := ⟨_, rfl⟩
          have b0 : wr.cell? (ai.add (j * 2)) = some (.string p.1) := by rw [hw2]; exact HP.out.2.2.2.1
          have HW2 := Lib.hid (And.intro hw2 hV)
          rw [hV]
          clear hw2 hV
          by_cases hkn : k < n
          · have hk0 : (0 : Int) ≤ k := by omega
            have hk1 : (k : Int) < n := by omega
            obtain ⟨r, hr⟩ : ∃ r, l[k]? = some r := ⟨_, List.getElem?_eq_getElem (by rw [H.out.2.2.1]; exact hkn)⟩
            obtain ⟨al, rfl, hal, d0, d1⟩ := H.out.2.2.2.1 k r hr
            have e0 : wr.cell? (al.add (k * 2)) = some (.string r.1) := by rw [HW2.out.1]; exact d0
            have e1 : wr.cell? ⟨(al.add (k * 2)).block, (al.add (k * 2)).off + 1, none⟩ = some (.int .i64 (r.2 : Nat)) := by rw [HW2.out.1]; exact d1
            have HR := Lib.hid (And.intro hr (lastV_take (n := p.1) hr))
            clear hr hal d0 d1
            go_upto_region 10 with fail
            by_cases hx : r.1 = p.1
            · have hself : (r.1.toList == p.1.toList) = true := by rw [hx]; simp
              have HX := Lib.hid hx
              clear hx
              go_quiet (fail)
              generalize hw9 : wr.drewN _ = w9
              have e2 : w9.cell? ⟨(al.add (k * 2)).block, (al.add (k * 2)).off + 1, none⟩ = some (.int .i64 (r.2 : Nat)) := by rw [← hw9]; exact e1
              have HW9 := Lib.hid (show ∃ q, w9 = w.drewN q from ⟨_, by rw [← hw9, HW2.out.1]; first | rfl | exact World.drewN_drewN ..⟩)
              clear hw9 e0 e1 b0
              go_wp2
              go_roundw
              case rel =>
                obtain ⟨q9, hq9⟩ := HW9.out
                exact ⟨k + 1, q9, by omega, by go_num, hq9, by rw [HR.out.2, if_pos HX.out]⟩
              case measure => simp [intOf]; omega
            · have hne := key_ne hx
              have HX := Lib.hid hx
              clear hx
              go_quiet (fail)
              generalize hw9 : wr.drewN _ = w9
              have HW9 := Lib.hid (show ∃ q, w9 = w.drewN q from ⟨_, by rw [← hw9, HW2.out.1]; first | rfl | exact World.drewN_drewN ..⟩)
              clear hw9 e0 e1 b0
              go_wp2
              go_roundw
              case rel =>
                obtain ⟨q9, hq9⟩ := HW9.out
                exact ⟨k + 1, q9, by omega, by go_num, hq9, by rw [HR.out.2, if_neg HX.out, HW2.out.2]⟩
              case measure => simp [intOf]; omega
          · have hkm : n = k := by omega
            subst hkm
            have hlk : l.take n = l := by rw [← H.out.2.2.1]; exact List.take_length
            have HV := Lib.hid (show lastV p.1 l = V by rw [← HW2.out.2, hlk])
            have hc := lastV_is p.1 l l.length (Nat.le_refl _)
            rw [List.take_length, HV.out] at hc
            go_upto_region 12 with fail
            rcases hc with ⟨hc1, hc2⟩ | ⟨r, hr1, hr2, hr3⟩
            · subst hc1
              have HC := Lib.hid hc2
              clear hc2
              go_quiet (fail)
              generalize hw9 : wr.drewN _ = w9
              have HW9 := Lib.hid (show ∃ q, w9 = w.drewN q from ⟨_, by rw [← hw9, HW2.out.1]; first | rfl | exact World.drewN_drewN ..⟩)
              clear hw9
              go_wp2
              go_ret
              refine ⟨⟨false, rfl, fun hF => ?_⟩, HW9.out⟩
              obtain ⟨p', f, vs, g, g1, g2, _⟩ := hF.at_ (by rw [H.out.2.2.2.2.1]; exact hlt)
              rw [HP.out.1] at g1
              injection g1 with g1
              subst g1
              obtain ⟨r, hr1, hr2, _⟩ := lead_mem g2
              exact absurd hr2 (HC.out r hr1)
            · obtain ⟨f, hf⟩ : ∃ f, r.2 = f := ⟨_, rfl⟩
              rw [hf] at hr3
              subst hr3
              have hff : f < fs.length := by rw [← hf]; exact H.out.2.2.2.2.2.2.2.1 r hr1
              obtain ⟨vs, hvs⟩ : ∃ vs, fs[f]? = some vs := ⟨_, List.getElem?_eq_getElem hff⟩
              obtain ⟨gv, hgv⟩ : ∃ g, gs[f]? = some g := ⟨_, List.getElem?_eq_getElem (by rw [H.out.2.1.len]; exact hff)⟩
              have hF : ∀ (p' : ByteArray × List UInt8) (f' : Nat), im[j]? = some p' → leadP p'.1 l = some f' → f' = f := fun p' f' h1 h2 => by
                rw [HP.out.1] at h1
                injection h1 with h1
                subst h1
                obtain ⟨r', k1, k2, k3⟩ := lead_mem h2
                rw [← k3, ← hf]
                exact H.out.2.2.2.2.2.2.1 r' k1 r hr1 (k2.trans hr2.symm)
              have hf0 : ¬ ((f : Int) < 0) := by omega
              have b1 : wr.cell? ⟨(ai.add (j * 2)).block, (ai.add (j * 2)).off + 1, none⟩ = some (.slice xi pl cxi) := by rw [HW2.out.1]; exact HP.out.2.2.2.2
              have HQ : Hid (∀ n, Calls Try.prog 62 #[.pointer (some ⟨pp, 0, none⟩), .int .i64 f, .slice xi pl cxi] (wr.drewN n) fun e w' => e = .returned (.bool (wasB vs gv p.2)) ∧ ∃ k, w' = (wr.drewN n).drewN k) := fun m => was_ps (by rw [HW2.out.1]; exact H.out.1.next (below_drewN (below_drewN (Below.refl _ _) _) _)) H.out.2.1 hvs hgv HP.out.2.2.1 (by rw [HW2.out.1]; exact HP.out.2.1) hplm
              have HF := Lib.hid (And.intro hF (And.intro hvs hgv))
              clear hF hvs hgv hr1 hr2 hf
              cases hB : wasB vs gv p.2 with
              | false =>
                have HB := Lib.hid hB
                rw [hB] at HQ
                clear hB
                go_quiet ((go_at_call 62; exact Calls.quiet_of (HQ.out _)))
                generalize hw9 : wr.drewN _ = w9
                have HW9 := Lib.hid (show ∃ q, w9 = w.drewN q from ⟨_, by rw [← hw9, HW2.out.1]; first | rfl | exact World.drewN_drewN ..⟩)
                clear hw9 b0 b1
                go_wp2
                go_ret
                refine ⟨⟨false, rfl, fun hF => ?_⟩, HW9.out⟩
                obtain ⟨p', f', vs', g', g1, g2, g3, g4, g5, _⟩ := hF.at_ (by rw [H.out.2.2.2.2.1]; exact hlt)
                have h1 := HF.out.1 p' f' g1 g2
                subst h1
                rw [HP.out.1] at g1
                injection g1 with g1
                rw [HF.out.2.1] at g3
                injection g3 with g3
                rw [HF.out.2.2] at g4
                injection g4 with g4
                subst g1 g3 g4
                rw [wasB_yes g5] at HB
                exact absurd HB.out (by decide)
              | true =>
                rw [hB] at HQ
                clear hB
                rcases (show j = 0 ∨ 0 < j by omega) with hj00 | hjp
                · have hj9 : ¬ ((0 : Int) < j) := by omega
                  have hj8 : ¬ (0 < j) := by omega
                  clear hj00
                  go_quiet ((go_at_call 62; exact Calls.quiet_of (HQ.out _)))
                  generalize hw9 : wr.drewN _ = w9
                  have HW9 := Lib.hid (show ∃ q, w9 = w.drewN q from ⟨_, by rw [← hw9, HW2.out.1]; first | rfl | exact World.drewN_drewN ..⟩)
                  clear hw9 b0 b1
                  go_wp2
                  go_roundw
                  case rel =>
                    obtain ⟨q9, hq9⟩ := HW9.out
                    exact ⟨j + 1, q9, by omega, by go_num, hq9⟩
                  case measure => simp [intOf]; omega
                · obtain ⟨i, hi⟩ : ∃ i, j = i + 1 := ⟨j - 1, by omega⟩
                  obtain ⟨o, ho⟩ : ∃ o, im[i]? = some o := ⟨_, List.getElem?_eq_getElem (by rw [H.out.2.2.2.2.1]; omega)⟩
                  obtain ⟨ai2, _, _, ea, _, f0, _, _⟩ := H.out.2.2.2.2.2.1 i o ho
                  cases ea
                  have hji : (j : Int) - 1 = (i : Int) := by omega
                  have hwr : IntKind.i64.wrap ((j : Int) - 1) = (i : Int) := by rw [hji]; exact IntWalk.i64_in _ (by omega)
                  have hwi : IntKind.i64.wrap (i : Int) = (i : Int) := IntWalk.i64_in _ (by omega)
                  have hi0 : (0 : Int) ≤ i := by omega
                  have hi1 : (i : Int) < n := by omega
                  have hj9 : (0 : Int) < j := by omega
                  have f1 : wr.cell? (ai.add (i * 2)) = some (.string o.1) := by rw [HW2.out.1]; exact f0
                  have HI := Lib.hid (And.intro hi ho)
                  clear hi ho f0
                  cases hbl : Op.bytesLess o.1.toList p.1.toList with
                  | true =>
                    go_quiet ((go_at_call 62; exact Calls.quiet_of (HQ.out _)))
                    generalize hw9 : wr.drewN _ = w9
                    have HW9 := Lib.hid (show ∃ q, w9 = w.drewN q from ⟨_, by rw [← hw9, HW2.out.1]; first | rfl | exact World.drewN_drewN ..⟩)
                    clear hw9 b0 b1 f1
                    go_wp2
                    go_roundw
                    case rel =>
                      obtain ⟨q9, hq9⟩ := HW9.out
                      exact ⟨j + 1, q9, by omega, by go_num, hq9⟩
                    case measure => simp [intOf]; omega
                  | false =>
                    have HBL := Lib.hid hbl
                    go_quiet ((go_at_call 62; exact Calls.quiet_of (HQ.out _)))
                    generalize hw9 : wr.drewN _ = w9
                    have HW9 := Lib.hid (show ∃ q, w9 = w.drewN q from ⟨_, by rw [← hw9, HW2.out.1]; first | rfl | exact World.drewN_drewN ..⟩)
                    clear hw9 b0 b1 f1
                    go_wp2
                    go_ret
                    refine ⟨⟨false, rfl, fun hF => ?_⟩, HW9.out⟩
                    obtain ⟨p', f', vs', g', g1, g2, g3, g4, g5, g6⟩ := hF.at_ (by rw [H.out.2.2.2.2.1]; exact hlt)
                    rw [HP.out.1] at g1
                    injection g1 with g1
                    subst g1
                    have h1 := g6 i o HI.out.1 HI.out.2
                    have h2 := (cmpB_less o.1.data.toList p.1.data.toList).1 h1
                    rw [show Op.bytesLess o.1.data.toList p.1.data.toList = Op.bytesLess o.1.toList p.1.toList by simp [ByteArray.toList_eq]] at h2
                    rw [h2] at HBL
                    exact absurd HBL.out (by decide)
      · go_wp2
        go_ret
        exact ⟨⟨true, rfl, fun _ => rfl⟩, q, rfl⟩
  · have hne2 : ¬ (n : Int) = ni := by omega
    have hne3 : ((n : Int) != ni) = true := by simp; omega
    go_wp2
    go_ret
    exact ⟨⟨false, rfl, fun hF => absurd hF.1 (by rw [H.out.2.2.1, H.out.2.2.2.2.1]; exact hne)⟩, 0, rfl⟩
end Go.Proofs.Ytomkieennkobcaa
/- SimfsPast: known. -/
namespace Go.Proofs.Ytomkieennkobcaa
open Go.RowKit Go.Maps

/-- The directories of now and then. -/
def DirsOk (fs : VS) (ds : List (List KE)) : Prop := ∀ l ∈ ds, (∀ p ∈ l, ∀ q ∈ l, p.1 = q.1 → p.2 = q.2) ∧ (∀ p ∈ l, p.2 < fs.length) ∧ l.length ≤ 999999999999
set_option maxRecDepth 100000 in
set_option maxHeartbeats 16000000 in
theorem known_any (pp : Nat) (L : Nat → Nat) (vF vG vD : Value) (uF uG uD : List Value) (fs : VS) (gs : GS) (ds : List (List KE)) (AI : Option Addr) (ni ci : Nat) (im : List (ByteArray × List UInt8)) (w : World) (h : PsM w L pp vF uF vG uG vD uD fs gs ds) (hW : Wide fs gs) (hD : DirsOk fs ds) (hn : im.length = ni) (hI : IM w w.heap.size AI im) (hib : ∀ p ∈ im, p.2.length ≤ 140737488351232) (hmx : ds.length ≤ 999999999999) (hnim : ni ≤ 999999999999) :
    Calls Try.prog 27 #[.pointer (some ⟨pp, 0, none⟩), .slice AI ni ci] w fun e w' => Says e (∃ (k : Nat) (l : List KE), ds[k]? = some l ∧ Fits fs gs l im) ∧ ∃ k, w' = w.drewN k := by
  obtain ⟨D, cD, hvD, hcD, hrD⟩ := h.rdD
  obtain ⟨n, hdn⟩ : ∃ n, ds.length = n := ⟨_, rfl⟩
  rw [hdn] at hvD hmx
  subst hvD
  have H := Lib.hid (And.intro h (And.intro hW (And.intro hD (And.intro hn (And.intro hI (And.intro hib (And.intro hcD (And.intro hrD hdn))))))))
  clear h hW hD hn hI hib hcD hrD hdn
  go_enter Try.func27, Try.ntmps27
  go_wp2
  go_loopw [5] (fun v5 wr => ∃ (j q : Nat), j ≤ n ∧ v5 = .int .i64 j ∧ wr = w.drewN q ∧ ∀ i l, i < j → ds[i]? = some l → ¬ Fits fs gs l im) (fun v5 _ => n - (intOf v5).toNat)
  case atStart => exact ⟨0, 0, Nat.zero_le _, rfl, rfl, fun i l hi => by omega⟩
  case round =>
    obtain ⟨j, q, hj, rfl, hw, hpre⟩ := hrel
    have c0 : wr.cell? ⟨pp, 2, none⟩ = some (.slice D n cD) := by rw [hw]; exact H.out.2.2.2.2.2.2.1
    have HW := Lib.hid (And.intro hw hpre)
    clear hw hpre
    by_cases hlt : j < n
    · have hj0 : (0 : Int) ≤ j := by omega
      have hj1 : (j : Int) < n := by omega
      obtain ⟨l, hl⟩ : ∃ l, ds[j]? = some l := ⟨_, List.getElem?_eq_getElem (by rw [H.out.2.2.2.2.2.2.2.2]; exact hlt)⟩
      obtain ⟨ad, x, cx, rfl, _, hc, hN⟩ := H.out.2.2.2.2.2.2.2.1 j l hl
      obtain ⟨h1, h2, h3⟩ := H.out.2.2.1 l (List.mem_of_getElem? hl)
      have c1 : wr.cell? (ad.add j) = some (.slice x l.length cx) := by rw [HW.out.1]; exact hc
      have HL := Lib.hid (And.intro hl (And.intro hN (And.intro h1 (And.intro h2 h3))))
      clear hl hN h1 h2 h3 hc
      go_wp2_with (first
        | (go_at_call 57
           refine (fits_any pp L _ _ _ _ _ _ fs gs ds l x AI l.length cx ni ci im wr (by rw [HW.out.1]; exact H.out.1.next (below_drewN (Below.refl _ _) _)) H.out.2.1 rfl (by rw [HW.out.1]; exact HL.out.2.1) H.out.2.2.2.1 (by rw [HW.out.1]; exact H.out.2.2.2.2.1) HL.out.2.2.1 HL.out.2.2.2.1 H.out.2.2.2.2.2.1 HL.out.2.2.2.2 hnim).mono ?_
           rintro e wf ⟨⟨bb, rfl, hbb⟩, kf, hwf⟩
           have HB := Lib.hid hbb
           have HF := Lib.hid (show ∃ q, wf = w.drewN q from ⟨_, by rw [hwf, HW.out.1]; first | rfl | exact World.drewN_drewN ..⟩)
           clear hbb hwf c0 c1
           cases bb))
      · go_roundw
        case rel =>
          obtain ⟨q2, hq2⟩ := HF.out
          refine ⟨j + 1, q2, by omega, by go_num, hq2, fun i l' hi hl' => ?_⟩
          rcases Nat.lt_or_ge i j with h | h
          · exact HW.out.2 i l' h hl'
          · obtain rfl : i = j := by omega
            rw [HL.out.1] at hl'
            injection hl' with hl'
            subst hl'
            exact fun hF => absurd (HB.out hF) (by decide)
        case measure => simp [intOf]; omega
      · go_ret
        exact ⟨⟨true, rfl, fun _ => rfl⟩, HF.out⟩
    · have hjn : j = n := by omega
      go_wp2
      go_ret
      refine ⟨⟨false, rfl, fun ⟨k, l, hl, hF⟩ => ?_⟩, q, HW.out.1⟩
      exact absurd hF (HW.out.2 k l (by have := (List.getElem?_eq_some_iff.1 hl).1; have := H.out.2.2.2.2.2.2.2.2; omega) hl)
end Go.Proofs.Ytomkieennkobcaa
/- SimfsPast: note, of every change that was answered OK. -/
namespace Go.Proofs.Ytomkieennkobcaa
open Go.RowKit Go.Maps

theorem act_files {st : SC} {s : Dk} : (chS st s).files.length ≤ s.files.length + 1 := by
  rw [chS_form]
  have hs : (spendS s).files = s.files := by unfold spendS; split <;> (try split) <;> rfl
  split
  · omega
  · split
    · rw [hs]; omega
    · unfold actS Dk.addC Dk.setF
      split
      · simp only [List.length_append, List.length_singleton]; omega
      · split
        · simp only [List.length_set, hs]; omega
        · split
          · simp only [List.length_set, hs]; omega
          · split
            · simp only [List.length_set, hs]; omega
            · split
              · simp only [hs]; omega
              · split
                · simp only [hs]; omega
                · simp only [hs]; omega
theorem seen_small {s : Dk} {N : Nat} (h : s.Inv N) (k : Nat) : (s.fl k).seen.length ≤ 1073741824 := by
  have := short_fl h k (s.fl k).chs.length
  rw [List.take_length] at this
  exact this
theorem chs_few {s : Dk} {N : Nat} (h : s.Inv N) (k : Nat) : (s.fl k).chs.length ≤ N := by
  by_cases hk : k < s.files.length
  · exact h.sz.f _ (fl_mem hk)
  · have e : s.fl k = Fl.new := by unfold Dk.fl; rw [List.getD_eq_getElem?_getD, List.getElem?_eq_none (by omega)]; rfl
    rw [e]
    exact Nat.zero_le _
theorem PR.wide {fs : VS} {gs : GS} {ds : List (List KE)} {s : Dk} {N : Nat} (h : PR fs gs ds s) (hi : s.Inv N) (hN : N ≤ 999999999990) (hfl : s.files.length ≤ N) : Wide fs gs := by
  refine ⟨by rw [h.hf, h.hg, List.length_map, List.length_map], by rw [h.hf, List.length_map]; omega, fun i vs g hv hg => ?_⟩
  have hil : i < s.files.length := by have := (List.getElem?_eq_some_iff.1 hv).1; rwa [h.hf, List.length_map] at this
  obtain ⟨e1, e2⟩ := pr_get h hil
  rw [e1] at hv
  rw [e2] at hg
  injection hv with hv
  injection hg with hg
  subst hv hg
  refine ⟨by rw [vers_len]; simp [grow], by rw [vers_len]; have := chs_few hi i; omega, fun x hx => ?_⟩
  obtain ⟨j, hj, rfl⟩ := List.getElem_of_mem hx
  have hjl : j ≤ (s.fl i).chs.length := by rw [vers_len] at hj; omega
  have e := vers_get (s.fl i) hjl
  rw [List.getElem?_eq_getElem hj] at e
  injection e with e
  rw [e]
  exact short_fl hi i j
theorem PR.dirs {fs : VS} {gs : GS} {ds : List (List KE)} {s : Dk} {N : Nat} (h : PR fs gs ds s) (hi : s.Inv N) (hN : N ≤ 999999999990) : DirsOk fs ds ∧ ds.length ≤ 999999999999 := by
  refine ⟨fun l hl => ?_, by rw [h.len]; have := hi.sz.d; omega⟩
  obtain ⟨i, hil, rfl⟩ := List.getElem_of_mem hl
  have hp := h.hd i _ (List.getElem?_eq_getElem hil)
  have hsd : Sorted (dirAt s i) := Sorted.fold hi.ok.sorted
  have hid : ∀ p ∈ dirAt s i, p.2 < s.files.length := ids_fold hi.ids (fun m f hf => hi.dids m f (List.mem_of_mem_take hf)) hi.ok.sorted (okD_take _ hi.ok.okd)
  refine ⟨fun p h1 q h2 e => ?_, fun p h1 => by rw [h.hf, List.length_map]; exact hid p (hp.mem_iff.1 h1), ?_⟩
  · have g1 := (get_mem hsd).2 (hp.mem_iff.1 h1)
    have g2 := (get_mem hsd).2 (hp.mem_iff.1 h2)
    rw [e, g2] at g1
    injection g1 with g1
    exact g1.symm
  · rw [hp.length_eq]
    have h1 := fold_len (s.dchs.take i) s.safe
    have h2 := hi.sz.d
    rw [List.length_take] at h1
    unfold dirAt
    omega
theorem note_any (k x y : Int) (nm nt : ByteArray) (A A2 : Option Addr) (bs : List UInt8) (ps : List Int) (nb np c c2 : Nat) (pp : Nat) (L : Nat → Nat) (fs : VS) (gs : GS) (ds : List (List KE)) (s : Dk) (N : Nat) (w : World) (h : PS w L pp fs gs ds) (hP : PR fs gs ds s) (hi : s.Inv N) (hl : s.Lives) (hN : N ≤ 999999999990) (hfl : s.files.length ≤ N) (hA : Rd w w.heap.size A (bv bs)) (hbs : bs.length = nb) (hnb : nb ≤ 140737488351232 - 1073741824) (hk : 1 ≤ k ∧ k ≤ 7) (hE : chE ⟨k, nm, nt, x, y, A, bs, c, A2, ps, c2⟩ s = 0) :
    Calls Try.prog 28 #[.pointer (some ⟨pp, 0, none⟩), .agg #[.int .i64 k, .string nm, .string nt, .int .i64 x, .int .i64 y, .slice A nb c, .slice A2 np c2]] w fun e w' => e = .returned (.bool true) ∧ ∃ L' fs' gs' ds', PS w' L' pp fs' gs' ds' ∧ PR fs' gs' ds' (chS ⟨k, nm, nt, x, y, A, bs, c, A2, ps, c2⟩ s) ∧ Ex w w' L L' := by
  obtain ⟨vF, uF, vG, uG, vD, uD, hM⟩ := h
  have hdl := (hP.dirs hi hN).2
  obtain ⟨l, hll⟩ : ∃ l, ds[ds.length - 1]? = some l := ⟨_, List.getElem?_eq_getElem (by have := hP.len; omega)⟩
  have hp := hP.last hll
  have hlm : l.length ≤ 999999999999 := ((hP.dirs hi hN).1 l (List.mem_of_getElem? hll)).2.2
  have hfs : fs.length ≤ 999999999990 := by rw [hP.hf, List.length_map]; omega
  have hgs : gs.length ≤ 999999999990 := by rw [hP.hg, List.length_map]; omega
  have hpost : ∀ (fs' : VS) (gs' : GS) (ds' : List (List KE)), PR fs' gs' ds' (chS ⟨k, nm, nt, x, y, A, bs, c, A2, ps, c2⟩ s) → ∀ (e : Ending) (w' : World), e = .returned (.bool true) ∧ Noted w w' L pp fs' gs' ds' → e = .returned (.bool true) ∧ ∃ L' fs' gs' ds', PS w' L' pp fs' gs' ds' ∧ PR fs' gs' ds' (chS ⟨k, nm, nt, x, y, A, bs, c, A2, ps, c2⟩ s) ∧ Ex w w' L L' := by
    rintro fs' gs' ds' hR e w' ⟨h1, L', h2, h3⟩
    exact ⟨h1, L', fs', gs', ds', h2, hR, h3⟩
  by_cases h1 : k = 1
  · subst h1
    obtain ⟨g1, g2⟩ := note_1 hP hi hl hp hE rfl
    exact (note1_any pp L vF vG vD uF uG uD fs gs ds l nm nt x y A A2 nb c np c2 w hM hll hdl hlm g1 (by omega) (by omega)).mono (hpost _ _ _ g2)
  · by_cases h5 : k = 5
    · subst h5
      have g := note_5 (st := ⟨5, nm, nt, x, y, A, bs, c, A2, ps, c2⟩) hP hl hp hE rfl
      exact (note5_any pp L vF vG vD uF uG uD fs gs ds l nm nt x y A A2 nb c np c2 w hM hll hdl).mono (hpost _ _ _ g)
    · obtain ⟨g1, g2, g3⟩ := note_f hP hi hl hp hE h1 h5
      simp only at g1 g2 g3
      have hnl := vers_last (s.fl (s.num nm))
      have hvl : (vers (s.fl (s.num nm))).length ≤ 999999999999 := by rw [vers_len]; have := chs_few hi (s.num nm); omega
      have hgl : (grow (s.fl (s.num nm))).length ≤ 999999999999 := by have := chs_few hi (s.num nm); simp [grow]; omega
      have hsh := seen_small hi (s.num nm)
      have hfm : s.num nm ≤ 999999999999 := by have := (List.getElem?_eq_some_iff.1 g2).1; omega
      by_cases h2 : k = 2
      · subst h2
        have g := note_2 (st := ⟨2, nm, nt, x, y, A, bs, c, A2, ps, c2⟩) hP hl hE rfl
        simp only at g
        rw [hbs] at g
        exact (note2_any pp L vF vG vD uF uG uD fs gs ds l nm nt x y A A2 nb c np c2 w hM hll hdl hlm (s.num nm) _ _ _ g1 g2 hnl g3 hfm hvl hgl hsh bs hA hbs hnb).mono (hpost _ _ _ g)
      · by_cases h3 : k = 3
        · subst h3
          obtain ⟨⟨q0, q1⟩, g⟩ := note_3 (st := ⟨3, nm, nt, x, y, A, bs, c, A2, ps, c2⟩) hP hl hE rfl
          simp only at q0 q1 g
          obtain ⟨q, hq⟩ : ∃ q : Nat, y = q := ⟨y.toNat, by omega⟩
          subst hq
          exact (note3_any pp L vF vG vD uF uG uD fs gs ds l nm nt x A A2 nb c np c2 q w hM hll hdl hlm (s.num nm) _ _ _ g1 g2 hnl g3 hfm hvl hgl hsh (by omega)).mono (hpost _ _ _ g)
        · by_cases h4 : k = 4
          · subst h4
            have g := note_4 (st := ⟨4, nm, nt, x, y, A, bs, c, A2, ps, c2⟩) hP hl hE rfl
            exact (note4_any pp L vF vG vD uF uG uD fs gs ds l nm nt x y A A2 nb c np c2 w hM hll hdl hlm (s.num nm) _ _ _ g1 g2 hnl g3 hfm hvl).mono (hpost _ _ _ g)
          · by_cases h6 : k = 6
            · subst h6
              have g := note_6 (st := ⟨6, nm, nt, x, y, A, bs, c, A2, ps, c2⟩) hP hi hl hp hE rfl
              exact (note6_any pp L vF vG vD uF uG uD fs gs ds l nm nt x y A A2 nb c np c2 w hM hll hdl hlm (s.num nm) _ _ g1 g2 hnl hfm hvl).mono (hpost _ _ _ g)
            · obtain rfl : k = 7 := by omega
              have g := note_7 (st := ⟨7, nm, nt, x, y, A, bs, c, A2, ps, c2⟩) hP hi hl hp hE rfl
              exact (note7_any pp L vF vG vD uF uG uD fs gs ds l nm nt x y A A2 nb c np c2 w hM hll hdl hlm (s.num nm) _ _ g1 g2 hnl hfm hvl).mono (hpost _ _ _ g)
end Go.Proofs.Ytomkieennkobcaa
/- SimfsPast: past. -/
namespace Go.Proofs.Ytomkieennkobcaa
open Go.RowKit Go.Maps

def L00 (B : Nat) : Nat → Nat := fun b => if b = B then 4 else if b = B + 1 then 1 else 0
theorem past_start (w : World) : PsM ((w.alloc (.cells #[.slice none 0 0] 108)).alloc (.cells #[.slice none 0 0, .slice none 0 0, .slice (some ⟨w.heap.size, 0, none⟩) 1 1] 106)) (L00 w.heap.size) (w.heap.size + 1) (.slice none 0 0) [] (.slice none 0 0) [] (.slice (some ⟨w.heap.size, 0, none⟩) 1 1) [.slice none 0 0] [] [] [[]] := by
  have hs : (w.alloc (.cells #[.slice none 0 0] 108)).heap.size = w.heap.size + 1 := by simp
  refine ⟨?_, ?_, fun b hb => ?_, ⟨nil_own _ _ _ _, fun b hb => by simp [Value.ownBlock] at hb, fun i vs u h => by simp at h⟩, ⟨nil_own _ _ _ _, fun b hb => by simp [Value.ownBlock] at hb, fun i vs u h => by simp at h⟩, ⟨row_zero ((own_one w _ _).alloc _), fun b hb => ?_, fun i l u hl hu => ?_⟩⟩
  · have h := Box.new (w.alloc (.cells #[.slice none 0 0] 108)) 106 #[.slice none 0 0, .slice none 0 0, .slice (some ⟨w.heap.size, 0, none⟩) 1 1]
    rw [hs] at h
    exact h
  · unfold L00
    rw [if_neg (by omega), if_pos rfl]
  · unfold L00 at hb
    simp only [World.alloc, Array.size_push]
    by_cases h1 : b = w.heap.size
    · omega
    · by_cases h2 : b = w.heap.size + 1
      · omega
      · rw [if_neg h1, if_neg h2] at hb
        exact absurd rfl hb
  · simp [Value.ownBlock] at hb
    subst hb
    unfold L00
    rw [if_pos rfl]
  · cases i with
    | zero =>
      simp at hl hu
      subst hl hu
      exact ⟨nil_own _ _ _ _, fun b hb => by simp [Value.ownBlock] at hb⟩
    | succ i => simp at hl
theorem pr_B1 (q : Int) : PR [[[]]] [[-1]] [[], leftP ByteArray.empty [] ++ [(fstN, 0)]] (B1 q) := by
  refine ⟨rfl, rfl, rfl, fun i l hl => ?_⟩
  match i, hl with
  | 0, hl =>
    simp at hl
    subst hl
    exact List.Perm.refl _
  | 1, hl =>
    simp at hl
    subst hl
    exact List.Perm.refl _
  | i + 2, hl => simp at hl
theorem pr_B2 (q : Int) : PR [[[], [7]]] [[-1, 1]] [[], leftP ByteArray.empty [] ++ [(fstN, 0)]] (B2 q) := by
  refine ⟨rfl, rfl, rfl, fun i l hl => ?_⟩
  match i, hl with
  | 0, hl =>
    simp at hl
    subst hl
    exact List.Perm.refl _
  | 1, hl =>
    simp at hl
    subst hl
    exact List.Perm.refl _
  | i + 2, hl => simp at hl
set_option maxRecDepth 100000 in
set_option maxHeartbeats 8000000 in
theorem past_any (q : Int) (W w : World) (S : Nat → Prop) (d N : Nat) (h : Lv W w S d (Dk.begun q) N) :
    Calls Try.prog 26 #[.pointer (some ⟨d, 0, none⟩)] w fun e w' => ∃ pp L fs gs ds, e = .returned (.pointer (some ⟨pp, 0, none⟩)) ∧ PS w' L pp fs gs ds ∧ PR fs gs ds (Dk.begun q) ∧ (∀ b, L b ≠ 0 → w.heap.size ≤ b) ∧ Below w.heap.size w w' := by
  have H := Lib.hid h
  have hM := past_start w
  have hb0 : Below w.heap.size w ((w.alloc (.cells #[.slice none 0 0] 108)).alloc (.cells #[.slice none 0 0, .slice none 0 0, .slice (some ⟨w.heap.size, 0, none⟩) 1 1] 106)) := (Below.al w _).trans ((Below.al _ _).mono (by simp))
  have HM := Lib.hid (And.intro hM hb0)
  clear h hM hb0
  go_enter Try.func26, Try.ntmps26
  have hlow : ∀ b, L00 w.heap.size b ≠ 0 → w.heap.size ≤ b := fun b hb => by
    unfold L00 at hb
    by_cases h1 : b = w.heap.size
    · omega
    · by_cases h2 : b = w.heap.size + 1
      · omega
      · rw [if_neg h1, if_neg h2] at hb
        exact absurd rfl hb
  have HLW := Lib.hid hlow
  clear hlow
  have T0 := Lib.hid True.intro
  by_cases hq0 : q = 0
  · have hu : (Dk.begun q).used = 0 := by unfold Dk.begun; rw [if_pos hq0]; rfl
    have hbg : Dk.begun q = B1 q := if_pos hq0
    have HU := Lib.hid (And.intro hu hbg)
    clear hu hbg
    go_wp2_with (first
      | (go_at_call 28
         have z0 := T0
         clear z0
         refine (note1_any (w.heap.size + 1) _ _ _ _ _ _ _ [] [] [[]] [] fstN ByteArray.empty 0 0 none none 0 0 0 0 _ HM.out.1 rfl (by decide) (by decide) rfl (by decide) (by decide)).mono ?_
         rintro e w1 ⟨rfl, L1, hp1, hx1⟩
         have H1 := Lib.hid (And.intro hp1 hx1)
         clear hp1 hx1
         have T1 := Lib.hid True.intro
         clear T0)
      | (go_at_call 21
         have z0 := T1
         clear z0
         have hbw : Below w.heap.size w w1 := HM.out.2.trans (H1.out.2.chg.below HM.out.2.size fun b hb => HLW.out b hb)
         refine (tell_Used S d _ w1 (H.out.next hbw).1).mono ?_
         rintro e w2 ⟨rfl, hw2⟩
         have hw3 := hw2.symm
         subst hw3
         rw [HU.out.1]
         have HB := Lib.hid hbw
         clear hbw hw2
         have T2 := Lib.hid True.intro
         clear T1))
    go_ret
    refine ⟨_, L1, _, _, _, rfl, H1.out.1, by rw [HU.out.2]; exact pr_B1 q, fun b hb => ?_, HB.out⟩
    rcases H1.out.2.new b hb with h1 | h1
    · exact HLW.out b h1
    · exact Nat.le_trans HM.out.2.size h1
  · have hu : (Dk.begun q).used = 1 := by unfold Dk.begun; rw [if_neg hq0]; rfl
    have hbg : Dk.begun q = B2 q := if_neg hq0
    have HU := Lib.hid (And.intro hu hbg)
    clear hu hbg
    go_wp2_with (first
      | (go_at_call 28
         have z0 := T0
         clear z0
         refine (note1_any (w.heap.size + 1) _ _ _ _ _ _ _ [] [] [[]] [] fstN ByteArray.empty 0 0 none none 0 0 0 0 _ HM.out.1 rfl (by decide) (by decide) rfl (by decide) (by decide)).mono ?_
         rintro e w1 ⟨rfl, L1, hp1, hx1⟩
         have H1 := Lib.hid (And.intro hp1 hx1)
         clear hp1 hx1
         have T1 := Lib.hid True.intro
         clear T0)
      | (go_at_call 21
         have z0 := T1
         clear z0
         have hbw : Below w.heap.size w w1 := HM.out.2.trans (H1.out.2.chg.below HM.out.2.size fun b hb => HLW.out b hb)
         refine (tell_Used S d _ w1 (H.out.next hbw).1).mono ?_
         rintro e w2 ⟨rfl, hw2⟩
         have hw3 := hw2.symm
         subst hw3
         rw [HU.out.1]
         have HB := Lib.hid hbw
         clear hbw hw2
         have T2 := Lib.hid True.intro
         clear T1)
      | (go_at_call 28
         have z0 := T2
         clear z0
         have ha1 := Below.al w1 (.cells #[.int .u8 7] 5)
         obtain ⟨vF1, uF1, vG1, uG1, vD1, uD1, hM1⟩ := H1.out.1
         refine (note2_any (w.heap.size + 1) L1 vF1 vG1 vD1 uF1 uG1 uD1 [[[]]] [[-1]] [[], leftP ByteArray.empty [] ++ [(fstN, 0)]] [(fstN, 0)] fstN ByteArray.empty 0 0 (some ⟨w1.heap.size, 0, none⟩) none 1 1 0 0 _ (hM1.next ha1) rfl (by decide) (by decide) 0 [[]] [] [-1] rfl rfl rfl rfl (by decide) (by decide) (by decide) (by decide) [7] (rd_seven w1) rfl (by decide)).mono ?_
         rintro e w3 ⟨rfl, L3, hp3, hx3⟩
         have H3 := Lib.hid (And.intro hp3 ((Ex.below ha1 L1).trans hx3))
         clear hp3 hx3 ha1 hM1
         have T3 := Lib.hid True.intro
         clear T2))
    go_ret
    have hx := H1.out.2.trans H3.out.2
    refine ⟨_, L3, _, _, _, rfl, H3.out.1, by rw [HU.out.2]; exact pr_B2 q, fun b hb => ?_, HM.out.2.trans (hx.chg.below HM.out.2.size fun b hb => HLW.out b hb)⟩
    rcases hx.new b hb with h1 | h1
    · exact HLW.out b h1
    · exact Nat.le_trans HM.out.2.size h1
end Go.Proofs.Ytomkieennkobcaa
/- SimfsPast walked. -/
namespace Go.Proofs.Ytomkieennkobcaa
open Go.RowKit Go.Maps

/-- A disk, and what is written down of it. -/
def PL (W w : World) (S : Nat → Prop) (d : Nat) (s : Dk) (N pp : Nat) (L : Nat → Nat) (fs : VS) (gs : GS) (ds : List (List KE)) : Prop :=
  Lv W w S d s N ∧ s.Lives ∧ s.files.length ≤ N ∧ PS w L pp fs gs ds ∧ PR fs gs ds s ∧ (∀ b, L b ≠ 0 → W.heap.size ≤ b) ∧ ∀ b, S b → L b = 0
def PX (W w : World) (S : Nat → Prop) (d : Nat) (s : Dk) (N pp : Nat) : Prop := ∃ L fs gs ds, PL W w S d s N pp L fs gs ds
section
variable {W w w' w1 w2 : World} {S S' : Nat → Prop} {d N M pp : Nat} {s s' : Dk} {L : Nat → Nat} {fs : VS} {gs : GS} {ds : List (List KE)}
theorem PS.next (h : PS w L pp fs gs ds) (hb : Below w.heap.size w w') : PS w' L pp fs gs ds := let ⟨_, _, _, _, _, _, h⟩ := h; ⟨_, _, _, _, _, _, h.next hb⟩
theorem PS.far (h : PS w L pp fs gs ds) (hc : Chg S w w') (hS : ∀ b, S b → L b = 0) : PS w' L pp fs gs ds := by
  obtain ⟨_, _, _, _, _, _, h⟩ := h
  exact ⟨_, _, _, _, _, _, h.keep hc.size fun b hb => hc.block b (h.lt b hb) fun hs => hb (hS b hs)⟩
theorem PS.lt (h : PS w L pp fs gs ds) : ∀ b, L b ≠ 0 → b < w.heap.size := let ⟨_, _, _, _, _, _, h⟩ := h; h.lt
theorem PX.next (h : PX W w S d s N pp) (hb : Below w.heap.size w w') : PX W w' S d s N pp := by
  obtain ⟨L, fs, gs, ds, h1, h2, h3, h4, h5, h6, h7⟩ := h
  exact ⟨L, fs, gs, ds, h1.next hb, h2, h3, h4.next hb, h5, h6, h7⟩
theorem PX.up (h : PX W w S d s N pp) (hM : N ≤ M) : PX W w S d s M pp := by
  obtain ⟨L, fs, gs, ds, h1, h2, h3, h4⟩ := h
  exact ⟨L, fs, gs, ds, h1.up hM, h2, by omega, h4⟩
theorem ch_err {st : SC} (hl : s.Lives) (h : chE st s ≠ 0) : chS st s = s := by
  rw [chE_form] at h
  rw [chS_form]
  by_cases hp : perr st s = 0
  · rw [if_neg (fun e => e hp)] at h
    exact absurd (sp_lives hl).2.1 h
  · rw [if_pos hp]
/-- A change that was refused. -/
theorem PX.still (h : PX W w S d s N pp) (hM : N ≤ M) (hT : Lv.Then W w w' S d s M) : ∃ S', PX W w' S' d s M pp := by
  obtain ⟨L, fs, gs, ds, h1, h2, h3, h4, h5, h6, h7⟩ := h
  obtain ⟨S', k1, k2, k3⟩ := hT
  refine ⟨S', L, fs, gs, ds, k1, h2, by omega, h4.far k2 h7, h5, h6, fun b hb => ?_⟩
  rcases k3 b hb with e | e
  · exact h7 b e
  · exact Classical.byContradiction fun hne => by have := h4.lt b hne; omega
/-- Another image is looked at: it was there. -/
theorem known_true (h : PX W w S d s N pp) (hb : Below w.heap.size w w') {AI : Option Addr} {ni ci : Nat} {im : List (ByteArray × List UInt8)} (hn : im.length = ni) (hI : IM w' w'.heap.size AI im) (hk : ∀ fs gs ds, PR fs gs ds s → ∃ (k : Nat) (l : List KE), ds[k]? = some l ∧ Fits fs gs l im) (hib : ∀ p ∈ im, p.2.length ≤ 140737488351232) (hnim : ni ≤ 999999999999) (hN : N ≤ 999999999990) :
    Calls Try.prog 27 #[.pointer (some ⟨pp, 0, none⟩), .slice AI ni ci] w' fun e w2 => e = .returned (.bool true) ∧ ∃ k, w2 = w'.drewN k := by
  obtain ⟨L, fs, gs, ds, h1, h2, h3, h4, h5, h6, h7⟩ := h
  obtain ⟨vF, uF, vG, uG, vD, uD, hM⟩ := h4.next hb
  refine (known_any pp L vF vG vD uF uG uD fs gs ds AI ni ci im w' hM (h5.wide h1.2.2.2 hN h3) (h5.dirs h1.2.2.2 hN).1 hn hI hib (h5.dirs h1.2.2.2 hN).2 hnim).mono ?_
  rintro e w2 ⟨⟨bb, rfl, hbb⟩, hq⟩
  rw [hbb (hk fs gs ds h5)]
  exact ⟨rfl, hq⟩
/-- A change that was answered OK, and written down. -/
theorem note_px (k x y : Int) (nm nt : ByteArray) (Ab Ap : Option Addr) (bs : List UInt8) (ps : List Int) (nb np cb cp : Nat) (h : PX W w S d s N pp) (hN : N ≤ 999999999980) (hT : Lv.Then W w w1 S d (chS ⟨k, nm, nt, x, y, Ab, bs, cb, Ap, ps, cp⟩ s) (N + 1)) (hW1 : Below W.heap.size W w1) (hA : Rd W W.heap.size Ab (bv bs)) (hbs : bs.length = nb) (hnb : nb ≤ 140737488351232 - 1073741824) (hk : 1 ≤ k ∧ k ≤ 7) (hE : chE ⟨k, nm, nt, x, y, Ab, bs, cb, Ap, ps, cp⟩ s = 0) :
    Calls Try.prog 28 #[.pointer (some ⟨pp, 0, none⟩), .agg #[.int .i64 k, .string nm, .string nt, .int .i64 x, .int .i64 y, .slice Ab nb cb, .slice Ap np cp]] w1 fun e w2 => e = .returned (.bool true) ∧ ∃ S', PX W w2 S' d (chS ⟨k, nm, nt, x, y, Ab, bs, cb, Ap, ps, cp⟩ s) (N + 1) pp := by
  obtain ⟨L, fs, gs, ds, h1, h2, h3, h4, h5, h6, h7⟩ := h
  obtain ⟨S', k1, k2, k3⟩ := hT
  have hS' : ∀ b, S' b → L b = 0 := fun b hb => by
    rcases k3 b hb with e | e
    · exact h7 b e
    · exact Classical.byContradiction fun hne => by have := h4.lt b hne; omega
  have h4' := h4.far k2 h7
  refine (note_any k x y nm nt Ab Ap bs ps nb np cb cp pp L fs gs ds s N w1 h4' h5 h1.2.2.2 h2 (by omega) h3 (rd_low hA hW1) hbs hnb hk hE).mono ?_
  rintro e w2 ⟨rfl, L', fs', gs', ds', g1, g2, g3⟩
  refine ⟨rfl, S', L', fs', gs', ds', k1.far g3.chg (fun b hb hne => hne (hS' b hb)) (fun b hb => h6 b hb), ch_lives h2, Nat.le_trans act_files (by omega), g1, g2, fun b hb => ?_, fun b hb => ?_⟩
  · rcases g3.new b hb with e | e
    · exact h6 b e
    · exact Nat.le_trans k1.2.2.1.size e
  · exact Classical.byContradiction fun hne => by
      rcases g3.new b hne with e | e
      · exact e (hS' b hb)
      · have := k1.lt b hb; omega
end
set_option maxRecDepth 100000 in
set_option maxHeartbeats 16000000 in
theorem past_law (q : Int) (A : Option Addr) (n c : Nat) (l : List SC) (W : World) (hA : Stp W W.heap.size A l) (hn : l.length = n) (hnm : n ≤ 99999999999) (hb : ∀ s ∈ l, s.bs.length ≤ 1048576) (hp : ∀ s ∈ l, s.ps.length ≤ 140737488355328) (hpc : ∀ s ∈ l, s.ps.length ≤ s.c2) :
    Calls Try.prog 5 #[.int .i64 q, .slice A n c] W fun e w' => e = .returned (.bool true) ∧ Below W.heap.size W w' := by
  have HA := Lib.hid (And.intro hA (And.intro hn (And.intro hb (And.intro hp hpc))))
  clear hA hn hb hp hpc
  by_cases hq : 0 ≤ q ∧ q ≤ 1073741824
  · have HQ := Lib.hid hq
    clear hq
    go_enter Try.func5, Try.ntmps5
    go_wp2_with (first
      | (go_at_call 18
         refine (begun_any q W W (Below.refl _ _) HQ.out).mono ?_
         rintro e w0 ⟨d, S0, rfl, h0, _, _⟩
         have H0 := Lib.hid h0
         clear h0)
      | (go_at_call 26
         refine (past_any q W w0 S0 d 2 H0.out).mono ?_
         rintro e w1 ⟨pp, L1, fs1, gs1, ds1, rfl, g1, g2, g3, g4⟩
         have H1 := Lib.hid (show PX W w1 S0 d (Dk.begun q) 2 pp from ⟨L1, fs1, gs1, ds1, H0.out.next g4, begun_lives q, by unfold Dk.begun; split <;> simp [B1, B2], g1, g2, fun b hb => Nat.le_trans H0.out.2.2.1.size (g3 b hb), fun b hb => Classical.byContradiction fun hne => by have := g3 b hne; have := H0.out.lt b hb; omega⟩)
         clear g1 g2 g3 g4))
    go_loopw [8] (fun i wr => ∃ (j : Nat) (S : Nat → Prop) (s : Dk), j ≤ n ∧ i = .int .i64 j ∧ PX W wr S d s (2 + j) pp) (fun i _ => n - (intOf i).toNat)
    case atStart => exact ⟨0, S0, _, Nat.zero_le _, rfl, H1.out⟩
    case round =>
      obtain ⟨j, S, s, hj, rfl, hL⟩ := hrel
      have hLv : Lv W wr S d s (2 + j) := by obtain ⟨_, _, _, _, h, _⟩ := hL; exact h
      have hli : s.Lives := by obtain ⟨_, _, _, _, _, h, _⟩ := hL; exact h
      by_cases hlt : j < n
      · have hk0 : (0 : Int) ≤ j := by omega
        have hk1 : (j : Int) < n := by omega
        obtain ⟨st, hst⟩ : ∃ st, l[j]? = some st := ⟨_, List.getElem?_eq_getElem (by rw [HA.out.2.1]; exact hlt)⟩
        obtain ⟨ad, rfl, had, c0, c1, c2, c3, c4, c5, c6, _⟩ := (HA.out.1.below hLv.2.2.1).step hst
        have hok := HA.out.1.2 st (List.mem_of_getElem? hst)
        have hbs := HA.out.2.2.1 st (List.mem_of_getElem? hst)
        have hps := HA.out.2.2.2.1 st (List.mem_of_getElem? hst)
        have hpc := HA.out.2.2.2.2 st (List.mem_of_getElem? hst)
        obtain ⟨k, nm, nt, x, y, Ab, bs, cb, Ap, ps, cp⟩ := st
        obtain ⟨nb, hnb⟩ : ∃ nb, bs.length = nb := ⟨_, rfl⟩
        obtain ⟨np, hnp⟩ : ∃ np, ps.length = np := ⟨_, rfl⟩
        dsimp only at c0 c1 c2 c3 c4 c5 c6 hbs hps hpc
        rw [hnb] at c5 hbs
        rw [hnp] at c6 hps hpc
        have HB := Lib.hid (And.intro hok (And.intro hnb hnp))
        have hX := Box.new wr 44 #[.int .i64 k, .string nm, .string nt, .int .i64 x, .int .i64 y, .slice Ab nb cb, .slice Ap np cp]
        have hXS : ¬ S wr.heap.size := fun h => by have := hLv.lt _ h; omega
        have HL := Lib.hid (And.intro (hL.next (Below.al wr (.cells #[.int .i64 k, .string nm, .string nt, .int .i64 x, .int .i64 y, .slice Ab nb cb, .slice Ap np cp] 44))) (And.intro (hLv.next (Below.al wr (.cells #[.int .i64 k, .string nm, .string nt, .int .i64 x, .int .i64 y, .slice Ab nb cb, .slice Ap np cp] 44))) (And.intro hli (And.intro hX hXS))))
        clear hL hLv hli hok hst hnb hnp hX hXS had
        by_cases h13 : k = 13
        · subst h13
          go_wp2_with (first
            | (go_at_call 15
               refine (lv_crash ps Ap np cp HL.out.2.1 (by omega) (rd_low HB.out.1.2.1 HL.out.2.1.2.2.1) HB.out.2.2 hpc HB.out.1.2.2.2.2 hps).mono ?_
               rintro e w4 ⟨us4, ib4, ic4, rfl, hfl, hb1⟩
               obtain ⟨il4, hil⟩ : ∃ il, (crashL s ps).length = il := ⟨_, rfl⟩
               rw [hil] at hfl ⊢
               have H4 := Lib.hid (And.intro hb1 (And.intro hfl.im (And.intro hil (show il4 ≤ _ from hil ▸ crash_len HL.out.2.1.2.2.2 ps))))
               clear hfl hil hb1)
            | (go_at_call 27
               refine (known_true HL.out.1 H4.out.1 H4.out.2.2.1 H4.out.2.1 (fun fs gs ds h => crash_known h HL.out.2.1.2.2.2 ps) (crash_small HL.out.2.1.2.2.2 ps) (by have := H4.out.2.2.2; omega) (by omega)).mono ?_
               rintro e w5 ⟨rfl, k5, hw5⟩
               have H5 := Lib.hid (show PX W w5 S d s (2 + j) pp from hw5 ▸ (HL.out.1.next H4.out.1).next (below_drewN (Below.refl _ _) k5))
               clear hw5))
          go_roundw
          case rel => exact ⟨j + 1, S, s, by omega, by go_num, H5.out.up (by omega)⟩
          case measure => simp [intOf]; omega
        · have h13b : (k == 13) = false := by simpa using h13
          by_cases hk : 1 ≤ k ∧ k ≤ 7
          · have HK := Lib.hid hk
            obtain ⟨hk2, hk7⟩ := hk
            obtain ⟨s2, hs2⟩ : ∃ s2, chS ⟨k, nm, nt, x, y, Ab, bs, cb, Ap, ps, cp⟩ s = s2 := ⟨_, rfl⟩
            by_cases hE : chE ⟨k, nm, nt, x, y, Ab, bs, cb, Ap, ps, cp⟩ s = 0
            · have HE := Lib.hid (And.intro hE hs2)
              clear hE hs2
              go_wp2_with (first
                | (go_at_call 23
                   refine (lv_change _ x y nm nt Ab Ap bs ps _ _ cb cp HL.out.2.1 (by omega) HB.out.1 HK.out HB.out.2.1 HB.out.2.2 (by omega)).mono ?_
                   rintro e1 w1' ⟨rfl, g1⟩
                   rw [HE.out.1]
                   have hx1 : Box w1' wr.heap.size 44 #[.int .i64 k, .string nm, .string nt, .int .i64 x, .int .i64 y, .slice Ab nb cb, .slice Ap np cp] := by obtain ⟨_, _, g2, _⟩ := g1; exact HL.out.2.2.2.1.chg g2 HL.out.2.2.2.2
                   have hxc := hx1.cell
                   have H6 := Lib.hid g1
                   clear g1 hx1)
                | (go_at_call 28
                   refine (note_px k x y nm nt Ab Ap bs ps nb np cb cp HL.out.1 (by omega) H6.out (by obtain ⟨_, g, _⟩ := H6.out; exact g.2.2.1) HB.out.1.1 HB.out.2.1 (by omega) HK.out HE.out.1).mono ?_
                   rintro e2 w7 ⟨rfl, S7, g7⟩
                   rw [HE.out.2] at g7
                   have H7 := Lib.hid g7
                   clear g7))
              go_roundw
              case rel => exact ⟨j + 1, S7, s2, by omega, by go_num, H7.out.up (by omega)⟩
              case measure => simp [intOf]; omega
            · obtain ⟨ev, hev⟩ : ∃ ev, chE ⟨k, nm, nt, x, y, Ab, bs, cb, Ap, ps, cp⟩ s = ev := ⟨_, rfl⟩
              have hss : s2 = s := hs2.symm.trans (ch_err HL.out.2.2.1 hE)
              rw [hev] at hE
              subst hss
              have HE := Lib.hid (And.intro hev hs2)
              have hEb : (ev == 0) = false := by simpa using hE
              clear hs2 hev
              go_wp2_with (first
                | (go_at_call 23
                   refine (lv_change _ x y nm nt Ab Ap bs ps _ _ cb cp HL.out.2.1 (by omega) HB.out.1 HK.out HB.out.2.1 HB.out.2.2 (by omega)).mono ?_
                   rintro e1 w1' ⟨rfl, g1⟩
                   rw [HE.out.1]
                   rw [HE.out.2] at g1
                   obtain ⟨S6, g6⟩ := HL.out.1.still (by omega) g1
                   have H6 := Lib.hid g6
                   clear g1 g6))
              go_roundw
              case rel => exact ⟨j + 1, S6, s2, by omega, by go_num, H6.out.up (by omega)⟩
              case measure => simp [intOf]; omega
          · rcases (show k < 1 ∨ 7 < k by omega) with hk | hk
            all_goals
              go_wp2
              go_roundw
              case rel => exact ⟨j + 1, S, s, by omega, by go_num, HL.out.1.up (by omega)⟩
              case measure => simp [intOf]; omega
      · have HL := Lib.hid (And.intro hL (And.intro hLv hli))
        clear hL hLv hli
        have T0 := Lib.hid True.intro
        go_wp2_with (first
          | (go_at_call 25
             refine (lv_image HL.out.2.1 (by omega)).mono ?_
             rintro e1 w3 ⟨us, ib, ic, rfl, hfl, hb1⟩
             obtain ⟨il, hil⟩ : ∃ il, (imageL s).length = il := ⟨_, rfl⟩
             rw [hil] at hfl ⊢
             have H3 := Lib.hid (And.intro hb1 (And.intro hfl.im (And.intro hil (show il ≤ _ from hil ▸ image_len HL.out.2.1.2.2.2))))
             clear hfl hil hb1)
          | (go_at_call 27
             have z0 := T0
             clear z0
             refine (known_true HL.out.1 H3.out.1 H3.out.2.2.1 H3.out.2.1 (fun fs gs ds h => image_known h HL.out.2.1.2.2.2) (image_small HL.out.2.1.2.2.2) (by have := H3.out.2.2.2; omega) (by omega)).mono ?_
             rintro e w5 ⟨rfl, k5, hw5⟩
             have H5 := Lib.hid (show PX W w5 S d s (2 + j) pp from hw5 ▸ (HL.out.1.next H3.out.1).next (below_drewN (Below.refl _ _) k5))
             clear hw5
             have T1 := Lib.hid True.intro
             clear T0)
          | (go_at_call 15
             obtain ⟨_, _, _, _, hLv5, _⟩ := H5.out
             refine (lv_crash [] none 0 0 hLv5 (by omega) (Rd.nil _ _ _) rfl (by omega) (by simp) (by omega)).mono ?_
             rintro e w6 ⟨us6, ib6, ic6, rfl, hfl, hb1⟩
             obtain ⟨il6, hil⟩ : ∃ il, (crashL s []).length = il := ⟨_, rfl⟩
             rw [hil] at hfl ⊢
             have H6 := Lib.hid (And.intro hb1 (And.intro hfl.im (And.intro hil (show il6 ≤ _ from hil ▸ crash_len hLv5.2.2.2 []))))
             clear hfl hil hb1 hLv5)
          | (go_at_call 27
             have z0 := T1
             clear z0
             refine (known_true H5.out H6.out.1 H6.out.2.2.1 H6.out.2.1 (fun fs gs ds h => crash_known h HL.out.2.1.2.2.2 []) (crash_small HL.out.2.1.2.2.2 []) (by have := H6.out.2.2.2; omega) (by omega)).mono ?_
             rintro e w7 ⟨rfl, k7, hw7⟩
             have H7 := Lib.hid (show PX W w7 S d s (2 + j) pp from hw7 ▸ (H5.out.next H6.out.1).next (below_drewN (Below.refl _ _) k7))
             clear hw7
             have T2 := Lib.hid True.intro
             clear T1))
        go_ret
        obtain ⟨_, _, _, _, hLv7, _⟩ := H7.out
        exact ⟨rfl, hLv7.2.2.1⟩
  · have HQ := Lib.hid hq
    clear hq
    go_enter Try.func5, Try.ntmps5
    go_wp2_with (first
      | (go_at_call 18
         refine (begun_no q W HQ.out).mono ?_
         rintro e w0 ⟨rfl, h0⟩
         have H0 := Lib.hid h0
         clear h0))
    go_ret
    exact ⟨rfl, H0.out⟩
end Go.Proofs.Ytomkieennkobcaa
