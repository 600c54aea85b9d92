import Derived.Test.YtomkieennkobcaaRn1
import Derived.Outline
import Derived.Deep.DeepCutAuto
/- SimfsRename. -/
namespace Go.Proofs.Ytomkieennkobcaa
open Go.RowKit Go.Maps

theorem nm_is : (nm.toList == [110, 97, 109, 101]) = true := by kernel_rfl
theorem tp_is : (tp.toList == [110, 97, 109, 101, 46, 116, 109, 112]) = true := by kernel_rfl
theorem lv_then {W w w' : World} {S : Nat → Prop} {d N : Nat} {s : Dk} (h : Lv.Then W w w' S d s N) : ∃ S', Lv W w' S' d s N := by
  obtain ⟨S', h1, _⟩ := h
  exact ⟨S', h1⟩
theorem rd_below {W w : World} {A : Option Addr} {us : List Value} (h : Rd W W.heap.size A us) (hb : Below W.heap.size W w) : Rd w w.heap.size A us := by
  intro j u hj
  obtain ⟨ad, e, h1, h2⟩ := h.below hb j u hj
  exact ⟨ad, e, Nat.lt_of_lt_of_le h1 hb.size, h2⟩
theorem fls_one {w : World} {base : Nat} {a : ByteArray} {x : List UInt8} {us : List Value} {v : Value} (h : FLs w base [(a, x)] us v) : ∃ (g cap : Nat) (x0 : Option Addr) (c0 : Nat), v = .slice (some ⟨g, 0, none⟩) 1 cap ∧ w.cell? ⟨g, 0, none⟩ = some (.string a) ∧ w.cell? ⟨g, 1, none⟩ = some (.slice x0 x.length c0) ∧ Rd w w.heap.size x0 (bv x) := by
  obtain ⟨h1, h2, h3⟩ := h
  obtain ⟨u0, rfl⟩ : ∃ u0, us = [u0] := List.length_eq_one_iff.1 h1
  obtain ⟨x0, c0, rfl, hr⟩ := h3 0 (a, x) u0 rfl rfl
  obtain ⟨g, cap, rfl, _, _, ho⟩ := Own.of_row h2 (by simp)
  exact ⟨g, cap, x0, c0, rfl, ho.cell (i := 0) (by simp [fcell]), ho.cell (i := 1) (by simp [fcell]), row_rd hr⟩
theorem fls_two {w : World} {base : Nat} {a b : ByteArray} {x y : List UInt8} {us : List Value} {v : Value} (h : FLs w base [(a, x), (b, y)] us v) : ∃ (g cap : Nat) (x0 : Option Addr) (c0 : Nat) (y0 : Option Addr) (c1 : Nat), v = .slice (some ⟨g, 0, none⟩) 2 cap ∧ w.cell? ⟨g, 0, none⟩ = some (.string a) ∧ w.cell? ⟨g, 1, none⟩ = some (.slice x0 x.length c0) ∧ w.cell? ⟨g, 2, none⟩ = some (.string b) ∧ w.cell? ⟨g, 3, none⟩ = some (.slice y0 y.length c1) ∧ Rd w w.heap.size x0 (bv x) ∧ Rd w w.heap.size y0 (bv y) := by
  obtain ⟨h1, h2, h3⟩ := h
  obtain ⟨u0, u1, rfl⟩ : ∃ u0 u1, us = [u0, u1] := by
    match us, h1 with
    | [a, b], _ => exact ⟨a, b, rfl⟩
  obtain ⟨x0, c0, rfl, hr⟩ := h3 0 (a, x) u0 rfl rfl
  obtain ⟨y0, c1, rfl, hr1⟩ := h3 1 (b, y) u1 rfl rfl
  obtain ⟨g, cap, rfl, _, _, ho⟩ := Own.of_row h2 (by simp)
  exact ⟨g, cap, x0, c0, y0, c1, rfl, ho.cell (i := 0) (by simp [fcell]), ho.cell (i := 1) (by simp [fcell]), ho.cell (i := 2) (by simp [fcell]), ho.cell (i := 3) (by simp [fcell]), row_rd hr, row_rd hr1⟩
set_option maxRecDepth 100000 in
set_option maxHeartbeats 16000000 in
theorem rename_law (Ao Af Ap : Option Addr) (no co nf cf np cp : Nat) (os fs : List UInt8) (ps : List Int) (W : World) (hAo : Rd W W.heap.size Ao (bv os)) (hno : os.length = no) (hco : no ≤ co) (hAf : Rd W W.heap.size Af (bv fs)) (hnf : fs.length = nf) (hcf : nf ≤ cf)
    (hAp : Rd W W.heap.size Ap (ps.map (Value.int .i64))) (hnp : ps.length = np) (hcp : np ≤ cp) (hwf : ∀ x ∈ ps, (Lit.int .i64 x).wf = true) (hpl : np ≤ 140737488355328) (hol : no ≤ 140737488355328) (hfl : nf ≤ 140737488355328) :
    Calls Try.prog 3 #[.slice Ao no co, .slice Af nf cf, .slice Ap np cp] W fun e w' => e = .returned (.bool true) ∧ Below W.heap.size W w' := by
  obtain ⟨mo, hmo⟩ : ∃ m, min no 1000 = m := ⟨_, rfl⟩
  obtain ⟨mf, hmf⟩ : ∃ m, min nf 1000 = m := ⟨_, rfl⟩
  have ho1 : mo ≤ 1000 := by omega
  have hf1 : mf ≤ 1000 := by omega
  have hoi : ∀ (i : Decidable ((1000 : Int) < (no : Int))), @ite Int ((1000 : Int) < (no : Int)) i 1000 (no : Int) = mo := by intro i; split <;> omega
  have hfi : ∀ (i : Decidable ((1000 : Int) < (nf : Int))), @ite Int ((1000 : Int) < (nf : Int)) i 1000 (nf : Int) = mf := by intro i; split <;> omega
  have ho2 : (mo : Int) ≤ co := by omega
  have hf2 : (mf : Int) ≤ cf := by omega
  have ho3 : (0 : Int) ≤ mo := by omega
  have hf3 : (0 : Int) ≤ mf := by omega
  obtain ⟨o, hoo⟩ : ∃ o, os.take mo = o := ⟨_, rfl⟩
  obtain ⟨f, hff⟩ : ∃ f, fs.take mf = f := ⟨_, rfl⟩
  have hol2 : o.length = mo := by rw [← hoo, List.length_take]; omega
  have hfl2 : f.length = mf := by rw [← hff, List.length_take]; omega
  have HO := Lib.hid (show Rd W W.heap.size Ao (bv o) by rw [← hoo]; exact rd_take hAo mo)
  have HF := Lib.hid (show Rd W W.heap.size Af (bv f) by rw [← hff]; exact rd_take hAf mf)
  have HL := Lib.hid (And.intro hol2 hfl2)
  have HB := Lib.hid (show o.length ≤ 1000 ∧ f.length ≤ 1000 by omega)
  have eo : (min (no : Int) 1000).toNat = mo := by omega
  have ef : (min (nf : Int) 1000).toNat = mf := by omega
  have HP := Lib.hid (And.intro hAp (And.intro hnp (And.intro hcp (And.intro hwf hpl))))
  have q1 := nm_is
  have q2 := tp_is
  clear hAo hAf hAp hwf hno hnf hmo hmf hoo hff hol2 hfl2 hnp
  go_enter Try.func3, Try.ntmps3
  go_upto_region 3 with fail
  go_upto_region 6 with (first
    | (go_at_call 9
       refine (new_lv (W := W) 1073741824 _ (Below.refl _ _) (by decide)).mono ?_
       rintro e w0 ⟨d, S0, rfl, h0, _, _⟩
       have H0 := Lib.hid (show Lv W w0 S0 d R0 0 from h0)
       clear h0))
  go_upto_region 7 with (first
    | (go_at_call 10
       refine (lv_create nm H0.out (by decide) (by decide)).mono ?_
       rintro e w1 ⟨rfl, h1⟩
       obtain ⟨S1, h2⟩ := lv_then h1
       rw [(r1).2] at h2
       rw [(r1).1]
       have H1 := Lib.hid h2
       clear h1 h2)
    | (go_at_call 11
       refine (lv_append nm Ao mo co o H1.out (by decide) (by decide) (H1.out.out HO.out) HL.out.1 (by omega)).mono ?_
       rintro e w2 ⟨rfl, h1⟩
       obtain ⟨S2, h2⟩ := lv_then h1
       rw [(r2 o HB.out.1).2] at h2
       rw [(r2 o HB.out.1).1]
       have H2 := Lib.hid h2
       clear h1 h2)
    | (go_at_call 12
       refine (lv_sync nm H2.out (by decide) (by decide)).mono ?_
       rintro e w3 ⟨rfl, h1⟩
       obtain ⟨S3, h2⟩ := lv_then h1
       rw [(r3 o).2] at h2
       rw [(r3 o).1]
       have H3 := Lib.hid h2
       clear h1 h2))
  go_upto_region 8 with (first
    | (go_at_call 10
       refine (lv_create tp H3.out (by decide) (by decide)).mono ?_
       rintro e w4 ⟨rfl, h1⟩
       obtain ⟨S4, h2⟩ := lv_then h1
       rw [(r4 o).2] at h2
       rw [(r4 o).1]
       have H4 := Lib.hid h2
       clear h1 h2)
    | (go_at_call 11
       refine (lv_append tp Af mf cf f H4.out (by decide) (by decide) (H4.out.out HF.out) HL.out.2 (by omega)).mono ?_
       rintro e w5 ⟨rfl, h1⟩
       obtain ⟨S5, h2⟩ := lv_then h1
       rw [(r5 o f HB.out.1 HB.out.2).2] at h2
       rw [(r5 o f HB.out.1 HB.out.2).1]
       have H5 := Lib.hid h2
       clear h1 h2)
    | (go_at_call 12
       refine (lv_sync tp H5.out (by decide) (by decide)).mono ?_
       rintro e w6 ⟨rfl, h1⟩
       obtain ⟨S6, h2⟩ := lv_then h1
       rw [(r6 o f).2] at h2
       rw [(r6 o f).1]
       have H6 := Lib.hid h2
       clear h1 h2))
  go_upto_region 11 with (first
    | (go_at_call 13
       refine (lv_syncDir H6.out (by decide)).mono ?_
       rintro e w7 ⟨rfl, h1⟩
       obtain ⟨S7, h2⟩ := lv_then h1
       rw [(r7 o f).2] at h2
       rw [(r7 o f).1]
       have H7 := Lib.hid h2
       clear h1 h2)
    | (go_at_call 14
       refine (lv_rename tp nm H7.out (by decide) (by decide) (by decide)).mono ?_
       rintro e w8 ⟨rfl, h1⟩
       obtain ⟨S8, h2⟩ := lv_then h1
       rw [(r8 o f).2] at h2
       rw [(r8 o f).1]
       have H8 := Lib.hid h2
       clear h1 h2)
    | (go_at_call 15
       refine (lv_crash ps Ap np cp H8.out (by decide) (rd_below HP.out.1 H8.out.2.2.1) HP.out.2.1 HP.out.2.2.1 HP.out.2.2.2.1 HP.out.2.2.2.2).mono ?_
       rintro e w9 ⟨us, lb, lc, rfl, hl, hb9⟩
       have H9 := Lib.hid (And.intro hl (H8.out.next hb9))
       clear hl hb9))
  rcases crash8 o f ps with hc | hc
  · have hl := H9.out.1
    rw [hc] at hl ⊢
    rw [show ([(nm, o), (tp, f)] : List (ByteArray × List UInt8)).length = 2 from rfl]
    obtain ⟨g, cap, x0, c0, y0, c1, hv, k0, k1, k2, k3, r0, r1⟩ := fls_two hl
    have hv2 : Value.slice lb 2 lc = .slice (some ⟨g, 0, none⟩) 2 cap := hv
    injection hv2 with e1 _ e2
    subst e1 e2
    rw [HL.out.1] at k1
    rw [HL.out.2] at k3
    have HR := Lib.hid (And.intro r0 (And.intro r1 (And.intro (rd_below HO.out H9.out.2.2.2.1) (rd_below HF.out H9.out.2.2.2.1))))
    clear hl hv r0 r1 hc
    have ew : IntKind.i64.wrap ((mf : Int) + 1) = (mf : Int) + 1 := IntWalk.i64_in _ (by omega)
    obtain ⟨bb, hbb⟩ : ∃ bb, decide (o = f) = bb := ⟨_, rfl⟩
    have HBB := Lib.hid hbb
    clear hbb
    cases bb
    all_goals
      go_upto_region 17 with (first
        | (go_at_call 16
           have z0 := k0
           clear z0
           refine (sameBytes_any x0 Ao mo c0 mo co o o w9 HL.out.1 HL.out.1 (by exact HR.out.1) (by exact HR.out.2.2.1) (by omega) (by omega)).mono ?_
           rintro e wa ⟨rfl, ka, hwa⟩
           rw [show decide (o = o) = true from decide_eq_true rfl]
           have k1a : wa.cell? ⟨g, 1, none⟩ = some (.slice x0 mo c0) := by rw [hwa]; exact k1
           have k2a : wa.cell? ⟨g, 2, none⟩ = some (.string tp) := by rw [hwa]; exact k2
           have k3a : wa.cell? ⟨g, 3, none⟩ = some (.slice y0 mf c1) := by rw [hwa]; exact k3
           have HRa := Lib.hid (show (Rd wa wa.heap.size y0 (bv f) ∧ Rd wa wa.heap.size Af (bv f)) ∧ Rd wa wa.heap.size x0 (bv o) ∧ Lv W wa S8 d (R8 o f) 8 by rw [hwa]; exact ⟨⟨HR.out.2.1, HR.out.2.2.2⟩, HR.out.1, H9.out.2.drewN _⟩)
           clear hwa k0 k1 k2 k3)
        | (go_at_call 16
           have z0 := k2a
           clear z0
           refine (sameBytes_any y0 Af mf c1 mf cf f f wa HL.out.2 HL.out.2 (by exact HRa.out.1.1) (by exact HRa.out.1.2) (by omega) (by omega)).mono ?_
           rintro e wb ⟨rfl, kb, hwb⟩
           rw [show decide (f = f) = true from decide_eq_true rfl]
           have k1b : wb.cell? ⟨g, 1, none⟩ = some (.slice x0 mo c0) := by rw [hwb]; exact k1a
           have HRb := Lib.hid (show Rd wb wb.heap.size Af (bv f) ∧ Rd wb wb.heap.size x0 (bv o) ∧ Lv W wb S8 d (R8 o f) 8 by rw [hwb]; exact ⟨HRa.out.1.2, HRa.out.2.1, HRa.out.2.2.drewN _⟩)
           clear hwb k1a k2a k3a)
        | (go_at_call 16
           refine (sameBytes_any x0 Af mo c0 mf cf o f wb HL.out.1 HL.out.2 (by exact HRb.out.2.1) (by exact HRb.out.1) (by omega) (by omega)).mono ?_
           rintro e wd ⟨rfl, kc, hwd⟩
           rw [HBB.out]
           have HT := Lib.hid (show Lv W wd S8 d (R8 o f) 8 by rw [hwd]; exact HRb.out.2.2.drewN _)
           clear hwd k1b))
      go_upto_region 21 with (first
        | (go_at_call 13
           refine (lv_syncDir HT.out (by decide)).mono ?_
           rintro e w11 ⟨rfl, h1⟩
           obtain ⟨S11, h2⟩ := lv_then h1
           rw [(r9 o f).2] at h2
           rw [(r9 o f).1]
           have H11 := Lib.hid h2
           clear h1 h2)
        | (go_at_call 15
           refine (lv_crash ps Ap np cp H11.out (by decide) (rd_below HP.out.1 H11.out.2.2.1) HP.out.2.1 HP.out.2.2.1 HP.out.2.2.2.1 HP.out.2.2.2.2).mono ?_
           rintro e w12 ⟨us2, lb2, lc2, rfl, hl, hb12⟩
           rw [crash9] at hl ⊢
           rw [show ([(nm, f)] : List (ByteArray × List UInt8)).length = 1 from rfl] at hl ⊢
           have H12 := Lib.hid (And.intro hl (H11.out.next hb12))
           clear hl hb12)
        | (go_at_call 17
           refine (lv_read nm 0 ((mf : Int) + 1) H12.out.2 (by decide)).mono ?_
           rintro e w13 ⟨rb, rc, rfl, hro, hb13⟩
           have hr9 := read9 o f
           rw [HL.out.2] at hr9
           rw [hr9.2, HL.out.2] at hro
           rw [hr9.1, hr9.2, HL.out.2]
           have H13 := Lib.hid (And.intro hro (And.intro hb13 (H12.out.2.next hb13)))
           clear hro hb13 hr9))
      obtain ⟨g2, cap2, z0, d0, hv3, j0, j1, rz⟩ := fls_one (H12.out.1.keep fun b _ h2 => H13.out.2.1.block b h2)
      have hv4 : Value.slice lb2 1 lc2 = .slice (some ⟨g2, 0, none⟩) 1 cap2 := hv3
      injection hv4 with e1 _ e2
      subst e1 e2
      rw [HL.out.2] at j1
      have HZ := Lib.hid (And.intro rz (And.intro (rd_below HF.out H13.out.2.2.2.2.1) (And.intro (row_rd H13.out.1) H13.out.2.2.2.2.1)))
      clear hv3 rz
      go_wp2_with (first
        | (go_at_call 16
           have z0' := j0
           clear z0'
           refine (sameBytes_any z0 Af mf d0 mf cf f f w13 HL.out.2 HL.out.2 (by exact HZ.out.1) (by exact HZ.out.2.1) (by omega) (by omega)).mono ?_
           rintro e w14 ⟨rfl, k14, hw14⟩
           rw [show decide (f = f) = true from decide_eq_true rfl]
           have H14 := Lib.hid (show Rd w14 w14.heap.size rb (bv f) ∧ Rd w14 w14.heap.size Af (bv f) ∧ Below W.heap.size W w14 by rw [hw14]; exact ⟨HZ.out.2.2.1, HZ.out.2.1, below_drewN HZ.out.2.2.2 _⟩)
           clear hw14 j0 j1)
        | (go_at_call 16
           refine (sameBytes_any rb Af mf rc mf cf f f w14 HL.out.2 HL.out.2 (by exact H14.out.1) (by exact H14.out.2.1) (by omega) (by omega)).mono ?_
           rintro e w15 ⟨rfl, k15, hw15⟩
           rw [show decide (f = f) = true from decide_eq_true rfl]
           have H15 := Lib.hid (show Below W.heap.size W w15 by rw [hw15]; exact below_drewN H14.out.2.2 _)
           clear hw15))
      go_ret
      exact ⟨rfl, H15.out⟩
  · have hl := H9.out.1
    rw [hc] at hl ⊢
    rw [show ([(nm, f)] : List (ByteArray × List UInt8)).length = 1 from rfl]
    obtain ⟨g, cap, x0, c0, hv, k0, k1, r0⟩ := fls_one hl
    have hv2 : Value.slice lb 1 lc = .slice (some ⟨g, 0, none⟩) 1 cap := hv
    injection hv2 with e1 _ e2
    subst e1 e2
    rw [HL.out.2] at k1
    have HR := Lib.hid (And.intro r0 (And.intro (rd_below HO.out H9.out.2.2.2.1) (rd_below HF.out H9.out.2.2.2.1)))
    clear hl hv r0 hc
    have ew : IntKind.i64.wrap ((mf : Int) + 1) = (mf : Int) + 1 := IntWalk.i64_in _ (by omega)
    obtain ⟨bb, hbb⟩ : ∃ bb, decide (f = o) = bb := ⟨_, rfl⟩
    have HBB := Lib.hid hbb
    clear hbb
    cases bb
    all_goals
      go_upto_region 17 with (first
        | (go_at_call 16
           have z0 := k0
           clear z0
           refine (sameBytes_any x0 Ao mf c0 mo co f o w9 HL.out.2 HL.out.1 (by exact HR.out.1) (by exact HR.out.2.1) (by omega) (by omega)).mono ?_
           rintro e wa ⟨rfl, ka, hwa⟩
           rw [HBB.out]
           have k1a : wa.cell? ⟨g, 1, none⟩ = some (.slice x0 mf c0) := by rw [hwa]; exact k1
           have HRa := Lib.hid (show (Rd wa wa.heap.size x0 (bv f) ∧ Rd wa wa.heap.size Af (bv f)) ∧ Lv W wa S8 d (R8 o f) 8 by rw [hwa]; exact ⟨⟨HR.out.1, HR.out.2.2⟩, H9.out.2.drewN _⟩)
           clear hwa k0 k1)
        | (go_at_call 16
           refine (sameBytes_any x0 Af mf c0 mf cf f f wa HL.out.2 HL.out.2 (by exact HRa.out.1.1) (by exact HRa.out.1.2) (by omega) (by omega)).mono ?_
           rintro e wd ⟨rfl, kc, hwd⟩
           rw [show decide (f = f) = true from decide_eq_true rfl]
           have HT := Lib.hid (show Lv W wd S8 d (R8 o f) 8 by rw [hwd]; exact HRa.out.2.drewN _)
           clear hwd k1a))
      go_upto_region 21 with (first
        | (go_at_call 13
           refine (lv_syncDir HT.out (by decide)).mono ?_
           rintro e w11 ⟨rfl, h1⟩
           obtain ⟨S11, h2⟩ := lv_then h1
           rw [(r9 o f).2] at h2
           rw [(r9 o f).1]
           have H11 := Lib.hid h2
           clear h1 h2)
        | (go_at_call 15
           refine (lv_crash ps Ap np cp H11.out (by decide) (rd_below HP.out.1 H11.out.2.2.1) HP.out.2.1 HP.out.2.2.1 HP.out.2.2.2.1 HP.out.2.2.2.2).mono ?_
           rintro e w12 ⟨us2, lb2, lc2, rfl, hl, hb12⟩
           rw [crash9] at hl ⊢
           rw [show ([(nm, f)] : List (ByteArray × List UInt8)).length = 1 from rfl] at hl ⊢
           have H12 := Lib.hid (And.intro hl (H11.out.next hb12))
           clear hl hb12)
        | (go_at_call 17
           refine (lv_read nm 0 ((mf : Int) + 1) H12.out.2 (by decide)).mono ?_
           rintro e w13 ⟨rb, rc, rfl, hro, hb13⟩
           have hr9 := read9 o f
           rw [HL.out.2] at hr9
           rw [hr9.2, HL.out.2] at hro
           rw [hr9.1, hr9.2, HL.out.2]
           have H13 := Lib.hid (And.intro hro (And.intro hb13 (H12.out.2.next hb13)))
           clear hro hb13 hr9))
      obtain ⟨g2, cap2, z0, d0, hv3, j0, j1, rz⟩ := fls_one (H12.out.1.keep fun b _ h2 => H13.out.2.1.block b h2)
      have hv4 : Value.slice lb2 1 lc2 = .slice (some ⟨g2, 0, none⟩) 1 cap2 := hv3
      injection hv4 with e1 _ e2
      subst e1 e2
      rw [HL.out.2] at j1
      have HZ := Lib.hid (And.intro rz (And.intro (rd_below HF.out H13.out.2.2.2.2.1) (And.intro (row_rd H13.out.1) H13.out.2.2.2.2.1)))
      clear hv3 rz
      go_wp2_with (first
        | (go_at_call 16
           have z0' := j0
           clear z0'
           refine (sameBytes_any z0 Af mf d0 mf cf f f w13 HL.out.2 HL.out.2 (by exact HZ.out.1) (by exact HZ.out.2.1) (by omega) (by omega)).mono ?_
           rintro e w14 ⟨rfl, k14, hw14⟩
           rw [show decide (f = f) = true from decide_eq_true rfl]
           have H14 := Lib.hid (show Rd w14 w14.heap.size rb (bv f) ∧ Rd w14 w14.heap.size Af (bv f) ∧ Below W.heap.size W w14 by rw [hw14]; exact ⟨HZ.out.2.2.1, HZ.out.2.1, below_drewN HZ.out.2.2.2 _⟩)
           clear hw14 j0 j1)
        | (go_at_call 16
           refine (sameBytes_any rb Af mf rc mf cf f f w14 HL.out.2 HL.out.2 (by exact H14.out.1) (by exact H14.out.2.1) (by omega) (by omega)).mono ?_
           rintro e w15 ⟨rfl, k15, hw15⟩
           rw [show decide (f = f) = true from decide_eq_true rfl]
           have H15 := Lib.hid (show Below W.heap.size W w15 by rw [hw15]; exact below_drewN H14.out.2.2 _)
           clear hw15))
      go_ret
      exact ⟨rfl, H15.out⟩
end Go.Proofs.Ytomkieennkobcaa
