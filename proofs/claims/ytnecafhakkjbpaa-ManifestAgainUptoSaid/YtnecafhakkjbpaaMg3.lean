import Derived.Test.YtnecafhakkjbpaaMg2
/- ManifestAgain walked. -/
namespace Go.Proofs.Ytnecafhakkjbpaa
open Go.RowKit Go.Maps

/-- Texts that came in. -/
def TXs (w : World) (B : Nat) (A : Option Addr) (l : List (List UInt8)) : Prop := ∀ (i : Nat) (b : List UInt8), l[i]? = some b → ∃ (ad : Addr) (x : Option Addr) (c : Nat), A = some ad ∧ ad.block < B ∧ w.cell? (ad.add i) = some (.slice x b.length c) ∧ Rd w B x (bv b)
theorem TXs.at_ {W w : World} {A : Option Addr} {l : List (List UInt8)} (h : TXs W W.heap.size A l) (hb : Below W.heap.size W w) {i : Nat} {b : List UInt8} (hi : l[i]? = some b) : ∃ (ad : Addr) (x : Option Addr) (c : Nat), A = some ad ∧ w.cell? (ad.add i) = some (.slice x b.length c) ∧ Rd W W.heap.size x (bv b) := by
  obtain ⟨ad, x, c, h1, h2, h3, h4⟩ := h i b hi
  exact ⟨ad, x, c, h1, (hb.cell (by rw [add_block]; exact h2)).trans h3, h4⟩
def sumT (l : List (List UInt8)) : Nat := (l.map fun b => b.length).sum
theorem sumT_take {l : List (List UInt8)} {k : Nat} {b : List UInt8} (h : l[k]? = some b) : sumT (l.take (k + 1)) = sumT (l.take k) + b.length := by
  unfold sumT
  rw [List.take_add_one, h]
  simp
theorem sumT_le (l : List (List UInt8)) (k : Nat) : sumT (l.take k) ≤ sumT l := by
  have e := List.take_append_drop k l
  have : sumT l = sumT (l.take k) + sumT (l.drop k) := by
    unfold sumT
    rw [← List.sum_append, ← List.map_append, e]
  omega
theorem sumT_mem {l : List (List UInt8)} {k : Nat} {b : List UInt8} (h : l[k]? = some b) : b.length ≤ sumT l := by
  have h1 := sumT_take h
  have h2 := sumT_le l (k + 1)
  omega
theorem Dk.Inv.setFuse {s : Dk} {N : Nat} (n : Int) (h : s.Inv N) (hn : n ≤ 9223372036854775807) : (fuseS n s).Inv N := by
  unfold fuseS
  split
  · exact h
  · exact Dk.Inv.same (s' := { s with fuse := max n (-1) }) h rfl rfl rfl rfl (Nat.le_refl N) ⟨h.rg.q, h.rg.u, ⟨by show -1 ≤ max n (-1); omega, by show max n (-1) ≤ _; omega⟩, h.rg.o⟩
theorem lv_fuse {W w : World} {S : Nat → Prop} {d N : Nat} {s : Dk} (n : Int) (h : Lv W w S d s N) (hn : n ≤ 9223372036854775807) : Calls Try.prog 9 #[.pointer (some ⟨d, 0, none⟩), .int .i64 n] w fun e w' => e = .returned (.tuple #[]) ∧ Lv.Then W w w' S d (fuseS n s) N :=
  (fuse_any S d s n w h.1).mono fun _ _ ⟨h1, h2⟩ => ⟨h1, h.did h2 (h.2.2.2.setFuse n hn)⟩
theorem ok_nil : LdOk 1073741824 [] := ⟨by omega, List.Pairwise.nil, (fun p hp => by cases hp), by simp, by simp [sumL]⟩
set_option maxRecDepth 100000 in
set_option maxHeartbeats 4000000 in
theorem laid_no (W : World) : Calls Try.prog 8 #[.string catN, .slice none 0 0, .bool false] W fun e w' => ∃ d S, e = .returned (.tuple #[.pointer (some ⟨d, 0, none⟩), .bool true]) ∧ Lv W w' S d (ldS 1073741824 []) 2 := by
  go_enter Try.func8, Try.ntmps8
  go_wp2_with (first
    | (go_at_call 14
       refine (lv_load7 (W := W) (N := 2) (Below.refl _ _) ok_nil rfl (fun i p hp => by simp at hp) (by simp)).mono ?_
       rintro e w1 ⟨d, S, rfl, g1, _, _⟩
       have H1 := Lib.hid g1
       clear g1))
  go_ret2
  exact ⟨d, S, rfl, H1.out⟩
theorem tx_bool {tl : List (List UInt8)} {lo k : Nat} {z b : List UInt8} (h : tl[k]? = some b) (hlo : lo ≤ k) : Tx tl lo (k + 1) z ↔ Tx tl lo k z ∨ z = b := by
  constructor
  · rintro ⟨i, h1, h2, h3⟩
    rcases Nat.lt_or_ge i k with h4 | h4
    · exact .inl ⟨i, h1, h4, h3⟩
    · obtain rfl : i = k := by omega
      rw [h] at h3
      injection h3 with h3
      exact .inr h3.symm
  · rintro (⟨i, h1, h2, h3⟩ | rfl)
    · exact ⟨i, h1, by omega, h3⟩
    · exact ⟨k, hlo, by omega, h⟩
theorem final_round {tl : List (List UInt8)} {m j : Nat} {img : List FE} (h : IG tl m j img) (hI : (ldS 1073741824 img).Inv 2) :
    (replT catN catT [1, 2] (ldS 1073741824 img)).1 = 0 ∧ ∀ ps, fileI catN (crashL (replT catN catT [1, 2] (ldS 1073741824 img)).2 ps) = some [1, 2] := by
  obtain ⟨g1, g2, g3, g4, g5, g6, g7, g8⟩ := ld_facts 1073741824 img h.ok.asc
  have hsum := sum_two h.two_ h.sm
  have hG := ld_gd (q := 1073741824) (nm := catN) (tm := catT) (A := Tx tl (m - 1) j) (must := 0 < m) h.ok.asc h.two h.must h.sm
  rcases repl_gd (b := [1, 2]) hG hI cat_ne g7 cat_good.1 cat_good.2 (by have := seen_few hI; omega) (by rw [g4, g5]; simp; omega) (by simp) with ⟨e, hg⟩ | ⟨_, _, hf⟩
  · refine ⟨e, fun ps => ?_⟩
    obtain ⟨c1, c2, _⟩ := hg.crash ps
    obtain ⟨z, hz⟩ := fileI_has (c2 trivial)
    have hzb := (c1 _ (fileI_mem hz)).2 rfl
    simp only at hzb
    subst hzb
    exact hz
  · rw [g6] at hf
    omega
open Classical in
noncomputable def txB (tl : List (List UInt8)) (lo k : Nat) (z : List UInt8) : Bool := decide (Tx tl lo k z)
theorem txB_yes {tl : List (List UInt8)} {lo k : Nat} {z : List UInt8} (h : Tx tl lo k z) : txB tl lo k z = true := by unfold txB; simp [h]
theorem txB_start {tl : List (List UInt8)} {lo : Nat} {z : List UInt8} : txB tl lo lo z = false := by
  unfold txB
  simp only [decide_eq_false_iff_not]
  rintro ⟨k, h1, h2, _⟩
  omega
theorem txB_next {tl : List (List UInt8)} {lo k : Nat} {z b : List UInt8} (h : tl[k]? = some b) (hlo : lo ≤ k) : txB tl lo (k + 1) z = (txB tl lo k z || decide (z = b)) := by
  unfold txB
  rw [Bool.eq_iff_iff]
  simp [tx_bool h hlo]
set_option maxRecDepth 100000 in
set_option maxHeartbeats 32000000 in
theorem again_law (A : Option Addr) (n c : Nat) (tl : List (List UInt8)) (Af : Option Addr) (nf cf : Nat) (fl : List Int) (Ap : Option Addr) (np cp : Nat) (ps : List Int) (W : World) (hT : TXs W W.heap.size A tl) (hn : tl.length = n) (hsum : sumT tl ≤ 1048576) (hnm : n ≤ 1048576)
    (hF : Rd W W.heap.size Af (fl.map (Value.int .i64))) (hnf : fl.length = nf) (hff : ∀ x ∈ fl, (Lit.int .i64 x).wf = true) (hP : Rd W W.heap.size Ap (ps.map (Value.int .i64))) (hnp : ps.length = np) (hcp : np ≤ cp) (hwf : ∀ x ∈ ps, (Lit.int .i64 x).wf = true) (hpl : np ≤ 140737488355328) :
    Calls Try.prog 3 #[.slice A n c, .slice Af nf cf, .slice Ap np cp] W fun e w' => e = .returned (.bool true) ∧ Below W.heap.size W w' := by
  have HA := Lib.hid (And.intro hT (And.intro hn (And.intro hsum (And.intro hF (And.intro hnf hff)))))
  have HP := Lib.hid (And.intro hP (And.intro hnp (And.intro hcp (And.intro hwf hpl))))
  clear hT hn hsum hF hnf hff hP hnp hcp hwf hpl
  go_enter Try.func3, Try.ntmps3
  go_wp2_with (first
    | (go_at_call 8
       refine (laid_no W).mono ?_
       rintro e w0 ⟨d0, S0, rfl, g0⟩
       have H0 := Lib.hid g0
       clear g0))
  go_loopw [9, 10] (fun v9 v10 wr => ∃ (j t : Nat), j ≤ n ∧ v10 = .int .i64 j ∧ v9 = .int .i64 t ∧ t = sumT (tl.take j) ∧ wr = w0) (fun _ v10 _ => n - (intOf v10).toNat)
  case atStart => exact ⟨0, 0, Nat.zero_le _, rfl, rfl, rfl, rfl⟩
  case round =>
    obtain ⟨j, t, hj, rfl, rfl, ht, hw⟩ := hrel
    have htm : t ≤ 1048576 := by have := sumT_le tl j; have := HA.out.2.2.1; omega
    have HW := Lib.hid (And.intro hw ht)
    clear ht
    subst hw
    by_cases hlt : j < n
    · have hj0 : (0 : Int) ≤ j := by omega
      have hj1 : (j : Int) < n := by omega
      obtain ⟨b, hb⟩ : ∃ b, tl[j]? = some b := ⟨_, List.getElem?_eq_getElem (by rw [HA.out.2.1]; exact hlt)⟩
      obtain ⟨ad, x, cx, rfl, c0, _⟩ := HA.out.1.at_ H0.out.2.2.1 hb
      obtain ⟨l, hl⟩ : ∃ l, b.length = l := ⟨_, rfl⟩
      have hlm : l ≤ 1048576 := by have := sumT_mem hb; have := HA.out.2.2.1; omega
      rw [hl] at c0
      have HB := Lib.hid (And.intro hb hl)
      have hno : ¬ ((l : Int) > 268435456 - (t : Int)) := by omega
      clear hb hl
      go_wp2
      go_roundw
      case rel => exact ⟨j + 1, t + l, by omega, by go_num, by go_num, by rw [sumT_take HB.out.1, HB.out.2, HW.out.2], trivial⟩
      case measure => simp [intOf]; omega
    · go_wp2
      clear hlt hj htm HW
      go_loopw [7, 11, 12] (fun v7 v11 v12 wr => ∃ (j m d : Nat) (S : Nat → Prop) (img : List FE), j ≤ n ∧ j ≤ nf ∧ m ≤ j ∧ v7 = .pointer (some ⟨d, 0, none⟩) ∧ v11 = .int .i64 ((m : Int) - 1) ∧ v12 = .int .i64 j ∧ Lv W wr S d (ldS 1073741824 img) 2 ∧ IG tl m j img) (fun _ _ v12 _ => n - (intOf v12).toNat)
      case atStart => exact ⟨0, 0, d0, S0, [], Nat.zero_le _, Nat.zero_le _, Nat.le_refl _, rfl, by simp, rfl, H0.out, ⟨ok_nil, (fun p hp => by cases hp), (fun h => by omega), (fun p hp => by cases hp)⟩⟩
      case round =>
        obtain ⟨j, m, d, S, img, hj, hjf, hmj, rfl, rfl, rfl, hL, hG⟩ := hrel
        by_cases hlt : j < n ∧ j < nf
        · obtain ⟨hlt1, hlt2⟩ := hlt
          have hj0 : (0 : Int) ≤ j := by omega
          have hj1 : (j : Int) < n := by omega
          have hj2 : (j : Int) < nf := by omega
          obtain ⟨b, hb⟩ : ∃ b, tl[j]? = some b := ⟨_, List.getElem?_eq_getElem (by rw [HA.out.2.1]; exact hlt1)⟩
          obtain ⟨ad, x, cx, rfl, had, cW, hRb⟩ := HA.out.1 j b hb
          obtain ⟨f, hf⟩ : ∃ f, fl[j]? = some f := ⟨_, List.getElem?_eq_getElem (by rw [HA.out.2.2.2.2.1]; exact hlt2)⟩
          obtain ⟨af, rfl, haf, f0⟩ := HA.out.2.2.2.1 j (.int .i64 f) (by rw [List.getElem?_map, hf]; rfl)
          have f1 := (hL.2.2.1.cell (p := af.add j) (by rw [add_block]; exact haf)).trans f0
          obtain ⟨l, hl⟩ : ∃ l, b.length = l := ⟨_, rfl⟩
          have hlm : l ≤ 1048576 := by have := sumT_mem hb; have := HA.out.2.2.1; omega
          have hfm : f ≤ 9223372036854775807 := by have := HA.out.2.2.2.2.2 f (List.mem_of_getElem? hf); simp [Lit.wf, IntKind.min, IntKind.max, IntKind.signed, IntKind.bits] at this; omega
          obtain ⟨s1, hs1⟩ : ∃ s1, fuseS f (ldS 1073741824 img) = s1 := ⟨_, rfl⟩
          have hI1 : s1.Inv 2 := hs1 ▸ hL.2.2.2.setFuse f hfm
          obtain ⟨ev, s2, hr⟩ : ∃ ev s2, replT catN catT b s1 = (ev, s2) := ⟨_, _, rfl⟩
          rw [hl] at cW
          have HUP : Hid (∀ v, Below W.heap.size W v → v.cell? (ad.add j) = some (.slice x l cx)) := fun v hv => (hv.cell (by rw [add_block]; exact had)).trans cW
          have HB := Lib.hid (And.intro hb (And.intro hl (And.intro hRb (And.intro hs1 (And.intro hr hI1)))))
          have HL := Lib.hid (And.intro hL hG)
          have hfm2 := Lib.hid hfm
          clear hb hl hRb hs1 hr hI1 hL hG hf haf f0 hfm had cW
          go_upto_region 18 with (first
            | (go_at_call 9
               refine (lv_fuse f HL.out.1 hfm2.out).mono ?_
               rintro e w1 ⟨rfl, h1⟩
               rw [HB.out.2.2.2.1] at h1
               obtain ⟨S1, g1, _, _⟩ := h1
               have c1 := HUP.out w1 g1.2.2.1
               have H1 := Lib.hid g1
               clear g1 f1)
            | (go_at_call 10
               refine (replace_any W w1 S1 d s1 2 catN x l cx b H1.out (by decide) (by decide) (H1.out.out HB.out.2.2.1) HB.out.2.1 (by omega)).mono ?_
               rintro e w2 ⟨rfl, h2⟩
               rw [show catN ++ ⟨#[46, 116, 109, 112]⟩ = catT from by decide] at h2 ⊢
               rw [HB.out.2.2.2.2.1] at h2 ⊢
               obtain ⟨S2, g2, _, _⟩ := h2
               have H2 := Lib.hid g2
               clear g2 c1)
            | (go_at_call 11
               refine (lv_crash ps Ap np cp H2.out (by omega) (rd_up HP.out.1 H2.out.2.2.1) HP.out.2.1 HP.out.2.2.1 HP.out.2.2.2.1 HP.out.2.2.2.2).mono ?_
               rintro e w3 ⟨us, ib, ic, rfl, hfl, hb3⟩
               obtain ⟨left, hleft⟩ : ∃ left, crashL s2 ps = left := ⟨_, rfl⟩
               obtain ⟨il, hil⟩ : ∃ il, left.length = il := ⟨_, rfl⟩
               rw [hleft, hil] at hfl ⊢
               have hrd := HL.out.2.round hmj HB.out.1 (by rw [HB.out.2.1]; exact hlm) HB.out.2.2.2.1 HB.out.2.2.2.2.2 (N := 2 + 8) (by rw [HB.out.2.2.2.2.1]; exact H2.out.2.2.2) ps
               rw [HB.out.2.2.2.2.1] at hrd
               simp only [hleft] at hrd
               have H3 := Lib.hid (And.intro hfl.im (And.intro (H2.out.2.2.1.trans (hb3.mono H2.out.2.2.1.size)) (And.intro hil hrd)))
               clear hfl hb3 hil hrd hleft))
          obtain ⟨lo, hlo⟩ : ∃ lo, m - 1 = lo := ⟨_, rfl⟩
          have hmax : max ((m : Int) - 1) 0 = (lo : Int) := by omega
          have hloj : lo ≤ j := by omega
          rcases H3.out.2.2.2 with ⟨rfl, hIG, hfi⟩ | ⟨rfl, _, hIG, hz, hnone⟩
          · skip
            have HI := Lib.hid (And.intro hIG (And.intro hfi (show Tx tl lo (j + 1) b from ⟨j, hloj, by omega, HB.out.1⟩)))
            clear hIG hfi
            obtain ⟨zl, hzl⟩ : ∃ zl, b.length = zl := ⟨_, rfl⟩
            have hzm : zl ≤ 1048576 := by rw [← hzl]; exact HI.out.1.sm _ (fileI_mem HI.out.2.1)
            have HZ := Lib.hid hzl
            clear hzl
            go_wp2_with (first
              | (go_at_call 12
                 refine (file_any ib il ic catN left w3 H3.out.2.2.1 H3.out.1 (by have := HI.out.1.two_; have := H3.out.2.2.1; omega)).mono ?_
                 rintro e w4 ⟨hfr, hw4⟩
                 rw [HI.out.2.1] at hfr
                 obtain ⟨zx, zc, rfl, hzr⟩ := hfr
                 have hw5 := hw4.symm
                 subst hw5
                 rw [HZ.out]
                 have H4 := Lib.hid hzr
                 clear hzr hw4))
            go_loopw [17, 18] (fun v17 v18 wx => ∃ (k q : Nat), lo ≤ k ∧ k ≤ j + 1 ∧ v18 = .int .i64 k ∧ v17 = .bool (txB tl lo k b) ∧ wx = w3.drewN q) (fun _ v18 _ => j + 1 - (intOf v18).toNat)
            case atStart => exact ⟨lo, 0, Nat.le_refl _, by omega, rfl, by rw [txB_start], rfl⟩
            case round =>
              obtain ⟨k, q, hk1, hk2, rfl, rfl, hwx⟩ := hrel
              have HX := Lib.hid hwx
              clear hwx
              by_cases hkj : k ≤ j
              · have hk0 : (0 : Int) ≤ k := by omega
                have hk3 : (k : Int) ≤ j := by omega
                have hk4 : (k : Int) < n := by omega
                obtain ⟨bk, hbk⟩ : ∃ bk, tl[k]? = some bk := ⟨_, List.getElem?_eq_getElem (by rw [HA.out.2.1]; omega)⟩
                have hbx : Below W.heap.size W wr := by rw [HX.out]; exact below_drewN H3.out.2.1 q
                obtain ⟨ak, xk, ck, ek, ak0, hRk⟩ := HA.out.1.at_ hbx hbk
                cases ek
                obtain ⟨lk, hlk⟩ : ∃ lk, bk.length = lk := ⟨_, rfl⟩
                have hlkm : lk ≤ 1048576 := by have := sumT_mem hbk; have := HA.out.2.2.1; omega
                rw [hlk] at ak0
                have HK := Lib.hid (And.intro hbk (And.intro hRk (And.intro hlk hbx)))
                clear hbk hRk hlk hbx
                cases htx : txB tl lo k b with
                | true =>
                  have HTX := Lib.hid htx
                  clear htx
                  go_wp2
                  go_roundw
                  case rel => exact ⟨k + 1, q, by omega, by omega, by go_num, by rw [txB_next HK.out.1 hk1, HTX.out]; simp, HX.out⟩
                  case measure => simp [intOf]; omega
                | false =>
                  have HTX := Lib.hid htx
                  clear htx
                  go_wp2_with (first
                    | (go_at_call 13
                       refine (same7_any zx xk zl zc lk ck b bk _ HZ.out HK.out.2.2.1 (by rw [HX.out]; exact H4.out) (rd_up HK.out.2.1 HK.out.2.2.2) (by omega) (by omega)).mono ?_
                       rintro e w6 ⟨rfl, k6, hw6⟩
                       have H6 := Lib.hid (show ∃ q, w6 = w3.drewN q from ⟨_, by rw [hw6, HX.out]; first | rfl | exact World.drewN_drewN ..⟩)
                       clear hw6 ak0))
                  go_roundw
                  case rel =>
                    obtain ⟨q6, hq6⟩ := H6.out
                    exact ⟨k + 1, q6, by omega, by omega, by go_num, by rw [txB_next HK.out.1 hk1, HTX.out]; simp, hq6⟩
                  case measure => simp [intOf]; omega
              · have hkj1 : ¬ ((k : Int) ≤ j) := by omega
                have hke : k = j + 1 := by omega
                have htt : txB tl lo k b = true := by rw [hke]; exact txB_yes HI.out.2.2
                rw [htt]
                have hbx : Below W.heap.size W wr := by rw [HX.out]; exact below_drewN H3.out.2.1 q
                have cj := HUP.out wr hbx
                have HBX := Lib.hid (And.intro hbx (show IM wr wr.heap.size ib left by rw [HX.out]; exact (H3.out.1.drewN q)))
                clear hbx htt hke
                by_cases hm0 : m = 0
                · have hlast : ((m : Int) - 1) < 0 := by omega
                  clear hm0
                  go_wp2_with (first
                    | (go_at_call 13
                       refine (same7_any zx x zl zc l cx b b _ HZ.out HB.out.2.1 (by rw [HX.out]; exact H4.out) (rd_up HB.out.2.2.1 HBX.out.1) (by omega) (by omega)).mono ?_
                       rintro e w7 ⟨rfl, k7, hw7⟩
                       rw [show decide (b = b) = true from decide_eq_true rfl]
                       have H7 := Lib.hid (show Below W.heap.size W w7 ∧ IM w7 w7.heap.size ib left by rw [hw7]; exact ⟨below_drewN HBX.out.1 k7, HBX.out.2.drewN k7⟩)
                       clear hw7 cj)
                    | (go_at_call 14
                       refine (lv_load7 (W := W) (N := 2) H7.out.1 HI.out.1.ok H3.out.2.2.1 H7.out.2 HI.out.1.two_).mono ?_
                       rintro e w8 ⟨d8, S8, rfl, g8, _, _⟩
                       have H8 := Lib.hid g8
                       clear g8))
                  go_roundw
                  case rel => exact ⟨j + 1, j + 1, d8, S8, left, by omega, by omega, by omega, rfl, by go_num, by go_num, H8.out, HI.out.1⟩
                  case measure => simp [intOf]; omega
                · have hlast : ¬ (((m : Int) - 1) < 0) := by omega
                  clear hm0
                  go_wp2_with (first
                    | (go_at_call 13
                       refine (same7_any zx x zl zc l cx b b _ HZ.out HB.out.2.1 (by rw [HX.out]; exact H4.out) (rd_up HB.out.2.2.1 HBX.out.1) (by omega) (by omega)).mono ?_
                       rintro e w7 ⟨rfl, k7, hw7⟩
                       rw [show decide (b = b) = true from decide_eq_true rfl]
                       have H7 := Lib.hid (show Below W.heap.size W w7 ∧ IM w7 w7.heap.size ib left by rw [hw7]; exact ⟨below_drewN HBX.out.1 k7, HBX.out.2.drewN k7⟩)
                       clear hw7 cj)
                    | (go_at_call 14
                       refine (lv_load7 (W := W) (N := 2) H7.out.1 HI.out.1.ok H3.out.2.2.1 H7.out.2 HI.out.1.two_).mono ?_
                       rintro e w8 ⟨d8, S8, rfl, g8, _, _⟩
                       have H8 := Lib.hid g8
                       clear g8))
                  go_roundw
                  case rel => exact ⟨j + 1, j + 1, d8, S8, left, by omega, by omega, by omega, rfl, by go_num, by go_num, H8.out, HI.out.1⟩
                  case measure => simp [intOf]; omega
          · cases hfi : fileI catN left with
            | some z =>
              have HI := Lib.hid (And.intro hIG (And.intro hfi (show Tx tl lo (j + 1) z from hlo ▸ hz z hfi)))
              clear hIG hfi hz hnone
              obtain ⟨zl, hzl⟩ : ∃ zl, z.length = zl := ⟨_, rfl⟩
              have hzm : zl ≤ 1048576 := by rw [← hzl]; exact HI.out.1.sm _ (fileI_mem HI.out.2.1)
              have HZ := Lib.hid hzl
              clear hzl
              go_wp2_with (first
                | (go_at_call 12
                   refine (file_any ib il ic catN left w3 H3.out.2.2.1 H3.out.1 (by have := HI.out.1.two_; have := H3.out.2.2.1; omega)).mono ?_
                   rintro e w4 ⟨hfr, hw4⟩
                   rw [HI.out.2.1] at hfr
                   obtain ⟨zx, zc, rfl, hzr⟩ := hfr
                   have hw5 := hw4.symm
                   subst hw5
                   rw [HZ.out]
                   have H4 := Lib.hid hzr
                   clear hzr hw4))
              go_loopw [17, 18] (fun v17 v18 wx => ∃ (k q : Nat), lo ≤ k ∧ k ≤ j + 1 ∧ v18 = .int .i64 k ∧ v17 = .bool (txB tl lo k z) ∧ wx = w3.drewN q) (fun _ v18 _ => j + 1 - (intOf v18).toNat)
              case atStart => exact ⟨lo, 0, Nat.le_refl _, by omega, rfl, by rw [txB_start], rfl⟩
              case round =>
                obtain ⟨k, q, hk1, hk2, rfl, rfl, hwx⟩ := hrel
                have HX := Lib.hid hwx
                clear hwx
                by_cases hkj : k ≤ j
                · have hk0 : (0 : Int) ≤ k := by omega
                  have hk3 : (k : Int) ≤ j := by omega
                  have hk4 : (k : Int) < n := by omega
                  obtain ⟨bk, hbk⟩ : ∃ bk, tl[k]? = some bk := ⟨_, List.getElem?_eq_getElem (by rw [HA.out.2.1]; omega)⟩
                  have hbx : Below W.heap.size W wr := by rw [HX.out]; exact below_drewN H3.out.2.1 q
                  obtain ⟨ak, xk, ck, ek, ak0, hRk⟩ := HA.out.1.at_ hbx hbk
                  cases ek
                  obtain ⟨lk, hlk⟩ : ∃ lk, bk.length = lk := ⟨_, rfl⟩
                  have hlkm : lk ≤ 1048576 := by have := sumT_mem hbk; have := HA.out.2.2.1; omega
                  rw [hlk] at ak0
                  have HK := Lib.hid (And.intro hbk (And.intro hRk (And.intro hlk hbx)))
                  clear hbk hRk hlk hbx
                  cases htx : txB tl lo k z with
                  | true =>
                    have HTX := Lib.hid htx
                    clear htx
                    go_wp2
                    go_roundw
                    case rel => exact ⟨k + 1, q, by omega, by omega, by go_num, by rw [txB_next HK.out.1 hk1, HTX.out]; simp, HX.out⟩
                    case measure => simp [intOf]; omega
                  | false =>
                    have HTX := Lib.hid htx
                    clear htx
                    go_wp2_with (first
                      | (go_at_call 13
                         refine (same7_any zx xk zl zc lk ck z bk _ HZ.out HK.out.2.2.1 (by rw [HX.out]; exact H4.out) (rd_up HK.out.2.1 HK.out.2.2.2) (by omega) (by omega)).mono ?_
                         rintro e w6 ⟨rfl, k6, hw6⟩
                         have H6 := Lib.hid (show ∃ q, w6 = w3.drewN q from ⟨_, by rw [hw6, HX.out]; first | rfl | exact World.drewN_drewN ..⟩)
                         clear hw6 ak0))
                    go_roundw
                    case rel =>
                      obtain ⟨q6, hq6⟩ := H6.out
                      exact ⟨k + 1, q6, by omega, by omega, by go_num, by rw [txB_next HK.out.1 hk1, HTX.out]; simp, hq6⟩
                    case measure => simp [intOf]; omega
                · have hkj1 : ¬ ((k : Int) ≤ j) := by omega
                  have hke : k = j + 1 := by omega
                  have htt : txB tl lo k z = true := by rw [hke]; exact txB_yes HI.out.2.2
                  rw [htt]
                  have hbx : Below W.heap.size W wr := by rw [HX.out]; exact below_drewN H3.out.2.1 q
                  have cj := HUP.out wr hbx
                  have HBX := Lib.hid (And.intro hbx (show IM wr wr.heap.size ib left by rw [HX.out]; exact (H3.out.1.drewN q)))
                  clear hbx htt hke
                  by_cases hm0 : m = 0
                  · have hlast : ((m : Int) - 1) < 0 := by omega
                    clear hm0
                    go_wp2_with (first
                      | (go_at_call 14
                         refine (lv_load7 (W := W) (N := 2) HBX.out.1 HI.out.1.ok H3.out.2.2.1 HBX.out.2 HI.out.1.two_).mono ?_
                         rintro e w8 ⟨d8, S8, rfl, g8, _, _⟩
                         have H8 := Lib.hid g8
                         clear g8))
                    go_roundw
                    case rel => exact ⟨j + 1, m, d8, S8, left, by omega, by omega, by omega, rfl, rfl, by go_num, H8.out, HI.out.1⟩
                    case measure => simp [intOf]; omega
                  · have hlast : ¬ (((m : Int) - 1) < 0) := by omega
                    clear hm0
                    go_wp2_with (first
                      | (go_at_call 14
                         refine (lv_load7 (W := W) (N := 2) HBX.out.1 HI.out.1.ok H3.out.2.2.1 HBX.out.2 HI.out.1.two_).mono ?_
                         rintro e w8 ⟨d8, S8, rfl, g8, _, _⟩
                         have H8 := Lib.hid g8
                         clear g8))
                    go_roundw
                    case rel => exact ⟨j + 1, m, d8, S8, left, by omega, by omega, by omega, rfl, rfl, by go_num, H8.out, HI.out.1⟩
                    case measure => simp [intOf]; omega
            | none =>
              have hm0 := hnone hfi
              have HI := Lib.hid (And.intro hIG hfi)
              clear hIG hfi hz hnone
              subst hm0
              obtain rfl : lo = 0 := by omega
              go_wp2_with (first
                | (go_at_call 12
                   refine (file_any ib il ic catN left w3 H3.out.2.2.1 H3.out.1 (by have := HI.out.1.two_; have := H3.out.2.2.1; omega)).mono ?_
                   rintro e w4 ⟨hfr, hw4⟩
                   rw [HI.out.2] at hfr
                   have hfr2 : e = .returned (.tuple #[.slice none 0 0, .bool false]) := hfr
                   subst hfr2
                   have hw5 := hw4.symm
                   subst hw5
                   clear hw4 hfr))
              go_loopw [17, 18] (fun v17 v18 wx => ∃ (k : Nat), k ≤ j + 1 ∧ v18 = .int .i64 k ∧ v17 = .bool false ∧ wx = w3) (fun _ v18 _ => j + 1 - (intOf v18).toNat)
              case atStart => exact ⟨0, by omega, rfl, rfl, rfl⟩
              case round =>
                obtain ⟨k, hk2, rfl, rfl, hwx⟩ := hrel
                subst hwx
                by_cases hkj : k ≤ j
                · have hk0 : (0 : Int) ≤ k := by omega
                  have hk3 : (k : Int) ≤ j := by omega
                  go_wp2
                  go_roundw
                  case rel => exact ⟨k + 1, by omega, by go_num, rfl, trivial⟩
                  case measure => simp [intOf]; omega
                · have hkj1 : ¬ ((k : Int) ≤ j) := by omega
                  go_wp2_with (first
                    | (go_at_call 14
                       refine (lv_load7 (W := W) (N := 2) H3.out.2.1 HI.out.1.ok H3.out.2.2.1 H3.out.1 HI.out.1.two_).mono ?_
                       rintro e w8 ⟨d8, S8, rfl, g8, _, _⟩
                       have H8 := Lib.hid g8
                       clear g8))
                  go_roundw
                  case rel => exact ⟨j + 1, 0, d8, S8, left, by omega, by omega, by omega, rfl, by simp, by go_num, H8.out, HI.out.1⟩
                  case measure => simp [intOf]; omega
        · have HL := Lib.hid (And.intro hL hG)
          have HFR := Lib.hid (final_round hG hL.2.2.2)
          have HBO := Lib.hid (show Below W.heap.size W wr from hL.2.2.1)
          have HOU : Hid (Out (wr.alloc (.cells #[.int .u8 1, .int .u8 2] 5)) S (some ⟨wr.heap.size, 0, none⟩) [1, 2]) := by
            refine ⟨?_, fun ad e _ hS => ?_⟩
            · have h := rd_new wr #[.int .u8 1, .int .u8 2] 5
              exact h.mono (by simp)
            · injection e with e
              subst e
              have := HL.out.1.1.lt _ hS
              exact absurd this (Nat.lt_irrefl _)
          obtain ⟨s2, hs2⟩ : ∃ s2, replT catN catT [1, 2] (ldS 1073741824 img) = s2 := ⟨_, rfl⟩
          rw [hs2] at HFR
          have HS2 := Lib.hid hs2
          clear hs2 hL hG
          have T0 := Lib.hid True.intro
          rcases (show ¬ ((j : Int) < n) ∨ (((j : Int) < n) ∧ ¬ ((j : Int) < nf)) by omega) with hq | ⟨hq, hq2⟩
          all_goals
            go_wp2_with (first
              | (go_at_call 10
                 refine (replace_any W _ S d (ldS 1073741824 img) 2 catN (some ⟨wr.heap.size, 0, none⟩) 2 2 [1, 2] (HL.out.1.next (Below.al wr _)) (by decide) (by decide) HOU.out rfl (by decide)).mono ?_
                 rintro e w2 ⟨rfl, h2⟩
                 rw [show catN ++ ⟨#[46, 116, 109, 112]⟩ = catT from by decide] at h2 ⊢
                 rw [HS2.out] at h2 ⊢
                 rw [HFR.out.1]
                 obtain ⟨S2, g2, _, _⟩ := h2
                 have H2 := Lib.hid g2
                 clear g2)
              | (go_at_call 11
                 refine (lv_crash ps Ap np cp H2.out (by omega) (rd_up HP.out.1 H2.out.2.2.1) HP.out.2.1 HP.out.2.2.1 HP.out.2.2.2.1 HP.out.2.2.2.2).mono ?_
                 rintro e w3 ⟨us, ib, ic, rfl, hfl, hb3⟩
                 obtain ⟨il, hil⟩ : ∃ il, (crashL s2.2 ps).length = il := ⟨_, rfl⟩
                 rw [hil] at hfl ⊢
                 have H3 := Lib.hid (And.intro hfl.im (And.intro (H2.out.2.2.1.trans (hb3.mono H2.out.2.2.1.size)) (And.intro hil (show il ≤ _ from hil ▸ crash_len H2.out.2.2.2 ps))))
                 clear hfl hb3 hil)
              | (go_at_call 12
                 refine (file_any ib il ic catN (crashL s2.2 ps) w3 H3.out.2.2.1 H3.out.1 (by have := H3.out.2.2.2; omega)).mono ?_
                 rintro e w4 ⟨hfr, hw4⟩
                 rw [HFR.out.2 ps] at hfr
                 obtain ⟨zx, zc, rfl, hzr⟩ := hfr
                 have hw5 := hw4.symm
                 subst hw5
                 have H4 := Lib.hid hzr
                 clear hzr hw4)
              | (go_at_call 13
                 refine (same7_any zx (some ⟨w3.heap.size, 0, none⟩) 2 zc 2 2 [1, 2] [1, 2] _ rfl rfl (rd_up H4.out (Below.al w3 _)) ((rd_new w3 #[.int .u8 1, .int .u8 2] 5).mono (by simp)) (by omega) (by omega)).mono ?_
                 rintro e w7 ⟨rfl, k7, hw7⟩
                 rw [show decide (([1, 2] : List UInt8) = [1, 2]) = true from decide_eq_true rfl]
                 have H7 := Lib.hid (show Below W.heap.size W w7 by rw [hw7]; exact below_drewN (H3.out.2.1.trans ((Below.al w3 _).mono H3.out.2.1.size)) k7)
                 clear hw7))
            go_ret
            exact ⟨rfl, H7.out⟩
end Go.Proofs.Ytnecafhakkjbpaa
