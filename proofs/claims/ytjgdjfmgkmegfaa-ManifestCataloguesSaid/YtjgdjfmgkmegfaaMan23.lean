import Derived.Test.YtjgdjfmgkmegfaaMan22
namespace Go.Proofs.Ytjgdjfmgkmegfaa
open Go.RowKit Go.Maps

theorem dman_yes2 {bs l : List UInt8} {w W W' : World} {p mb k1 c1 k2 c2 : Nat} {st : RSt} {v1 v2 v3 v4 v5 : Int} {b1 b2 : Option Addr} {ss : List Int} {ps : List P3} (d : RM w p mb l st v1 v2 v3 v4 v5 b1 k1 c1 b2 k2 c2 ss ps W)
    (hs : ss.length = k1) (hp : ps.length = k2) (hon : ∀ id' ns' nx' mk' cl' segs' prods', manR id' ns' nx' mk' cl' segs' prods' = true → encM id' ns' nx' mk' cl' segs' prods' = bs → id' = v1 ∧ ns' = v2 ∧ nx' = v3 ∧ mk' = v4 ∧ cl' = v5 ∧ segs' = ss ∧ prods' = ps)
    (hr : manR v1 v2 v3 v4 v5 ss ps = true) (he : encM v1 v2 v3 v4 v5 ss ps = bs)
    (hc : Chg (fun k => k = w.heap.size) W W') : DMan bs w W' (.returned (.tuple #[manV v1 v2 v3 v4 v5 (.slice b1 k1 c1) (.slice b2 k2 c2), .int .i64 0])) := by
  have o := d.rn.ord
  have hm := d.hm
  subst hs; subst hp
  refine .inl ⟨v1, v2, v3, v4, v5, ss, ps, b1, c1, b2, c2, hr, he, hon, rfl, ?_, ?_, d.dis⟩
  · exact ownsRow_low (ownsRow_block d.r1 fun k hk => hc.block k (d.r1.lt k hk).2 (by have := (d.r1.lt k hk).1; omega)) (by omega)
  · exact ownsRow_low (ownsRow_block d.r2 fun k hk => hc.block k (d.r2.lt k hk).2 (by have := (d.r2.lt k hk).1; omega)) (by omega)

set_option maxRecDepth 100000 in
set_option maxHeartbeats 16000000 in
theorem refDecodeM (A : Option Addr) (n c : Nat) (bs : List UInt8) (w : World) (hA : Rd w w.heap.size A (bv bs)) (hn : bs.length = n) (hnc : n ≤ c) (hmx : n ≤ 140737488351232) :
    Calls Try.prog 28 #[.slice A n c] w fun e w' => DMan bs w w' e ∧ Below w.heap.size w w' := by
  have hb0 : Below w.heap.size w (w.alloc (.cells #[.int .i64 0, .int .i64 0, .int .i64 0, .int .i64 0, .int .i64 0, .slice none 0 0, .slice none 0 0] 25)) := (Below.refl _ _).alloc (Nat.le_refl _) _
  have HB := Lib.hid hb0
  by_cases h9 : n < 9
  case pos =>
    have HNo : Hid (∀ id ns nx mk cl segs prods, manR id ns nx mk cl segs prods = true → encM id ns nx mk cl segs prods ≠ bs) := fun id ns nx mk cl segs prods hr he => by
      have h1 := congrArg List.length he
      rw [encM, if_pos hr, wrapB_len] at h1
      omega
    clear hA hb0 hn
    go_enter Try.func28, Try.ntmps28
    go_wp2
    refine bodyPost_ret (v := .tuple #[manV 0 0 0 0 0 (.slice none 0 0) (.slice none 0 0), .int .i64 72]) ?_ rfl ?_
    · simp [results, Try.results28, go_sem]
    · refine ⟨.inr ⟨HNo.out, rfl⟩, ?_⟩
      repeat (first | with_reducible exact HB.out | refine Below.setCell ?_ (by simp) _)
  obtain ⟨i0, hi0, hz0, hs0, hy0⟩ := info_parts info_int
  obtain ⟨i1, hi1, hz1, hs1, hy1⟩ := info_parts info_prod
  have hsl : ∀ W, (Instr.slice 40 (.slice A n c) (some (.int .i64 9)) none none).run Try.prog W = .ok (.slice (tailA A c 9) (n - 9) (c - 9)) W := fun _ => run_tail _ 40 Try.underlying40 sizeU8 A n c 9 (by omega)
  have hlen : (bs.drop 9).length = n - 9 := by simp [hn]
  have HAt := Lib.hid ((hA.tail_ (cap := c) 9 (by omega)).below hb0)
  have HA := Lib.hid hA
  have Hn := Lib.hid hn
  have hmx' : n ≤ 140737488355328 := by omega
  generalize hl : bs.drop 9 = l at hlen HAt
  have Hl := Lib.hid hl
  have Hlen := Lib.hid hlen
  have Hlx : Hid (l.length ≤ 140737488355328) := by show _ ≤ _; omega
  have HR0 := Lib.hid (Box.new w 25 #[.int .i64 0, .int .i64 0, .int .i64 0, .int .i64 0, .int .i64 0, .slice none 0 0, .slice none 0 0])
  clear hA hn hb0 hl hlen
  rcases h1 : uvS l ⟨0, false⟩ with ⟨v1, s1⟩
  rcases h2 : uvS l s1 with ⟨v2, s2⟩
  rcases h3 : uvS l s2 with ⟨v3, s3⟩
  rcases h4 : uvS l s3 with ⟨v4, s4⟩
  rcases h5 : uvS l s4 with ⟨v5, s5⟩
  rcases h6 : uvS l s5 with ⟨n1, s6⟩
  have q1 := uvS_le (l := l) (s := ⟨0, false⟩) (Nat.zero_le _)
  rw [h1] at q1
  have q2 := uvS_le q1.1
  rw [h2] at q2
  have q3 := uvS_le q2.1
  rw [h3] at q3
  have q4 := uvS_le q3.1
  rw [h4] at q4
  have q5 := uvS_le q4.1
  rw [h5] at q5
  have q6 := uvS_le q5.1
  rw [h6] at q6
  have hv1 := q1.2.2
  have hv2 := q2.2.2
  have hv3 := q3.2.2
  have hv4 := q4.2.2
  have hv5 := q5.2.2
  have hv6 := q6.2.2
  simp only at hv1 hv2 hv3 hv4 hv5 hv6
  clear q1 q2 q3 q4 q5 q6
  have hcan : CanM l s6 ([wrap64 (v1 : Int), wrap64 (v2 : Int), wrap64 (v3 : Int), wrap64 (v4 : Int), wrap64 (v5 : Int), (n1 : Int)] ++ []) := by
    have hl : ∀ xs : List Int, xs.length < 7 → ∀ id ns nx mk cl segs prods ys, manR id ns nx mk cl segs prods = true → numsM id ns nx mk cl segs prods = xs ++ ys → ys ≠ [] := by
      intro xs hx id ns nx mk cl segs prods ys _ he hy
      have := congrArg List.length he
      rw [numsM_len, List.length_append, hy] at this
      simp at this; omega
    exact ((((((CanM.start l).uv h1 (w64 _) (hl _ (by decide))).uv h2 (w64 _) (hl _ (by simp))).uv h3 (w64 _) (hl _ (by simp))).uv h4 (w64 _) (hl _ (by simp))).uv h5 (w64 _) (hl _ (by simp))).uv h6 (fun _ => rfl) (hl _ (by simp))
  have HC := Lib.hid hcan
  have V1 := Lib.hid h1
  have V2 := Lib.hid h2
  have V3 := Lib.hid h3
  have V4 := Lib.hid h4
  have V5 := Lib.hid h5
  have V6 := Lib.hid h6
  clear h1 h2 h3 h4 h5 h6 hcan
  go_enter Try.func28, Try.ntmps28
  go_wp2_with (first
    | (go_at_call 58; refine (refNewR _ _ _ l _ (HAt.out.mono (by simp)) Hlen.out (by omega)).mono ?_; rintro e w2 ⟨p, rfl, hR, hp, hb2⟩; have hwp : w.heap.size < p := (by simp at hp; omega); have hpl := hR.lt; have hres := HR0.out.below hb2 (by simp); have D0 := Lib.hid (RM.start (w := w) (v1 := 0) (v2 := 0) (v3 := 0) (v4 := 0) (v5 := 0) (RN.next (W' := w2.alloc (.cells #[.int .i64 0, .int .i64 0, .int .i64 0, .int .i64 0, .int .i64 0, .slice none 0 0, .slice none 0 0] 25)) ⟨hR, HB.out.trans (hb2.mono (by simp)), hres, hwp⟩ (Below.al' _ _)) (Box.new w2 25 _) hpl); clear hR hp hb2 hres)
    | (go_at_call 59; refine (refUv p l _ _ D0.out.rn.rd Hlx.out).mono ?_; rintro e wa1 ⟨he, ha⟩; rw [V1.out] at he ha; simp only at he ha; subst he; have D1 := Lib.hid (D0.out.step ha); have hc1 := D1.out.mbx.cell; have hf1 := D1.out.mbx.free; have hl1 := D1.out.mbx.lt; clear ha D0)
    | (go_at_call 59; refine (refUv p l _ _ (D1.out.set0 _).rn.rd Hlx.out).mono ?_; rintro e wa2 ⟨he, ha⟩; rw [V2.out] at he ha; simp only at he ha; subst he; have D2 := Lib.hid ((D1.out.set0 _).step ha); have hc2 := D2.out.mbx.cell; have hf2 := D2.out.mbx.free; have hl2 := D2.out.mbx.lt; clear ha D1)
    | (go_at_call 59; refine (refUv p l _ _ (D2.out.set1 _).rn.rd Hlx.out).mono ?_; rintro e wa3 ⟨he, ha⟩; rw [V3.out] at he ha; simp only at he ha; subst he; have D3 := Lib.hid ((D2.out.set1 _).step ha); have hc3 := D3.out.mbx.cell; have hf3 := D3.out.mbx.free; have hl3 := D3.out.mbx.lt; clear ha D2)
    | (go_at_call 59; refine (refUv p l _ _ (D3.out.set2 _).rn.rd Hlx.out).mono ?_; rintro e wa4 ⟨he, ha⟩; rw [V4.out] at he ha; simp only at he ha; subst he; have D4 := Lib.hid ((D3.out.set2 _).step ha); have hc4 := D4.out.mbx.cell; have hf4 := D4.out.mbx.free; have hl4 := D4.out.mbx.lt; clear ha D3)
    | (go_at_call 59; refine (refUv p l _ _ (D4.out.set3 _).rn.rd Hlx.out).mono ?_; rintro e wa5 ⟨he, ha⟩; rw [V5.out] at he ha; simp only at he ha; subst he; have D5 := Lib.hid ((D4.out.set3 _).step ha); have hc5 := D5.out.mbx.cell; have hf5 := D5.out.mbx.free; have hl5 := D5.out.mbx.lt; clear ha D4)
    | (go_at_call 59; refine (refUv p l _ _ (D5.out.set4 _).rn.rd Hlx.out).mono ?_; rintro e wa6 ⟨he, ha⟩; rw [V6.out] at he ha; simp only at he ha; subst he; have D6 := Lib.hid ((D5.out.set4 _).step ha); have hc6 := D6.out.mbx.cell; have hf6 := D6.out.mbx.free; have hl6 := D6.out.mbx.lt; clear ha D5))
  go_loopw [7] (fun i wr => ∃ (k : Nat) (ss : List Int) (b : Option Addr) (cc : Nat) (s : RSt), k ≤ n1 ∧ k ≤ 65 ∧ i = .int .u64 k ∧ ss.length = k ∧ RM w p w2.heap.size l s (wrap64 (v1 : Int)) (wrap64 (v2 : Int)) (wrap64 (v3 : Int)) (wrap64 (v4 : Int)) (wrap64 (v5 : Int)) b k cc none 0 0 ss [] wr ∧ CanM l s ([wrap64 (v1 : Int), wrap64 (v2 : Int), wrap64 (v3 : Int), wrap64 (v4 : Int), wrap64 (v5 : Int), (n1 : Int)] ++ ss))
    (fun i _ => 65 - (intOf i).toNat)
  case atStart => exact ⟨0, [], none, 0, s6, Nat.zero_le _, by omega, rfl, rfl, D6.out, HC.out⟩
  case round =>
    clear D6 hc6 hf6 hl6
    obtain ⟨k, ss, b, cc, s, hk, hk65, rfl, hsl_, hD, hCa⟩ := hrel
    have HD := Lib.hid hD
    have HL := Lib.hid (And.intro hsl_ hCa)
    have hmc := hD.mbx.cell
    have hml := hD.mbx.lt
    have hmf := hD.mbx.free
    clear hD hsl_ hCa
    by_cases hlt : k < n1 ∧ k ≤ 64
    · obtain ⟨hlt, hk64⟩ := hlt
      rcases hv : uvS l s with ⟨v, s'⟩
      have hvb := (uvS_le HD.out.rn.rd.le).2.2
      rw [hv] at hvb
      simp only at hvb
      have HV := Lib.hid hv
      clear hv
      go_wp2_with (first
        | (go_at_call 59; refine (refUv p l _ _ HD.out.rn.rd Hlx.out).mono ?_; rintro e w3 ⟨he, ha⟩; rw [HV.out] at he ha; simp only at he ha; subst he; have D1 := Lib.hid (HD.out.step ha); have hmc1 := D1.out.mbx.cell; have hmf1 := D1.out.mbx.free; have hml1 := D1.out.mbx.lt; clear ha HD hmc hml hmf)
        | (at_builtin
           have D7 := D1.out.next (Below.al' w3 (.cells #[.int .i64 (wrap64 (v : Int))] 3))
           have hrn : Rd (w3.alloc (.cells #[.int .i64 (wrap64 (v : Int))] 3)) (w3.heap.size + 1) (some ⟨w3.heap.size, 0, none⟩) [.int .i64 (wrap64 (v : Int))] := by simpa using rd_new w3 #[.int .i64 (wrap64 (v : Int))] 3
           refine wpList_app1 _ rfl (.tmp 56) (.tmp 58) _ rfl (w2.heap.size + 1) 3 i0 _ 1 8 Try.underlying22 hi0 hz0 hs0 hy0 rfl (by omega) (.slice b k cc) k (ss.map (.int .i64)) rfl D7.r1 _ _ 1 1 [.int .i64 (wrap64 (v : Int))] rfl rfl hrn (by simp [Value.oneCell']) (by unfold maxLen; omega) (by omega) (by simp; omega) (by omega) ?_
           intro g cap w8 hO hca hcb hrow hg hwh
           unfold maxLen at hcb
           have hq := D7.mbx.grown hg (fun e => by have := (D7.r1.lt _ e.symm).1; omega)
           have hqc := hq.cell
           have hqf := hq.free
           have hql := hq.lt
           have D9 := Lib.hid (D7.seg hg hrow (hwh.imp (fun h => h.symm) fun h => by simp at h ⊢; omega))
           clear D7 hO hrow hg hq hwh hrn D1))
      go_wp2
      go_roundw
      case rel => exact ⟨k + 1, ss ++ [wrap64 (v : Int)], _, _, s', by omega, by omega, by go_num, by simp [HL.out.1], D9.out, by rw [← List.append_assoc]; exact HL.out.2.uv HV.out (w64 _) (can_seg hlt HL.out.1)⟩
      case measure => simp [intOf]; omega
    · have HSL := Lib.hid (show ss.length = n1 ∨ 64 < n1 by have := HL.out.1; omega)
      rcases (show ¬ k < n1 ∨ (k < n1 ∧ ¬ k ≤ 64) by omega) with hx | ⟨hx, hy⟩
      all_goals
        rcases h7 : uvS l s with ⟨n2, s7⟩
        have hn2b := (uvS_le HD.out.rn.rd.le).2.2
        rw [h7] at hn2b
        simp only at hn2b
        have V7 := Lib.hid h7
        clear h7
        go_wp2_with (go_at_call 59; refine (refUv p l _ _ HD.out.rn.rd Hlx.out).mono ?_; rintro e w9 ⟨he, ha⟩; rw [V7.out] at he ha; simp only at he ha; subst he; have D9 := Lib.hid (HD.out.step ha); clear ha HD hmc hml hmf)
        go_loopw [9] (fun i wr => ∃ (k2 : Nat) (ps : List P3) (b2 : Option Addr) (c2 : Nat) (st : RSt), k2 ≤ n2 ∧ k2 ≤ 65 ∧ i = .int .u64 k2 ∧ ps.length = k2 ∧ RM w p w2.heap.size l st (wrap64 (v1 : Int)) (wrap64 (v2 : Int)) (wrap64 (v3 : Int)) (wrap64 (v4 : Int)) (wrap64 (v5 : Int)) b k cc b2 k2 c2 ss ps wr ∧ CanM l st ((([wrap64 (v1 : Int), wrap64 (v2 : Int), wrap64 (v3 : Int), wrap64 (v4 : Int), wrap64 (v5 : Int), (n1 : Int)] ++ ss) ++ [(n2 : Int)]) ++ ps.flatMap flat3))
          (fun i _ => 65 - (intOf i).toNat)
        case atStart =>
          refine ⟨0, [], none, 0, s7, Nat.zero_le _, by omega, rfl, rfl, D9.out, ?_⟩
          simpa using HL.out.2.uv V7.out (fun _ => rfl) (can_np2 HSL.out)
        case round =>
          clear D9
          obtain ⟨k2, ps, b2, c2, st, hk2, hk265, rfl, hpl2, hD, hCa⟩ := hrel
          have HD := Lib.hid hD
          have HP := Lib.hid (And.intro hpl2 hCa)
          have hmc := hD.mbx.cell
          have hml := hD.mbx.lt
          have hmf := hD.mbx.free
          clear hD hpl2 hCa
          by_cases hlt2 : k2 < n2 ∧ k2 ≤ 64
          · obtain ⟨hlt2, hk64⟩ := hlt2
            rcases hv1 : uvS l st with ⟨x1, t1⟩
            rcases hv2 : uvS l t1 with ⟨x2, t2⟩
            rcases hv3 : uvS l t2 with ⟨x3, t3⟩
            have q1 := uvS_le HD.out.rn.rd.le
            rw [hv1] at q1
            have q2 := uvS_le q1.1
            rw [hv2] at q2
            have q3 := uvS_le q2.1
            rw [hv3] at q3
            have hx1 := q1.2.2
            have hx2 := q2.2.2
            have hx3 := q3.2.2
            simp only at hx1 hx2 hx3
            clear q1 q2 q3
            have X1 := Lib.hid hv1
            have X2 := Lib.hid hv2
            have X3 := Lib.hid hv3
            clear hv1 hv2 hv3
            have P0 := Lib.hid (RP.start HD.out)
            have hmb0 : w2.heap.size < wr.heap.size := hml
            go_wp2_with (first
              | (go_at_call 59; refine (refUv p l _ _ P0.out.rm.rn.rd Hlx.out).mono ?_; rintro e wb1 ⟨he, ha⟩; rw [X1.out] at he ha; simp only at he ha; subst he; have P1 := Lib.hid (P0.out.step ha); have hpc1 := P1.out.pbx.cell; have hpf1 := P1.out.pbx.free; have hpl1 := P1.out.pbx.lt; clear ha P0 hmc hml hmf HD)
              | (go_at_call 59; refine (refUv p l _ _ (P1.out.set0 _).rm.rn.rd Hlx.out).mono ?_; rintro e wb2 ⟨he, ha⟩; rw [X2.out] at he ha; simp only at he ha; subst he; have P2 := Lib.hid ((P1.out.set0 _).step ha); have hpc2 := P2.out.pbx.cell; have hpf2 := P2.out.pbx.free; have hpl2 := P2.out.pbx.lt; clear ha P1 hpc1 hpf1 hpl1)
              | (go_at_call 59; refine (refUv p l _ _ (P2.out.set1 _).rm.rn.rd Hlx.out).mono ?_; rintro e wb3 ⟨he, ha⟩; rw [X3.out] at he ha; simp only at he ha; subst he; have P3 := Lib.hid ((P2.out.set1 _).step ha); have hpc3 := P3.out.pbx.cell; have hpf3 := P3.out.pbx.free; have hpl3 := P3.out.pbx.lt; have hmc3 := (P3.out.set2 (wrap64 (x3 : Int))).rm.mbx.cell; have hmf3 := (P3.out.set2 (wrap64 (x3 : Int))).rm.mbx.free; have hml3 := P3.out.rm.mbx.lt; clear ha P2 hpc2 hpf2 hpl2)
              | (at_builtin
                 have D7 := (P3.out.set2 (wrap64 (x3 : Int))).rm.next (Below.al' _ (.cells #[.int .i64 (wrap64 (x1 : Int)), .int .i64 (wrap64 (x2 : Int)), .int .i64 (wrap64 (x3 : Int))] 58))
                 have hrn := rd_new (wb3.setCell ⟨wr.heap.size, 2, none⟩ (.int .i64 (wrap64 (x3 : Int)))) #[.int .i64 (wrap64 (x1 : Int)), .int .i64 (wrap64 (x2 : Int)), .int .i64 (wrap64 (x3 : Int))] 58
                 refine wpList_app1 _ rfl (.tmp 86) (.tmp 88) _ rfl (w2.heap.size + 1) 58 i1 _ 3 24 Try.underlying23 hi1 hz1 hs1 hy1 rfl (by omega) (.slice b2 k2 c2) k2 (ps.flatMap tri) rfl D7.r2 _ _ 1 1 (tri (wrap64 (x1 : Int), wrap64 (x2 : Int), wrap64 (x3 : Int))) rfl rfl (by simpa [tri] using hrn) (by simp [tri, Value.oneCell']) (by unfold maxLen; omega) (by omega) (by simp; omega) (by omega) ?_
                 intro g cap w8 hO hca hcb hrow hg hwh
                 unfold maxLen at hcb
                 have hq := D7.mbx.grown hg (fun e => by have := (D7.r2.lt _ e.symm).1; omega)
                 have hqc := hq.cell
                 have hqf := hq.free
                 have hql := hq.lt
                 have D9 := Lib.hid (D7.prod hg hrow (hwh.imp (fun h => h.symm) fun h => by simp at h ⊢; omega))
                 clear D7 hO hrow hg hq hwh hrn P3))
            go_wp2
            go_roundw
            case rel => exact ⟨k2 + 1, ps ++ [(wrap64 (x1 : Int), wrap64 (x2 : Int), wrap64 (x3 : Int))], _, _, t3, by omega, by omega, by go_num, by simp [HP.out.1], D9.out, prods_can2 hlt2 HSL.out HP.out.1 X1.out X2.out X3.out (w64 _) (w64 _) (w64 _) HP.out.2⟩
            case measure => simp [intOf]; omega
          · have HPL := Lib.hid (show ps.length = n2 ∨ 64 < n2 by have := HP.out.1; omega)
            rcases (show ¬ k2 < n2 ∨ (k2 < n2 ∧ ¬ k2 ≤ 64) by omega) with hx2 | ⟨hx2, hy2⟩
            all_goals
              have HON := Lib.hid (ref_only HP.out.2 HSL.out HPL.out Hl.out)
              have hrc := HD.out.rn.res.cell
              have hrl := HD.out.rn.res.lt
              have hrf := HD.out.rn.res.free
              clear hlt hlt2
              by_cases hr : manR (wrap64 (v1 : Int)) (wrap64 (v2 : Int)) (wrap64 (v3 : Int)) (wrap64 (v4 : Int)) (wrap64 (v5 : Int)) ss ps = true
              case neg =>
                have HNo : Hid (∀ id ns nx mk cl segs prods, manR id ns nx mk cl segs prods = true → encM id ns nx mk cl segs prods ≠ bs) := fun id ns nx mk cl segs prods hr' he => by
                  obtain ⟨rfl, rfl, rfl, rfl, rfl, rfl, rfl⟩ := HON.out _ _ _ _ _ _ _ hr' he
                  exact hr hr'
                have HQ := Lib.hid (manE_bad (by simpa using hr))
                clear hr
                go_wp2_with (go_at_call 23; rw [show k = ss.length from HL.out.1.symm, show k2 = ps.length from HP.out.1.symm]; refine (refEncode (wrap64 (v1 : Int)) (wrap64 (v2 : Int)) (wrap64 (v3 : Int)) (wrap64 (v4 : Int)) (wrap64 (v5 : Int)) _ _ cc c2 ss ps _ (ownsRow_rd HD.out.r1) (ownsRow_rd HD.out.r2)).mono ?_; rintro e w11 ⟨eb, ec, rfl, hown, hb7⟩; rw [← HQ.out]; have ED := Lib.hid (ownsRow_rd hown); have hd := HD.out.next hb7; have htc := hd.rn.res.cell; have htl := hd.rn.res.lt; have htf := hd.rn.res.free; have hmk3 := hd.mbx.cell; have hml3 := hd.mbx.lt; have D10 := Lib.hid hd; clear hb7 hd hown)
                refine bodyPost_ret (v := .tuple #[manV 0 0 0 0 0 (.slice none 0 0) (.slice none 0 0), .int .i64 72]) ?_ rfl ?_
                · simp [results, Try.results28, go_sem, htc]
                refine ⟨.inr ⟨HNo.out, rfl⟩, ?_⟩
                repeat (first | with_reducible exact D10.out.rn.below | refine Below.setCell ?_ (by simp) _)
              have HR := Lib.hid hr
              have HQ := Lib.hid (manE_good hr)
              have hln : (encM (wrap64 (v1 : Int)) (wrap64 (v2 : Int)) (wrap64 (v3 : Int)) (wrap64 (v4 : Int)) (wrap64 (v5 : Int)) ss ps).length ≤ 140737488355328 := by
                have := bodyM_len hr
                rw [encM, if_pos hr, wrapB_len]; omega
              have Hln := Lib.hid hln
              clear hr hln
              by_cases he : bs = encM (wrap64 (v1 : Int)) (wrap64 (v2 : Int)) (wrap64 (v3 : Int)) (wrap64 (v4 : Int)) (wrap64 (v5 : Int)) ss ps
              case neg =>
                have HNo : Hid (∀ id ns nx mk cl segs prods, manR id ns nx mk cl segs prods = true → encM id ns nx mk cl segs prods ≠ bs) := fun id ns nx mk cl segs prods hr' he' => by
                  obtain ⟨rfl, rfl, rfl, rfl, rfl, rfl, rfl⟩ := HON.out _ _ _ _ _ _ _ hr' he'
                  exact he he'.symm
                have HT := Lib.hid (decide_eq_false he)
                clear he
                go_wp2_with (first
                  | (go_at_call 23; rw [show k = ss.length from HL.out.1.symm, show k2 = ps.length from HP.out.1.symm]; refine (refEncode (wrap64 (v1 : Int)) (wrap64 (v2 : Int)) (wrap64 (v3 : Int)) (wrap64 (v4 : Int)) (wrap64 (v5 : Int)) _ _ cc c2 ss ps _ (ownsRow_rd HD.out.r1) (ownsRow_rd HD.out.r2)).mono ?_; rintro e w11 ⟨eb, ec, rfl, hown, hb7⟩; rw [← HQ.out]; have ED := Lib.hid (ownsRow_rd hown); have hd := HD.out.next hb7; have htc := hd.rn.res.cell; have htl := hd.rn.res.lt; have htf := hd.rn.res.free; have hmk3 := hd.mbx.cell; have hml3 := hd.mbx.lt; have D10 := Lib.hid hd; clear hb7 hd hown)
                  | (go_at_call 60; refine (refSame A eb n _ c ec bs _ _ Hn.out rfl ((HA.out.below D10.out.rn.below).mono D10.out.rn.below.size) ED.out hmx' Hln.out).mono ?_; rintro e w12 ⟨he, hb8⟩; rw [HT.out] at he; subst he; have hd := D10.out.next hb8; have huc := hd.rn.res.cell; have hul := hd.rn.res.lt; have huf := hd.rn.res.free; have hmk4 := hd.mbx.cell; have hml4 := hd.mbx.lt; have D11 := Lib.hid hd; clear hb8 hd))
                refine bodyPost_ret (v := .tuple #[manV 0 0 0 0 0 (.slice none 0 0) (.slice none 0 0), .int .i64 72]) ?_ rfl ?_
                · simp [results, Try.results28, go_sem, huc]
                refine ⟨.inr ⟨HNo.out, rfl⟩, ?_⟩
                repeat (first | with_reducible exact D11.out.rn.below | refine Below.setCell ?_ (by simp) _)
              have HE := Lib.hid he.symm
              have HT := Lib.hid (decide_eq_true he)
              clear he
              go_wp2_with (first
                | (go_at_call 23; rw [show k = ss.length from HL.out.1.symm, show k2 = ps.length from HP.out.1.symm]; refine (refEncode (wrap64 (v1 : Int)) (wrap64 (v2 : Int)) (wrap64 (v3 : Int)) (wrap64 (v4 : Int)) (wrap64 (v5 : Int)) _ _ cc c2 ss ps _ (ownsRow_rd HD.out.r1) (ownsRow_rd HD.out.r2)).mono ?_; rintro e w11 ⟨eb, ec, rfl, hown, hb7⟩; rw [← HQ.out]; have ED := Lib.hid (ownsRow_rd hown); have hd := HD.out.next hb7; have htc := hd.rn.res.cell; have htl := hd.rn.res.lt; have htf := hd.rn.res.free; have hmk3 := hd.mbx.cell; have hml3 := hd.mbx.lt; have D10 := Lib.hid hd; clear hb7 hd hown)
                | (go_at_call 60; refine (refSame A eb n _ c ec bs _ _ Hn.out rfl ((HA.out.below D10.out.rn.below).mono D10.out.rn.below.size) ED.out hmx' Hln.out).mono ?_; rintro e w12 ⟨he, hb8⟩; rw [HT.out] at he; subst he; have hd := D10.out.next hb8; have huc := hd.rn.res.cell; have hul := hd.rn.res.lt; have huf := hd.rn.res.free; have hmk4 := hd.mbx.cell; have hml4 := hd.mbx.lt; have D11 := Lib.hid hd; clear hb8 hd))
              refine bodyPost_ret (v := .tuple #[manV (wrap64 (v1 : Int)) (wrap64 (v2 : Int)) (wrap64 (v3 : Int)) (wrap64 (v4 : Int)) (wrap64 (v5 : Int)) (.slice b k cc) (.slice b2 k2 c2), .int .i64 0]) ?_ rfl ?_
              · simp [results, Try.results28, go_sem, huc]
              refine ⟨dman_yes2 D11.out HL.out.1 HP.out.1 HON.out HR.out HE.out (chg7 _ _ _ _ _ _ _ _ _), ?_⟩
              repeat (first | with_reducible exact D11.out.rn.below | refine Below.setCell ?_ (by simp) _)
end Go.Proofs.Ytjgdjfmgkmegfaa
