import Derived.Test.YtnecafhakkjbpaaSm34
import Derived.OrdersHeld
import Derived.Deep.RegionHeld
/- Load of an image that may be. -/
namespace Go.Proofs.Ytnecafhakkjbpaa
open Go.RowKit Go.Maps

theorem LdOk.take {q : Int} {fs : List FE} (h : LdOk q fs) (j : Nat) : LdOk q (fs.take j) :=
  ⟨h.q, asc_take h.asc j, fun p hp => h.names p (List.mem_of_mem_take hp), by rw [List.length_take]; have := h.few; omega, Nat.le_trans (sumL_take fs j) h.sum⟩
section
variable {P : Program} {ops : Array Oper} {Q : Exit → Act → World → Prop} {md : Region.Mode} {S : World → Prop}
theorem hold_take (i : Nat) {oi : Oper} {v : Value} {fuel : Nat} {listed : Array Bool} {a : Act} {w : World} (hi : ops.toList[i]? = some oi)
    (hs : Region.noSelect ops = true) (hf : Region.free md ops listed i = true) (hr : (Region.ready md ops listed).contains i = true)
    (hQ : ∀ c a w, Q (.panic c) (a.put oi.dst v) w → Q (.panic c) a w) (hy : YieldsIf P ops S oi v a) (hS : S w)
    (h : wpAnyH P md ops Q S fuel (listed.setIfInBounds i true) (a.put oi.dst v) w) : wpAnyH P md ops Q S (fuel + 1) listed a w :=
  wpAnyH_take (by rw [← hi, Array.getElem?_toList]) hs hf hr hQ hy hS h
theorem hold_step (i : Nat) {o : Oper} {fuel : Nat} {listed : Array Bool} {a : Act} {w : World} (hi : ops.toList[i]? = some o) (hr : Region.ready md ops listed = [i])
    (h : ∀ K' : Act → World → Prop, Hid (∀ a w, S w → wpAnyH P md ops Q S fuel (listed.setIfInBounds i true) a w → K' a w) → if Region.wanted o (yielded ops a.tmps) = true then Oper.wp P o a w K' Q else K' (a.put o.dst undef) w) : wpAnyH P md ops Q S (fuel + 1) listed a w :=
  wpAnyH_ready hr (by simp) (AllReadyH.cons (by rw [← hi, Array.getElem?_toList]) (fun K' hK => h K' (Lib.hid fun a w h1 h2 => hK.out a w h1 fun _ => h2)) AllReadyH.nil)
end
set_option maxRecDepth 100000 in
set_option maxHeartbeats 16000000 in
theorem load_ok (q : Int) (fs : List FE) (A : Option Addr) (n c : Nat) (w : World) (h : LdOk q fs) (hn : fs.length = n) (hI : IM w w.heap.size A fs) :
    Calls Try.prog 14 #[.slice A n c, .int .i64 q] w fun e w' => ∃ d S, e = .returned (.tuple #[.pointer (some ⟨d, 0, none⟩), .int .i64 0]) ∧ Disk w' S d (ldS q fs) ∧ (∀ b, S b → w.heap.size ≤ b) ∧ Below w.heap.size w w' := by
  have hnm : n ≤ 65536 := by rw [← hn]; exact h.few
  have hqd := Lib.hid (show qOk q = true from decide_eq_true h.q)
  have H := Lib.hid (And.intro h (And.intro hn hI))
  clear h hn hI
  go_enter Try.func14, Try.ntmps14
  go_wp2_with (first
    | (go_at_call 42
       refine (goodQuota_any q _).mono ?_
       rintro e w1 ⟨rfl, hw⟩
       have hw1 := hw.symm
       subst hw1
       rw [hqd.out])
    | (go_at_call 43
       refine (fresh_any q _).mono ?_
       rintro e w1 ⟨d, S0, rfl, h0, h1, h2⟩
       have H1 := Lib.hid (And.intro h0 (And.intro h1 h2))
       clear h0 h1 h2))
  obtain ⟨L0, fb0, ms, mf, vc, hD0, hS0⟩ := H1.out.1
  have HD0 := Lib.hid (And.intro hD0 hS0)
  clear hD0 hS0
  go_loopw [20] (fun i wr => ∃ (j : Nat) (L : Nat → Nat) (fb : List Nat), j ≤ n ∧ i = .int .i64 j ∧ DM wr L d fb (ldS q (fs.take j)) ms mf vc ∧ (∀ b, L b ≠ 0 → w.heap.size ≤ b) ∧ Below w.heap.size w wr) (fun i _ => n - (intOf i).toNat)
  case atStart => exact ⟨0, L0, fb0, Nat.zero_le _, rfl, HD0.out.1, fun b hb => H1.out.2.1 b ((HD0.out.2 b).2 hb), H1.out.2.2⟩
  case round =>
    obtain ⟨j, L, fb, hj, rfl, hD, hL, hB⟩ := hrel
    by_cases hlt : j < n
    · have hj0 : (0 : Int) ≤ j := by omega
      have hj1 : (j : Int) < n := by omega
      obtain ⟨p, hp⟩ : ∃ p, fs[j]? = some p := ⟨_, List.getElem?_eq_getElem (by rw [H.out.2.1]; exact hlt)⟩
      have hIw := H.out.2.2.below hB
      obtain ⟨ad, x, cx, rfl, had, c0, c1, hrx⟩ := hIw j p hp
      have hpm := List.mem_of_getElem? hp
      have hgn := H.out.1.names p hpm
      have hst : fs.take (j + 1) = fs.take j ++ [p] := by
        obtain ⟨hl, e⟩ := List.getElem?_eq_some_iff.1 hp
        rw [← e]
        exact List.take_succ_eq_append_getElem hl
      obtain ⟨nm, bs⟩ := p
      obtain ⟨m, hm⟩ : ∃ m, bs.length = m := ⟨_, rfl⟩
      have hmx : m ≤ 1073741824 := by have h1 := sumL_mem hpm; have h2 := H.out.1.sum; simp only at h1; omega
      simp only at c0 c1 hrx hgn
      rw [hm] at c1
      have HP := Lib.hid (And.intro hp (And.intro hrx (And.intro hgn (And.intro hst hm))))
      have HDD := Lib.hid (And.intro hD (And.intro hL hB))
      clear hD hL hB hIw hpm hgn hst hp hrx hm
      have hxb := (Box.new wr 46 #[.string nm, .slice x m cx])
      have HX := Lib.hid hxb
      clear hxb
      have hx0 := HX.out.cell
      go_upto_region 9 with fail
      go_cut [43] (fun s43 wx => s43 = .bool false ∧ Below (wr.alloc (.cells #[.string nm, .slice x m cx] 46)).heap.size (wr.alloc (.cells #[.string nm, .slice x m cx] 46)) wx)
      case first =>
        by_cases hj2 : j = 0
        · have hS1 : (wr.alloc (.cells #[.string nm, .slice x m cx] 46)).drew.cell? ⟨wr.heap.size, 0, none⟩ = some (.string nm) := HX.out.cell 0
          have hjn : ¬ ((j : Int) > 0) := by omega
          have hjn2 : ¬ (0 < j) := by omega
          clear hj2
          refine wp_region_held_drew (S := fun w' => w'.cell? ⟨wr.heap.size, 0, none⟩ = some (.string nm)) (by kernel_rfl) hS1 fun _ => ?_
          refine hold_take 0 (v := ?_) rfl (by kernel_rfl) (by kernel_rfl) (by kernel_rfl) (fun _ _ _ h => h) (Or.inl ⟨by rfl, ?hy⟩) hS1 ?_
          case hy => first | (intro w hSw; go_simp; done) | (intro w hSw; go_simp; with_reducible rfl)
          simp only [Act.put, List.setIfInBounds_toArray, List.set_cons_zero, List.set_cons_succ]
          refine hold_take 1 (v := ?_) rfl (by kernel_rfl) (by kernel_rfl) (by kernel_rfl) (fun _ _ _ h => h) (Or.inl ⟨by rfl, ?hy⟩) hS1 ?_
          case hy => first | (intro w hSw; go_simp; done) | (intro w hSw; go_simp; with_reducible rfl)
          simp only [Act.put, List.setIfInBounds_toArray, List.set_cons_zero, List.set_cons_succ]
          refine hold_step 2 rfl (by kernel_rfl) fun K hK => ?_
          go_simp
          go_at_call 44
          refine (goodName_any nm _ (by have := (goodN_size HP.out.2.2.1).2; unfold maxLen; omega)).mono ?_
          rintro e w2 ⟨rfl, hb2⟩
          rw [HP.out.2.2.1]
          have hX2 := (show Box (wr.alloc (.cells #[.string nm, .slice x m cx] 46)).drew _ _ _ from HX.out).next hb2
          have hS2 : w2.cell? ⟨wr.heap.size, 0, none⟩ = some (.string nm) := hX2.cell 0
          have H2 := Lib.hid (And.intro hX2 hb2)
          clear hX2 hb2
          go_simp
          refine hK.out _ _ hS2 ?_
          clear hK K
          refine hold_take 3 (v := ?_) rfl (by kernel_rfl) (by kernel_rfl) (by kernel_rfl) (fun _ _ _ h => h) (Or.inl ⟨by rfl, ?hy⟩) hS2 ?_
          case hy => first | (intro w hSw; go_simp; done) | (intro w hSw; go_simp; with_reducible rfl)
          simp only [Act.put, List.setIfInBounds_toArray, List.set_cons_zero, List.set_cons_succ]
          refine hold_take 4 (v := ?_) rfl (by kernel_rfl) (by kernel_rfl) (by kernel_rfl) (fun _ _ _ h => h) (Or.inl ⟨by rfl, ?hy⟩) hS2 ?_
          case hy => first | (intro w hSw; go_simp; done) | (intro w hSw; go_simp; with_reducible rfl)
          simp only [Act.put, List.setIfInBounds_toArray, List.set_cons_zero, List.set_cons_succ]
          refine hold_take 5 (v := ?_) rfl (by kernel_rfl) (by kernel_rfl) (by kernel_rfl) (fun _ _ _ h => h) (Or.inl ⟨by rfl, ?hy⟩) hS2 ?_
          case hy => first | (intro w hSw; go_simp; done) | (intro w hSw; go_simp; with_reducible rfl)
          simp only [Act.put, List.setIfInBounds_toArray, List.set_cons_zero, List.set_cons_succ]
          refine hold_take 6 (v := ?_) rfl (by kernel_rfl) (by kernel_rfl) (by kernel_rfl) (fun _ _ _ h => h) (Or.inl ⟨by rfl, ?hy⟩) hS2 ?_
          case hy => first | (intro w hSw; go_simp; done) | (intro w hSw; go_simp; with_reducible rfl)
          simp only [Act.put, List.setIfInBounds_toArray, List.set_cons_zero, List.set_cons_succ]
          refine hold_take 7 (v := ?_) rfl (by kernel_rfl) (by kernel_rfl) (by kernel_rfl) (fun _ _ _ h => h) (Or.inl ⟨by rfl, ?hy⟩) hS2 ?_
          case hy => first | (intro w hSw; go_simp; done) | (intro w hSw; go_simp; with_reducible rfl)
          simp only [Act.put, List.setIfInBounds_toArray, List.set_cons_zero, List.set_cons_succ]
          refine hold_take 8 (v := undef) rfl (by kernel_rfl) (by kernel_rfl) (by kernel_rfl) (fun _ _ _ h => h) (Or.inr ⟨by rfl, rfl⟩) hS2 ?_
          simp only [Act.put, List.setIfInBounds_toArray, List.set_cons_zero, List.set_cons_succ]
          refine hold_take 9 (v := undef) rfl (by kernel_rfl) (by kernel_rfl) (by kernel_rfl) (fun _ _ _ h => h) (Or.inr ⟨by rfl, rfl⟩) hS2 ?_
          simp only [Act.put, List.setIfInBounds_toArray, List.set_cons_zero, List.set_cons_succ]
          refine hold_take 10 (v := undef) rfl (by kernel_rfl) (by kernel_rfl) (by kernel_rfl) (fun _ _ _ h => h) (Or.inr ⟨by rfl, rfl⟩) hS2 ?_
          simp only [Act.put, List.setIfInBounds_toArray, List.set_cons_zero, List.set_cons_succ]
          refine hold_take 11 (v := undef) rfl (by kernel_rfl) (by kernel_rfl) (by kernel_rfl) (fun _ _ _ h => h) (Or.inr ⟨by rfl, rfl⟩) hS2 ?_
          simp only [Act.put, List.setIfInBounds_toArray, List.set_cons_zero, List.set_cons_succ]
          refine hold_take 12 (v := undef) rfl (by kernel_rfl) (by kernel_rfl) (by kernel_rfl) (fun _ _ _ h => h) (Or.inr ⟨by rfl, rfl⟩) hS2 ?_
          simp only [Act.put, List.setIfInBounds_toArray, List.set_cons_zero, List.set_cons_succ]
          refine hold_take 13 (v := undef) rfl (by kernel_rfl) (by kernel_rfl) (by kernel_rfl) (fun _ _ _ h => h) (Or.inr ⟨by rfl, rfl⟩) hS2 ?_
          simp only [Act.put, List.setIfInBounds_toArray, List.set_cons_zero, List.set_cons_succ]
          refine hold_take 14 (v := undef) rfl (by kernel_rfl) (by kernel_rfl) (by kernel_rfl) (fun _ _ _ h => h) (Or.inr ⟨by rfl, rfl⟩) hS2 ?_
          simp only [Act.put, List.setIfInBounds_toArray, List.set_cons_zero, List.set_cons_succ]
          refine hold_take 15 (v := undef) rfl (by kernel_rfl) (by kernel_rfl) (by kernel_rfl) (fun _ _ _ h => h) (Or.inr ⟨by rfl, rfl⟩) hS2 ?_
          simp only [Act.put, List.setIfInBounds_toArray, List.set_cons_zero, List.set_cons_succ]
          refine hold_take 16 (v := undef) rfl (by kernel_rfl) (by kernel_rfl) (by kernel_rfl) (fun _ _ _ h => h) (Or.inr ⟨by rfl, rfl⟩) hS2 ?_
          simp only [Act.put, List.setIfInBounds_toArray, List.set_cons_zero, List.set_cons_succ]
          refine hold_take 17 (v := ?_) rfl (by kernel_rfl) (by kernel_rfl) (by kernel_rfl) (fun _ _ _ h => h) (Or.inl ⟨by rfl, ?hy⟩) hS2 ?_
          case hy => first | (intro w hSw; go_simp; done) | (intro w hSw; go_simp; with_reducible rfl)
          simp only [Act.put, List.setIfInBounds_toArray, List.set_cons_zero, List.set_cons_succ]
          refine hold_take 18 (v := ?_) rfl (by kernel_rfl) (by kernel_rfl) (by kernel_rfl) (fun _ _ _ h => h) (Or.inl ⟨by rfl, ?hy⟩) hS2 ?_
          case hy => first | (intro w hSw; go_simp; done) | (intro w hSw; go_simp; with_reducible rfl)
          simp only [Act.put, List.setIfInBounds_toArray, List.set_cons_zero, List.set_cons_succ]
          refine wpAnyH_done (by kernel_rfl) ?_ _
          go_wp2_with fail
          go_meet
          case rel => exact ⟨rfl, (below_drew (Below.refl _ _)).trans H2.out.2⟩
        · obtain ⟨i, hi⟩ : ∃ i, j = i + 1 := ⟨j - 1, by omega⟩
          obtain ⟨p0, hp0⟩ : ∃ p0, fs[i]? = some p0 := ⟨_, List.getElem?_eq_getElem (by rw [H.out.2.1]; omega)⟩
          have hIw := H.out.2.2.below HDD.out.2.2
          obtain ⟨ad0, x0, cx0, ea, _, d0, _, _⟩ := hIw i p0 hp0
          cases ea
          have hjp : (0 : Int) < j := by omega
          have hless : kc p0.1 nm = -1 := by
            have ha := H.out.1.asc
            obtain ⟨h1, e1⟩ := List.getElem?_eq_some_iff.1 hp0
            obtain ⟨h2, e2⟩ := List.getElem?_eq_some_iff.1 HP.out.1
            have := List.pairwise_iff_getElem.1 ha i j h1 h2 (by omega)
            rw [e1, e2] at this
            exact this
          have hbl : Op.bytesLess p0.1.toList nm.toList = true := by
            rw [ByteArray.toList_eq, ByteArray.toList_eq]
            exact (cmpB_less _ _).1 hless
          have HBL := Lib.hid hbl
          have HI := Lib.hid (And.intro d0 (And.intro hless hp0))
          have HJ := Lib.hid hi
          clear hi hp0 hless hbl hj2 d0 hIw
          have hlt2 : (ad.add (i * 2)).block < wr.heap.size := by rw [add_block]; exact Nat.lt_of_lt_of_le had HDD.out.2.2.size
          have hS1 : (wr.alloc (.cells #[.string nm, .slice x m cx] 46)).drew.cell? ⟨wr.heap.size, 0, none⟩ = some (.string nm) ∧ (wr.alloc (.cells #[.string nm, .slice x m cx] 46)).drew.cell? (ad.add (i * 2)) = some (.string p0.1) :=
            ⟨HX.out.cell 0, ((Below.al wr (.cells #[.string nm, .slice x m cx] 46)).cell hlt2).trans HI.out.1⟩
          have hjn : 0 < j := by have := HJ.out; omega
          have hii : (j : Int) - 1 = (i : Int) := by have := HJ.out; omega
          have hwr : IntKind.i64.wrap ((j : Int) - 1) = (i : Int) := by rw [hii]; exact IntWalk.i64_in _ (by have := HJ.out; omega)
          have hwi : IntKind.i64.wrap (i : Int) = (i : Int) := IntWalk.i64_in _ (by have := HJ.out; omega)
          have hw64 : wrap64 ((j : Int) - 1) = (i : Int) := by rw [hii]; exact IntWalk.wrap64_in _ (by have := HJ.out; omega)
          have hi0 : (0 : Int) ≤ i := by omega
          have hi1 : (i : Int) < n := by have := HJ.out; omega
          have hi2 : i < n := by have := HJ.out; omega
          go_region_held3 (fun w' => w'.cell? ⟨wr.heap.size, 0, none⟩ = some (.string nm) ∧ w'.cell? (ad.add (i * 2)) = some (.string p0.1))
            (first | with_reducible exact hS1 | with_reducible exact hS2)
            (first
            | (go_at_call 44
               refine (goodName_any nm _ (by have := (goodN_size HP.out.2.2.1).2; unfold maxLen; omega)).mono ?_
               rintro e w2 ⟨rfl, hb2⟩
               rw [HP.out.2.2.1]
               have hX2 := (show Box (wr.alloc (.cells #[.string nm, .slice x m cx] 46)).drew _ _ _ from HX.out).next hb2
               have hS2 : w2.cell? ⟨wr.heap.size, 0, none⟩ = some (.string nm) ∧ w2.cell? (ad.add (i * 2)) = some (.string p0.1) := ⟨hX2.cell 0, (hb2.cell (Nat.lt_of_lt_of_le hlt2 (by simp))).trans hS1.2⟩
               have H2 := Lib.hid (And.intro hX2 hb2)
               clear hX2 hb2))
          all_goals
            rw [HBL.out]
            go_wp2_with fail
            go_meet
            case rel => exact ⟨rfl, (below_drew (Below.refl _ _)).trans H2.out.2⟩
      case rest =>
        obtain ⟨rfl, hb2⟩ := hcut
        have hbw : Below wr.heap.size wr wc := (Below.al wr _).trans (hb2.mono (by simp))
        have hX2 := HX.out.next hb2
        have hxs : wc.heap.size ≠ wr.heap.size := by have := hX2.lt; omega
        have HC := Lib.hid (And.intro hbw hX2)
        have HRd : Hid (∀ W' : World, Below wr.heap.size wr W' → Rd W' W'.heap.size x (bv bs)) := fun W' hb => (HP.out.2.1.mono HDD.out.2.2.size).next hb
        clear hb2 hbw hX2 hx0
        go_upto_region 12 with fail
        have hb0 := HC.out.1.trans ((Below.al wc (.cells newF 89)).mono HC.out.1.size)
        have hS0 : (wc.alloc (.cells newF 89)).drew.cell? ⟨wr.heap.size, 1, none⟩ = some (.slice x m cx) := (HC.out.2.alloc _).cell 1
        have HB0 := Lib.hid hb0
        clear hb0
        go_region_held3 (fun w' => w'.cell? ⟨wr.heap.size, 1, none⟩ = some (.slice x m cx))
          (first | with_reducible exact hS0 | with_reducible exact hS1 | with_reducible exact hS2 | with_reducible exact hS3 | with_reducible exact hS4)
          (first
          | (go_at_call 45
             have z0 := hS0
             clear z0
             refine (clone_any x m cx bs _ (HRd.out _ (below_drew HB0.out)) HP.out.2.2.2.2 (by omega)).mono ?_
             rintro e w1 ⟨b1, c1, rfl, hr1, hb1⟩
             have hbx := (show Below (wc.alloc (.cells newF 89)).heap.size (wc.alloc (.cells newF 89)) w1 from (below_drew (Below.refl _ _)).trans hb1)
             have hS1 : w1.cell? ⟨wr.heap.size, 1, none⟩ = some (.slice x m cx) := ((HC.out.2.alloc _).next hbx).cell 1
             have H1c := Lib.hid (And.intro hr1 hbx)
             clear hr1 hb1 hbx hS0)
          | (go_at_call 45
             refine (clone_any x m cx bs _ (HRd.out _ (HB0.out.trans (H1c.out.2.mono (Nat.le_trans HC.out.1.size (by simp))))) HP.out.2.2.2.2 (by omega)).mono ?_
             rintro e w2 ⟨b2, c2, rfl, hr2, hb2⟩
             have hBx := ((HC.out.2.alloc (.cells newF 89)).next H1c.out.2).next hb2
             have hS2 : w2.cell? ⟨wr.heap.size, 1, none⟩ = some (.slice x m cx) := hBx.cell 1
             have hS3 : (w2.setCell ⟨wc.heap.size, 0, none⟩ (.slice b1 m c1)).cell? ⟨wr.heap.size, 1, none⟩ = some (.slice x m cx) := (hBx.far (fun e => hxs e.symm) _).cell 1
             have hS4 : ((w2.setCell ⟨wc.heap.size, 0, none⟩ (.slice b1 m c1)).setCell ⟨wc.heap.size, 1, none⟩ (.slice b2 m c2)).cell? ⟨wr.heap.size, 1, none⟩ = some (.slice x m cx) := ((hBx.far (fun e => hxs e.symm) _).far (fun e => hxs e.symm) _).cell 1
             have hfB := ((Box.new wc 89 newF).next H1c.out.2).next hb2
             have hff := hfB.free
             have hfc := hfB.cell
             have hfB2 := hfB.set_ 0 (.slice b1 m c1)
             have hff2 := hfB2.free
             have hfc2 := hfB2.cell
             have H2c := Lib.hid (And.intro hr2 (And.intro hb2 hBx))
             clear hr2 hb2 hBx hfB hfB2 hS1))
        go_upto_region 13 with fail
        have hFM := ld_facts q (fs.take j) (asc_take H.out.1.asc j)
        have hD2 : DM wc L d fb (ldS q (fs.take j)) ms mf vc := HDD.out.1.keep HC.out.1.size fun b hb => HC.out.1.block b (HDD.out.1.lab b hb)
        obtain ⟨L2, hD3, hl1, hl2⟩ := hD2.filled (ld_inv (H.out.1.take j) (Nat.le_refl _)).ok HP.out.2.2.2.2 H1c.out.2 H2c.out.2.1 H1c.out.1 H2c.out.1
        have hX3 := (H2c.out.2.2.far (p := ⟨wc.heap.size, 0, none⟩) (fun e => hxs e.symm) (.slice b1 m c1)).far (p := ⟨wc.heap.size, 1, none⟩) (fun e => hxs e.symm) (.slice b2 m c2)
        have hz3 : wc.heap.size ≤ w2.heap.size := by have h1 := H1c.out.2.size; have h2 := H2c.out.2.1.size; simp at h1; omega
        have hbB3 : Below wr.heap.size wr ((w2.setCell ⟨wc.heap.size, 0, none⟩ (.slice b1 m c1)).setCell ⟨wc.heap.size, 1, none⟩ (.slice b2 m c2)) := by
          have h0 := HB0.out.trans ((H1c.out.2.trans (H2c.out.2.1.mono H1c.out.2.size)).mono (Nat.le_trans HC.out.1.size (by simp)))
          exact (h0.setCell (p := ⟨wc.heap.size, 0, none⟩) HC.out.1.size _).setCell (p := ⟨wc.heap.size, 1, none⟩) HC.out.1.size _
        obtain ⟨w3, hw3⟩ : ∃ w3, ((w2.setCell ⟨wc.heap.size, 0, none⟩ (.slice b1 m c1)).setCell ⟨wc.heap.size, 1, none⟩ (.slice b2 m c2)) = w3 := ⟨_, rfl⟩
        rw [hw3] at hD3 hX3 hbB3 ⊢
        clear hw3 hS2 hS3 hS4 hff hfc hff2 hfc2
        obtain ⟨s1, hs1⟩ : ∃ s1, ({ ldS q (fs.take j) with files := (ldS q (fs.take j)).files ++ [⟨bs, []⟩] } : Dk) = s1 := ⟨_, rfl⟩
        rw [hs1] at hD3
        have hsd : s1.dchs = [] := by rw [← hs1]; exact hFM.2.2.1
        have hsf : s1.safe = ldL (fs.take j) 0 := by rw [← hs1]; exact hFM.1
        have hss : s1.seen = s1.safe := by unfold Dk.seen; rw [hsd]; rfl
        have hlt' : (fs.take j).length = j := by rw [List.length_take, H.out.2.1]; omega
        have hno : ∀ x ∈ s1.safe.map (bk (fb ++ [wc.heap.size])), x.1 ≠ nm := fun x hx e => by
          obtain ⟨y, hy, rfl⟩ := List.mem_map.1 hx
          rw [hsf] at hy
          obtain ⟨⟨p', hp', e'⟩, _⟩ := ldL_mem _ 0 y hy
          obtain ⟨i', hi', rfl⟩ := List.getElem_of_mem hp'
          obtain ⟨h2, e2⟩ := List.getElem?_eq_some_iff.1 HP.out.1
          have hi'' : i' < j := by rw [hlt'] at hi'; exact hi'
          have := List.pairwise_iff_getElem.1 H.out.1.asc i' j (by omega) h2 hi''
          rw [List.getElem_take] at e'
          rw [e2, e'] at this
          have e3 : y.1 = nm := e
          rw [e3, kc_self] at this
          exact absurd this (by decide)
        have hget : getL nm (s1.safe.map (bk (fb ++ [wc.heap.size]))) = none := get_none.2 hno
        have hsz32 : nm.size ≤ 32 := (goodN_size HP.out.2.2.1).2
        have hlen : (s1.safe.map (bk (fb ++ [wc.heap.size]))).length < 1000000000000 := by rw [List.length_map, hsf, ldL_len, hlt']; omega
        have hD3d : DM w3.drew L2 d (fb ++ [wc.heap.size]) s1 ms mf vc := hD3.keep (Nat.le_refl _) (fun _ _ => rfl)
        have hmsne : ms ≠ mf := fun e => by have h1 := hD3.lms; have h2 := hD3.lmf; rw [e] at h1; omega
        obtain ⟨hdms, hdmf, _, _⟩ := hD3.parts
        have hxms : wr.heap.size ≠ ms := fun e => by have := HDD.out.1.lab ms (by rw [HDD.out.1.lms]; omega); omega
        have hxmf : wr.heap.size ≠ mf := fun e => by have := HDD.out.1.lab mf (by rw [HDD.out.1.lmf]; omega); omega
        have hseenM := hD3d.seen
        rw [hss] at hseenM
        obtain ⟨st1, u1, r1, g1, q1⟩ := MD.entry (f := wc.heap.size) hseenM hget hsz32 hlen
        obtain ⟨u2, r2, m2, g2⟩ := q1 u1 rfl
        have hsafe2 : MD u2 mf (s1.safe.map (bk (fb ++ [wc.heap.size]))) := (hD3d.safe.keep (g1.block mf hD3d.safe.lt (fun e => hmsne (by injection e with e; exact e.symm)))).keep (g2.block mf (Nat.lt_of_lt_of_le hD3d.safe.lt g1.size) (fun e => hmsne (by injection e with e; exact e.symm)))
        obtain ⟨st2, u3, r3, g3, q3⟩ := MD.entry (f := wc.heap.size) hsafe2 hget hsz32 hlen
        obtain ⟨u4, r4, m4, g4⟩ := q3 u3 rfl
        have hms4 : MD u4 ms (putL nm wc.heap.size (s1.safe.map (bk (fb ++ [wc.heap.size])))) := (m2.keep (g3.block ms m2.lt (fun e => hmsne (by injection e)))).keep (g4.block ms (Nat.lt_of_lt_of_le m2.lt g3.size) (fun e => hmsne (by injection e)))
        have hblk : ∀ b, b < w3.heap.size → b ≠ ms → b ≠ mf → u1.heap[b]? = w3.heap[b]? ∧ u2.heap[b]? = w3.heap[b]? ∧ u3.heap[b]? = w3.heap[b]? ∧ u4.heap[b]? = w3.heap[b]? := fun b hb h1 h2 => by
          have k1 := g1.block b hb (fun e => h1 (by injection e))
          have k2 := g2.block b (Nat.lt_of_lt_of_le hb g1.size) (fun e => h1 (by injection e))
          have k3 := g3.block b (Nat.lt_of_lt_of_le hb (Nat.le_trans g1.size g2.size)) (fun e => h2 (by injection e))
          have k4 := g4.block b (Nat.lt_of_lt_of_le hb (Nat.le_trans (Nat.le_trans g1.size g2.size) g3.size)) (fun e => h2 (by injection e))
          exact ⟨k1, k2.trans k1, k3.trans (k2.trans k1), k4.trans (k3.trans (k2.trans k1))⟩
        have hc4 : Chg (fun b => b = ms ∨ b = mf) w3 u4 := ⟨(g4.os.trans g3.os).trans (g2.os.trans g1.os), (g4.tape.trans g3.tape).trans (g2.tape.trans g1.tape), (g4.output.trans g3.output).trans (g2.output.trans g1.output), Nat.le_trans (Nat.le_trans g1.size g2.size) (Nat.le_trans g3.size g4.size), fun k hk hn => (hblk k hk (fun e => hn (.inl e)) (fun e => hn (.inr e))).2.2.2⟩
        have hkf : s1.files.length = j + 1 := by rw [← hs1]; show ((ldS q (fs.take j)).files ++ [_]).length = _; rw [hFM.2.1]; simp; rw [H.out.2.1]; omega
        have hfbk : (fb ++ [wc.heap.size]).getD j 0 = wc.heap.size := by
          have h1 := hD3.fl
          rw [hkf, List.length_append, List.length_singleton] at h1
          have h2 : fb.length = j := by omega
          rw [← h2]; simp
        have hD4 := hD3.load (n := nm) (k := j) hsd (by omega) (by rw [hfbk]; exact hms4) (by rw [hfbk]; exact m4) hc4
        have hX4 : Box u4 wr.heap.size 46 #[.string nm, .slice x m cx] := ((hblk wr.heap.size hX3.lt hxms hxmf).2.2.2).trans hX3
        have cD0 := hD3.box.cell 0
        have cD1 := hD3.box.cell 1
        have cX0 := hX3.cell 0
        have cAll : ∀ u : World, (∀ b, b < w3.heap.size → b ≠ ms → b ≠ mf → u.heap[b]? = w3.heap[b]?) → u.cell? ⟨d, 0, none⟩ = some (.map (some ms)) ∧ u.cell? ⟨d, 1, none⟩ = some (.map (some mf)) ∧ u.cell? ⟨wr.heap.size, 0, none⟩ = some (.string nm) := fun u hu =>
          ⟨(World.cell?_of_block (hu d hD3.box.lt hdms hdmf)).trans cD0, (World.cell?_of_block (hu d hD3.box.lt hdms hdmf)).trans cD1, (World.cell?_of_block (hu wr.heap.size hX3.lt hxms hxmf)).trans cX0⟩
        have t0 : w3.drew.cell? ⟨d, 0, none⟩ = some (.map (some ms)) ∧ w3.drew.cell? ⟨d, 1, none⟩ = some (.map (some mf)) ∧ w3.drew.cell? ⟨wr.heap.size, 0, none⟩ = some (.string nm) := ⟨cD0, cD1, cX0⟩
        have t1 := cAll u1 fun b h1 h2 h3 => (hblk b h1 h2 h3).1
        have t2 := cAll u2 fun b h1 h2 h3 => (hblk b h1 h2 h3).2.1
        have t3 := cAll u3 fun b h1 h2 h3 => (hblk b h1 h2 h3).2.2.1
        have t4 := cAll u4 fun b h1 h2 h3 => (hblk b h1 h2 h3).2.2.2
        have HR4 := Lib.hid (And.intro hD4 (And.intro hX4 (And.intro hc4 (And.intro hbB3 (And.intro hl1 (And.intro hl2 hs1))))))
        clear hD4 hX4 hc4 hbB3 hl1 hl2 hs1 hblk cAll hms4 m2 m4 g1 g2 g3 g4 q1 q3 hsafe2 hseenM hD3d hD3 hno hget hlen hsf hss hsd hD2 hX3 hkf hfbk hFM cD0 cD1 cX0
        go_region_held3 (fun w' => w'.cell? ⟨d, 0, none⟩ = some (.map (some ms)) ∧ w'.cell? ⟨d, 1, none⟩ = some (.map (some mf)) ∧ w'.cell? ⟨wr.heap.size, 0, none⟩ = some (.string nm))
          (first | with_reducible exact t0 | with_reducible exact t1 | with_reducible exact t2 | with_reducible exact t3 | with_reducible exact t4)
          (fail)
        go_upto_region 14 with fail
        have hFM := ld_facts q (fs.take j) (asc_take H.out.1.asc j)
        obtain ⟨uu, huu⟩ : ∃ uu, sumL (fs.take j) = uu := ⟨_, rfl⟩
        have huu9 : uu ≤ 1073741824 := by rw [← huu]; exact Nat.le_trans (sumL_take fs j) H.out.1.sum
        have hus : ({ s1 with safe := putL nm j s1.safe } : Dk).used = (uu : Int) := by rw [← HR4.out.2.2.2.2.2.2, ← huu]; exact hFM.2.2.2.1
        have hdb := HR4.out.1.box
        have hdc := hdb.cell 4
        have hdc4 : u4.drew.cell? ⟨d, 4, none⟩ = some (.int .i64 (uu : Int)) := by rw [← hus]; exact hdc
        have hdf := hdb.free 4
        have hdl := hdb.lt
        have hxc4 : u4.drew.cell? ⟨wr.heap.size, 1, none⟩ = some (.slice x m cx) := HR4.out.2.1.cell 1
        have hwm : IntKind.i64.wrap ((uu : Int) + m) = (uu : Int) + m := IntWalk.i64_in _ (by omega)
        have HU := Lib.hid (And.intro huu (And.intro hus hdb))
        have HFM := Lib.hid hFM
        clear t0 t1 t2 t3 t4 r1 r2 r3 r4 hus hdb hFM hdc huu
        go_still_tail 10, (by kernel_rfl)
        go_wp2
        go_roundw
        case rel =>
          have hfl : (ldS q (fs.take j)).files.length = j := by rw [HFM.out.2.1, List.length_map, hlt']
          have hD5 := HR4.out.1.dx (chg_at (Chg.refl _ u4) 4 (.int .i64 ((uu : Int) + m))) (q := (s1.quota, (uu : Int) + m, s1.fuse, s1.dead, s1.ops)) (by simpa using HU.out.2.2.set_ 4 (.int .i64 ((uu : Int) + m)))
          have e : ({ s1 with safe := putL nm j s1.safe } : Dk).dx (s1.quota, (uu : Int) + m, s1.fuse, s1.dead, s1.ops) = ldS q (fs.take (j + 1)) := by
            rw [HP.out.2.2.2.1, ldS_snoc, ← HR4.out.2.2.2.2.2.2]
            unfold Dk.dx ldStep
            simp only [hfl, HFM.out.2.2.2.1, HU.out.1, HP.out.2.2.2.2]
          rw [e] at hD5
          have hLms : w.heap.size ≤ ms := HDD.out.2.1 ms (by rw [HDD.out.1.lms]; omega)
          have hLmf : w.heap.size ≤ mf := HDD.out.2.1 mf (by rw [HDD.out.1.lmf]; omega)
          have hLd : w.heap.size ≤ d := HDD.out.2.1 d (by rw [HDD.out.1.ld]; omega)
          have hww := HDD.out.2.2.size
          have hw3 := HR4.out.2.2.2.1.size
          have hB1 : Below w.heap.size w u4 := (HDD.out.2.2.trans (HR4.out.2.2.2.1.mono hww)).trans (HR4.out.2.2.1.below (Nat.le_trans hww hw3) fun b hb => by
            rcases hb with rfl | rfl
            · exact hLms
            · exact hLmf)
          refine ⟨j + 1, L2, fb ++ [wc.heap.size], by omega, by go_num, hD5.keep (Nat.le_refl _) (fun _ _ => rfl), fun b hb => ?_, below_drew (hB1.setCell (p := ⟨d, 4, none⟩) hLd _)⟩
          rcases HR4.out.2.2.2.2.2.1 b hb with h1 | h1
          · exact HDD.out.2.1 b h1
          · have := HC.out.1.size; omega
        case measure => simp [intOf]; omega
    · have hin : n = j := by omega
      subst hin
      have hfn : fs.take n = fs := by rw [← H.out.2.1]; exact List.take_length
      rw [hfn] at hD
      have HE := Lib.hid (And.intro hD (And.intro hL hB))
      clear hD hL hB hfn
      go_wp2
      go_ret2
      exact ⟨d, fun b => L b ≠ 0, rfl, ⟨L, fb, ms, mf, vc, HE.out.1, fun b => Iff.rfl⟩, HE.out.2.1, HE.out.2.2⟩
end Go.Proofs.Ytnecafhakkjbpaa
