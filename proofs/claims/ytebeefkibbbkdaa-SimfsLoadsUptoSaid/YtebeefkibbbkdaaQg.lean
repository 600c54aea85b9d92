import Derived.Test.YtebeefkibbbkdaaSmg
import Derived.Test.YtebeefkibbbkdaaQa
import Derived.Deep.QuietTactic
import Derived.BigQuiet
import Derived.Test.YtebeefkibbbkdaaSm27
import Derived.Test.YtebeefkibbbkdaaQo
import Derived.Outline
/- Bytes that are handed in with marks behind them. -/
namespace Go.Proofs.Ytebeefkibbbkdaa
open Go.RowKit Go.Maps

/-- The marks that stand behind bytes that are handed in. -/
def mk8 (k : Nat) : List UInt8 := (List.range k).map fun i => UInt8.ofNat (200 + i)
theorem mk8_len (k : Nat) : (mk8 k).length = k := by simp [mk8]
theorem mk8_succ (k : Nat) : mk8 (k + 1) = mk8 k ++ [UInt8.ofNat (200 + k)] := by simp [mk8, List.range_succ]
theorem mk8_get {k n : Nat} (h : k < n) : (bv (mk8 n))[k]? = some (.int .u8 (UInt8.ofNat (200 + k)).toNat) := by simp [bv, mk8, h]

set_option maxRecDepth 100000 in
set_option maxHeartbeats 4000000 in
theorem roomy_any (A : Option Addr) (n c : Nat) (bs : List UInt8) (w : World) (hA : Rd w w.heap.size A (bv bs)) (hn : bs.length = n) (hmx : n ≤ 140737488351232) :
    Calls Try.prog 87 #[.slice A n c] w fun e w' =>
      ∃ g c', e = .returned (.slice (some ⟨g, 0, none⟩) n c') ∧ n + 8 ≤ c' ∧ c' ≤ maxLen ∧ Own w' w.heap.size g 5 (bv (bs ++ mk8 8)) ∧ Below w.heap.size w w' := by
  obtain ⟨i1, hi1, hz1, hs1, hy1⟩ := info_parts info_u8
  have hb1 : Below w.heap.size w (w.alloc (.cells #[] 5)) := (Below.refl _ _).alloc (Nat.le_refl _) _
  have Hb1 := Lib.hid hb1
  have Hown0 := Lib.hid (own_empty w w.heap.size 5 1 (Nat.le_refl _))
  have Hrd0 := Lib.hid (hA.below hb1)
  have Hn := Lib.hid (show (bv bs).length = n * 1 by simp [bv, hn])
  have HL := Lib.hid hn
  clear hb1 hA hn
  go_enter Try.func87, Try.ntmps87
  go_wp2_with (at_builtin
               refine wpList_app _ rfl (.tmp 5) (.tmp 6) _ rfl w.heap.size 5 i1 _ 1 1 Try.underlying22 hi1 hz1 hs1 hy1 rfl (by omega) (.slice (some ⟨w.heap.size, 0, none⟩) 0 0) 0 [] rfl Hown0.out _ A n c (bv bs) rfl Hn.out Hrd0.out (one_bv _) (by unfold maxLen; omega) (by omega) (by simp <;> omega) ?_
               intro v1 w1 hown1 hg1 _
               rw [Nat.zero_add, List.nil_append] at hown1
               have hb1 := Hb1.out.grown hg1 (by simp <;> omega) (by simp [Value.ownBlock] <;> omega)
               have H1 := Lib.hid (And.intro hown1 hb1)
               clear hown1 hg1 hb1)
  go_loopw [3, 4] (fun v i wr => ∃ k : Nat, k ≤ 8 ∧ i = .int .i64 k ∧ wr.ownsRow w.heap.size 5 1 v (n + k) (bv (bs ++ mk8 k)) ∧ Below w.heap.size w wr) (fun _ i _ => 8 - (intOf i).toNat)
  case atStart => exact ⟨0, Nat.zero_le _, rfl, by simpa [mk8] using H1.out.1, H1.out.2⟩
  case round =>
    obtain ⟨k, hk, rfl, hrow, hb⟩ := hrel
    obtain ⟨rb, rc, rfl⟩ := row_slice hrow
    have HR := Lib.hid (And.intro hrow hb)
    clear hrow hb
    by_cases hlt : k < 8
    · go_wp2_with (at_builtin
                   refine wpList_app _ rfl (.tmp 12) (.tmp 16) _ rfl w.heap.size 5 i1 _ 1 1 Try.underlying22 hi1 hz1 hs1 hy1 rfl (by omega) (.slice rb (n + k) rc) (n + k) _ rfl (HR.out.1.alloc _) _ _ 1 1 _ rfl rfl (rd_new _ _ _) (by simp [Value.oneCell']) (by unfold maxLen; omega) (by omega) (by have := HR.out.2.size; simp <;> omega) ?_
                   intro v2 w2 hown2 hg2 _
                   have hb2 := (HR.out.2.alloc HR.out.2.size (.cells #[.int .u8 (200 + (k : Int))] 5)).grown hg2 (by have := HR.out.2.size; simp <;> omega) (fun j e => (HR.out.1.lt j e).1)
                   have H2 := Lib.hid (And.intro hown2 hb2)
                   clear hown2 hg2 hb2)
      go_roundw
      case rel =>
        refine ⟨k + 1, by omega, by go_num, ?_, H2.out.2⟩
        have e : bv (bs ++ mk8 (k + 1)) = bv (bs ++ mk8 k) ++ [.int .u8 (200 + (k : Int))] := by
          rw [mk8_succ, ← List.append_assoc, bv_app]
          congr 1
          simp [bv]
          omega
        rw [e]
        exact H2.out.1
      case measure => simp [intOf]; omega
    · have hk8 : k = 8 := by omega
      subst hk8
      obtain ⟨g, cap, hv, h1, h2, h3⟩ := Own.of_row HR.out.1 (by omega)
      injection hv with e1 _ e2
      subst e1 e2
      have hq1 : (n : Int) ≤ (rc : Int) := by omega
      have H3 := Lib.hid (And.intro h2 h3)
      clear h2 h3
      go_wp2
      go_ret
      exact ⟨g, rc, rfl, by omega, H3.out.1, H3.out.2, HR.out.2⟩

set_option maxRecDepth 100000 in
set_option maxHeartbeats 4000000 in
/-- Two slices of bytes: are they alike? -/
theorem sameBytes_any (A A' : Option Addr) (n c n' c' : Nat) (a b : List UInt8) (w : World) (hn : a.length = n) (hn' : b.length = n') (hA : Rd w w.heap.size A (bv a)) (hA' : Rd w w.heap.size A' (bv b)) (hmx : n ≤ 140737488351232) (hmx' : n' ≤ 140737488351232) :
    Calls Try.prog 48 #[.slice A n c, .slice A' n' c'] w fun e w' => e = .returned (.bool (decide (a = b))) ∧ ∃ k, w' = w.drewN k := by
  have Hn := Lib.hid (And.intro hn hn')
  have HA := Lib.hid (And.intro hA hA')
  clear hA hA'
  by_cases hnn : n = n'
  · subst hnn
    clear hn hn'
    go_enter Try.func48, Try.ntmps48
    go_wp2
    go_loopw [5] (fun i wr => ∃ (k m : Nat), k ≤ n ∧ i = .int .i64 k ∧ wr = w.drewN m ∧ a.take k = b.take k) (fun i _ => n - (intOf i).toNat)
    case atStart => exact ⟨0, 0, Nat.zero_le _, rfl, rfl, rfl⟩
    case round =>
      obtain ⟨k, m, hk, rfl, rfl, ht⟩ := hrel
      have Ht := Lib.hid ht
      clear ht
      by_cases hlt : k < n
      · have hk0 : (0 : Int) ≤ k := by omega
        have hk1 : (k : Int) < n := by omega
        have hka : k < a.length := by rw [Hn.out.1]; exact hlt
        have hkb : k < b.length := by rw [Hn.out.2]; exact hlt
        obtain ⟨ad, rfl, had, p0⟩ := HA.out.1 _ _ (bv_get hka)
        obtain ⟨ad', rfl, had', q0⟩ := HA.out.2 _ _ (bv_get hkb)
        have HTA := Lib.hid (List.take_succ_eq_append_getElem hka)
        have HTB := Lib.hid (List.take_succ_eq_append_getElem hkb)
        have HNE := Lib.hid (fun (h : a[k] ≠ b[k]) (e : a = b) => h (by subst e; rfl))
        generalize a[k] = x at p0 HTA HNE
        generalize b[k] = y at q0 HTB HNE
        clear hka hkb
        by_cases hxy : x = y
        · subst hxy
          go_wp2
          go_quiet (fail)
          go_wp2
          go_roundw
          case rel => exact ⟨k + 1, _, by omega, by go_num, by first | rfl | exact World.drewN_drewN .., by rw [HTA.out, HTB.out, Ht.out]⟩
          case measure => simp [intOf]; omega
        · have hne : ¬ (x.toNat : Int) = (y.toNat : Int) := fun e => hxy (UInt8.toNat_inj.1 (by omega))
          have HF := Lib.hid (HNE.out hxy)
          clear hxy
          go_wp2
          go_quiet (fail)
          go_wp2
          go_ret
          exact ⟨ret_bool (decide_eq_false HF.out).symm, _, by first | rfl | exact World.drewN_drewN ..⟩
      · go_wp2
        go_ret
        refine ⟨?_, m, rfl⟩
        have hk' : k = n := by omega
        have e : a = b := by
          have := Ht.out
          rwa [List.take_of_length_le (by rw [Hn.out.1]; omega), List.take_of_length_le (by rw [Hn.out.2]; omega)] at this
        exact ret_bool (decide_eq_true e).symm
  · have hne : ¬ (n : Int) = (n' : Int) := by omega
    have HF := Lib.hid (show ¬ a = b from fun e => hnn (by rw [← hn, ← hn', e]))
    clear hnn hn hn'
    go_enter Try.func48, Try.ntmps48
    go_wp2
    go_ret
    exact ⟨ret_bool (decide_eq_false HF.out).symm, 0, rfl⟩
end Go.Proofs.Ytebeefkibbbkdaa
/- Two images: are they alike? (chroniclelaw3's sameImage) -/
namespace Go.Proofs.Ytebeefkibbbkdaa
open Go.RowKit Go.Maps

theorem pair_ne1 {α β : Type} {l m : List (α × β)} {i : Nat} {p q : α × β} (hp : l[i]? = some p) (hq : m[i]? = some q) (h : ¬ p = q) : ¬ l = m := fun e => by
  subst e
  rw [hp] at hq
  injection hq with hq
  exact h hq
set_option maxRecDepth 100000 in
set_option maxHeartbeats 8000000 in
/-- Two images: are they alike? -/
theorem sameImage_any (A A' : Option Addr) (n c n' c' : Nat) (a b : List (ByteArray × List UInt8)) (w : World) (hn : a.length = n) (hn' : b.length = n') (hA : IM w w.heap.size A a) (hA' : IM w w.heap.size A' b) (hmx : n ≤ 140737488351232) (hmx' : n' ≤ 140737488351232) (hba : ∀ p ∈ a, p.2.length ≤ 140737488351232) (hbb : ∀ p ∈ b, p.2.length ≤ 140737488351232) :
    Calls Try.prog 16 #[.slice A n c, .slice A' n' c'] w fun e w' => e = .returned (.bool (decide (a = b))) ∧ ∃ k, w' = w.drewN k := by
  have Hn := Lib.hid (And.intro (And.intro hn hn') (And.intro hba hbb))
  have HA := Lib.hid (And.intro hA hA')
  clear hA hA' hba hbb
  by_cases hnn : n = n'
  · subst hnn
    clear hn hn'
    go_enter Try.func16, Try.ntmps16
    go_wp2
    go_loopw [5] (fun i wr => ∃ (k m : Nat), k ≤ n ∧ i = .int .i64 k ∧ wr = w.drewN m ∧ a.take k = b.take k) (fun i _ => n - (intOf i).toNat)
    case atStart => exact ⟨0, 0, Nat.zero_le _, rfl, rfl, rfl⟩
    case round =>
      obtain ⟨k, m, hk, rfl, hw, ht⟩ := hrel
      have hia : IM wr wr.heap.size A a := by rw [hw]; exact HA.out.1.drewN m
      have hib : IM wr wr.heap.size A' b := by rw [hw]; exact HA.out.2.drewN m
      have Ht := Lib.hid (And.intro ht hw)
      have HI := Lib.hid (And.intro hia hib)
      clear ht hw hia hib
      by_cases hlt : k < n
      · have hk0 : (0 : Int) ≤ k := by omega
        have hk1 : (k : Int) < n := by omega
        have hka : k < a.length := by rw [Hn.out.1.1]; exact hlt
        have hkb : k < b.length := by rw [Hn.out.1.2]; exact hlt
        obtain ⟨p, hp⟩ : ∃ p, a[k] = p := ⟨_, rfl⟩
        obtain ⟨q, hq⟩ : ∃ q, b[k] = q := ⟨_, rfl⟩
        have hpa : a[k]? = some p := by rw [List.getElem?_eq_getElem hka, hp]
        have hqb : b[k]? = some q := by rw [List.getElem?_eq_getElem hkb, hq]
        obtain ⟨ad, x, cx, rfl, had, p0, p1, p2⟩ := HI.out.1 k _ hpa
        obtain ⟨ad', y, cy, rfl, had', q0, q1, q2⟩ := HI.out.2 k _ hqb
        have HTA := Lib.hid (show a.take (k + 1) = a.take k ++ [p] by rw [← hp]; exact List.take_succ_eq_append_getElem hka)
        have HTB := Lib.hid (show b.take (k + 1) = b.take k ++ [q] by rw [← hq]; exact List.take_succ_eq_append_getElem hkb)
        have HNE := Lib.hid (fun (h : ¬ p = q) => pair_ne1 hpa hqb h)
        have hl1 := Hn.out.2.1 p (List.mem_of_getElem? hpa)
        have hl2 := Hn.out.2.2 q (List.mem_of_getElem? hqb)
        obtain ⟨nm, pb⟩ := p
        obtain ⟨nm', qb⟩ := q
        simp only at p0 p1 p2 q0 q1 q2 hl1 hl2
        obtain ⟨lx, hlx⟩ : ∃ lx, pb.length = lx := ⟨_, rfl⟩
        obtain ⟨ly, hly⟩ : ∃ ly, qb.length = ly := ⟨_, rfl⟩
        rw [hlx] at p1 hl1
        rw [hly] at q1 hl2
        have HP := Lib.hid (And.intro p2 (And.intro q2 (And.intro hlx hly)))
        clear hka hkb hp hq hpa hqb p2 q2 hlx hly
        by_cases hxy : nm = nm'
        · subst hxy
          by_cases hbb : pb = qb
          · subst hbb
            go_wp2
            go_quiet ((go_at_call 48; exact Calls.quiet_of (sameBytes_any x y lx cx ly cy pb pb _ HP.out.2.2.1 HP.out.2.2.2 (HP.out.1.next (below_drewN (Below.refl _ _) _)) (HP.out.2.1.next (below_drewN (Below.refl _ _) _)) hl1 hl2)))
            rw [show decide (pb = pb) = true from decide_eq_true rfl]
            go_wp2
            go_roundw
            case rel => exact ⟨k + 1, _, by omega, by go_num, by rw [Ht.out.2]; first | rfl | exact World.drewN_drewN .., by rw [HTA.out, HTB.out, Ht.out.1]⟩
            case measure => simp [intOf]; omega
          · have hdb := Lib.hid (show decide (pb = qb) = false from decide_eq_false hbb)
            have HF := Lib.hid (HNE.out fun e => hbb (by injection e))
            clear hbb
            go_wp2
            go_quiet ((go_at_call 48; exact Calls.quiet_of (sameBytes_any x y lx cx ly cy pb qb _ HP.out.2.2.1 HP.out.2.2.2 (HP.out.1.next (below_drewN (Below.refl _ _) _)) (HP.out.2.1.next (below_drewN (Below.refl _ _) _)) hl1 hl2)))
            rw [hdb.out]
            go_wp2
            go_ret
            exact ⟨ret_bool (decide_eq_false HF.out).symm, _, by rw [Ht.out.2]; first | rfl | exact World.drewN_drewN ..⟩
        · have hne := key_ne hxy
          have HF := Lib.hid (HNE.out fun e => hxy (by injection e))
          clear hxy
          go_wp2
          go_quiet (fail)
          go_wp2
          go_ret
          exact ⟨ret_bool (decide_eq_false HF.out).symm, _, by rw [Ht.out.2]; first | rfl | exact World.drewN_drewN ..⟩
      · go_wp2
        go_ret
        refine ⟨?_, m, Ht.out.2⟩
        have hk' : k = n := by omega
        have e : a = b := by
          have := Ht.out.1
          rwa [List.take_of_length_le (by rw [Hn.out.1.1]; omega), List.take_of_length_le (by rw [Hn.out.1.2]; omega)] at this
        exact ret_bool (decide_eq_true e).symm
  · have hne : ¬ (n : Int) = (n' : Int) := by omega
    have HF := Lib.hid (show ¬ a = b from fun e => hnn (by rw [← hn, ← hn', e]))
    clear hnn hn hn'
    go_enter Try.func16, Try.ntmps16
    go_wp2
    go_ret
    exact ⟨ret_bool (decide_eq_false HF.out).symm, 0, rfl⟩
end Go.Proofs.Ytebeefkibbbkdaa
/- chroniclelaw3's change: a step that changes a disk. -/
namespace Go.Proofs.Ytebeefkibbbkdaa
open Go.RowKit Go.Maps

set_option maxRecDepth 100000 in
set_option maxHeartbeats 4000000 in
/-- What was handed in stands, and the marks behind it. -/
theorem kept_any (g n c' : Nat) (A : Option Addr) (c B : Nat) (bs : List UInt8) (w : World) (hO : Own w B g 5 (bv (bs ++ mk8 8))) (hA : Rd w w.heap.size A (bv bs)) (hn : bs.length = n) (hc : n + 8 ≤ c') (hcm : n ≤ 140737488351232) :
    Calls Try.prog 88 #[.slice (some ⟨g, 0, none⟩) n c', .slice A n c] w fun e w' => e = .returned (.bool true) ∧ ∃ k, w' = w.drewN k := by
  have hq0 : (0 : Int) ≤ (n : Int) + 8 := by omega
  have hq1 : (n : Int) + 8 ≤ (c' : Int) := by omega
  have HO := Lib.hid (And.intro hO (And.intro hA hn))
  have HC : Hid (∀ i, i < 8 → w.cell? ⟨g, n + i, none⟩ = some (.int .u8 (UInt8.ofNat (200 + i)).toNat)) := by
    intro i hi
    refine hO.get ?_
    rw [bv_app, List.getElem?_append_right (by rw [bv_len]; omega), bv_len, hn, Nat.add_sub_cancel_left]
    exact mk8_get hi
  clear hO hA hn
  go_enter Try.func88, Try.ntmps88
  go_wp2
  go_loop [6] (fun i => ∃ k : Nat, k ≤ 8 ∧ i = .int .i64 k) (fun i => 8 - (intOf i).toNat)
  case atStart => exact ⟨0, Nat.zero_le _, rfl⟩
  case round =>
    obtain ⟨k, hk, rfl⟩ := hrel
    by_cases hlt : k < 8
    · have hce := HC.out k hlt
      have hv : ((UInt8.ofNat (200 + k)).toNat : Int) = 200 + (k : Int) := by simp; omega
      rw [hv] at hce
      clear hv
      have hk0 : (0 : Int) ≤ (n : Int) + k := by omega
      have hk1 : (n : Int) + k < (n : Int) + 8 := by omega
      go_wp2
      go_round
      case rel => exact ⟨k + 1, by omega, by go_num⟩
      case measure => simp [intOf]; omega
    · go_wp2_with (go_at_call 48
                   refine (sameBytes_any _ _ n c' n c bs bs _ HO.out.2.2 HO.out.2.2 (by have := HO.out.1; rw [bv_app] at this; exact this.rd_pre) HO.out.2.1 hcm hcm).mono ?_
                   rintro e w1 ⟨rfl, nk, rfl⟩)
      go_ret
      exact ⟨rfl, nk, rfl⟩


theorem rd_low {W w : World} {A : Option Addr} {us : List Value} (h : Rd W W.heap.size A us) (hb : Below W.heap.size W w) : Rd w w.heap.size A us := by
  intro j u hj
  obtain ⟨ad, e, h1, h2⟩ := h.below hb j u hj
  exact ⟨ad, e, Nat.lt_of_lt_of_le h1 hb.size, h2⟩
def chE (st : SC) (s : Dk) : Int := if st.kind = 1 then createE st.nm s else if st.kind = 2 then appendE st.nm st.bs s else if st.kind = 3 then truncE st.nm st.y s else if st.kind = 4 then syncE st.nm s else if st.kind = 5 then syncDirE s else if st.kind = 6 then renameE st.nm st.to s else removeE st.nm s
def chS (st : SC) (s : Dk) : Dk := if st.kind = 1 then createS st.nm s else if st.kind = 2 then appendS st.nm st.bs s else if st.kind = 3 then truncS st.nm st.y s else if st.kind = 4 then syncS st.nm s else if st.kind = 5 then syncDirS s else if st.kind = 6 then renameS st.nm st.to s else removeS st.nm s
section
variable {W w w1 w2 w' : World} {S S2 : Nat → Prop} {d N M : Nat} {s s' : Dk}
theorem Lv.Then.from_ (hb : Below w.heap.size w w1) (h : Lv.Then W w1 w' S d s N) : Lv.Then W w w' S d s N := by
  obtain ⟨S', h1, h2, h3⟩ := h
  refine ⟨S', h1, (Chg.of_below hb S).trans h2, fun b hb2 => (h3 b hb2).imp id fun h => Nat.le_trans hb.size h⟩
theorem Lv.Then.next (h : Lv.Then W w w1 S d s N) (hb : Below w1.heap.size w1 w') : Lv.Then W w w' S d s N := by
  obtain ⟨S', h1, h2, h3⟩ := h
  exact ⟨S', h1.next hb, h2.next hb, h3⟩
/-- A block of the call's own is written over. -/
theorem Lv.Then.own {g : Nat} (h : Lv.Then W w1 w2 S d s N) (hb : Below w.heap.size w w1) (hW : W.heap.size ≤ w.heap.size) (hg : w.heap.size ≤ g) (hg1 : g < w1.heap.size) (hgS : ¬ S g) (hc : Chg (fun b => b = g) w2 w') : Lv.Then W w w' S d s N := by
  obtain ⟨S', h1, h2, h3⟩ := h
  refine ⟨S', h1.far hc (fun b hb2 e => ?_) (fun b e => by omega), ((Chg.of_below hb S).trans h2).trans' hc fun j hj e => by omega, fun b hb2 => (h3 b hb2).imp id fun h => Nat.le_trans hb.size h⟩
  subst e
  rcases h3 _ hb2 with h4 | h4
  · exact hgS h4
  · omega
theorem Lv.lt (h : Lv W w S d s N) : ∀ b, S b → b < w.heap.size := h.1.lt
end
set_option maxRecDepth 100000 in
set_option maxHeartbeats 16000000 in
theorem change_any (W w : World) (S : Nat → Prop) (d : Nat) (s : Dk) (N : Nat) (st : SC) (h : Lv W w S d s N) (hN : N ≤ 999999999999) (hs : st.Ok W W.heap.size) (hk : 1 ≤ st.kind ∧ st.kind ≤ 7) (hmx : st.bs.length ≤ 140737488351232) :
    Calls Try.prog 59 #[.pointer (some ⟨d, 0, none⟩), .agg st.cells.toArray] w fun e w' => e = .returned (.tuple #[.int .i64 (chE st s), .bool true]) ∧ Lv.Then W w w' S d (chS st s) (N + 1) := by
  obtain ⟨k, nm, nt, x, y, A, bs, c, A2, ps, c2⟩ := st
  obtain ⟨n, hn⟩ : ∃ n, bs.length = n := ⟨_, rfl⟩
  obtain ⟨n2, hn2⟩ : ∃ n2, ps.length = n2 := ⟨_, rfl⟩
  obtain ⟨hA, _, hz1, hz2, _⟩ := hs
  dsimp only at hA hz1 hz2 hk hmx
  simp only [SC.cells, hn, hn2] at hmx ⊢
  have HA := Lib.hid (And.intro hA hn)
  have H := Lib.hid h
  have HW := Lib.hid h.2.2.1.size
  have HB := Lib.hid (Below.al w (.cells #[.int .i64 k, .string nm, .string nt, .int .i64 x, .int .i64 y, .slice A n c, .slice A2 n2 c2] 52))
  have HL := Lib.hid (h.next (Below.al w (.cells #[.int .i64 k, .string nm, .string nt, .int .i64 x, .int .i64 y, .slice A n c, .slice A2 n2 c2] 52)))
  clear hA hn hn2 h
  by_cases h2 : k = 2
  · subst h2
    clear hk
    have HX := Lib.hid (Box.new w 52 #[.int .i64 2, .string nm, .string nt, .int .i64 x, .int .i64 y, .slice A n c, .slice A2 n2 c2])
    obtain ⟨e2, he2⟩ : ∃ e2, appendE nm bs s = e2 := ⟨_, rfl⟩
    obtain ⟨s2, hs2⟩ : ∃ s2, appendS nm bs s = s2 := ⟨_, rfl⟩
    have HE := Lib.hid (And.intro he2 hs2)
    rw [show chE ⟨2, nm, nt, x, y, A, bs, c, A2, ps, c2⟩ s = e2 from he2, show chS ⟨2, nm, nt, x, y, A, bs, c, A2, ps, c2⟩ s = s2 from hs2]
    clear he2 hs2
    go_enter Try.func59, Try.ntmps59
    go_wp2_with (first
      | (go_at_call 87
         refine (roomy_any A n c bs _ (rd_low HA.out.1 HL.out.2.2.1) HA.out.2 hmx).mono ?_
         rintro e w1 ⟨g, c', rfl, hc1, hc2, hO, hb⟩
         have hX := HX.out.next hb
         have hxc := hX.cell
         have hgS : ¬ S g := fun h => by have h1 := H.out.lt _ h; have h2 := hO.1; simp at h2; omega
         have HO := Lib.hid (And.intro hO (And.intro hb hgS))
         have HC2 := Lib.hid hc2
         have HX1 := Lib.hid hX
         clear hO hb hX hc2 hgS)
      | (go_at_call 31
         refine (lv_append nm (some ⟨g, 0, none⟩) n c' bs (HL.out.next HO.out.2.1) hN hz1 ⟨by have := HO.out.1; rw [bv_app] at this; exact this.rd_pre, fun ad e _ hS => by injection e with e; subst e; exact HO.out.2.2 hS⟩ HA.out.2 (by omega)).mono ?_
         rintro e w2 ⟨rfl, h2⟩
         rw [HE.out.1]
         rw [HE.out.2] at h2
         obtain ⟨S2, hL2, hC2, hS2⟩ := h2
         have hO2 := HO.out.1.chg hC2 HO.out.2.2
         have hxc2 := (HX1.out.chg hC2 fun h => by have := H.out.lt _ h; omega).cell
         have HL2 := Lib.hid (And.intro hO2 (And.intro hL2 (And.intro hC2 hS2)))
         clear hL2 hC2 hS2 hO2 hxc)
      | (go_at_call 88
         refine (kept_any g n c' A c _ bs _ HL2.out.1 (rd_low HA.out.1 HL2.out.2.1.2.2.1) HA.out.2 hc1 hmx).mono ?_
         rintro e w3 ⟨rfl, nk, hw3⟩
         have HL3 := Lib.hid (show Own w3 (w.heap.size + 1) g 5 (bv (bs ++ mk8 8)) ∧ Chg (fun b => b = g) w2 w3 by rw [hw3]; exact ⟨by have := HL2.out.1.drewN nk; simpa using this, (Chg.refl _ _).drewN nk⟩)
         clear hw3))
    go_loopw [9] (fun i wr => ∃ (j : Nat) (ls : List UInt8), j ≤ n ∧ i = .int .i64 j ∧ ls.length = n + 8 ∧ Own wr (w.heap.size + 1) g 5 (bv ls) ∧ Chg (fun b => b = g) w2 wr) (fun i _ => n - (intOf i).toNat)
    case atStart => exact ⟨0, bs ++ mk8 8, Nat.zero_le _, rfl, by rw [List.length_append, HA.out.2, mk8_len], HL3.out⟩
    case round =>
      obtain ⟨j, ls, hj, rfl, hl, hO, hb⟩ := hrel
      by_cases hlt : j < n
      · have hj0 : (0 : Int) ≤ j := by omega
        have hj1 : (j : Int) < n := by omega
        obtain ⟨u, hcel⟩ : ∃ u, wr.cell? ⟨g, j, none⟩ = some u := ⟨_, hO.cell (i := j) (by rw [bv_len]; omega)⟩
        have hfre := hO.free j
        have hgl := hO.lt
        have hg0 := hO.1
        have hset := hO.set_ (i := j) (by rw [bv_len]; omega) (.int .u8 77)
        have HS := Lib.hid (And.intro hset hb)
        have HLL := Lib.hid hl
        clear hset hb hO hl
        go_wp2
        go_roundw
        case rel =>
          refine ⟨j + 1, ls.set j 77, by omega, by go_num, by rw [List.length_set]; exact HLL.out, ?_, HS.out.2.setCell (.inl rfl) _⟩
          have e : bv (ls.set j 77) = (bv ls).set j (.int .u8 77) := by simp [bv, List.map_set]
          rw [e]; exact HS.out.1
        case measure => simp [intOf]; omega
      · have HB2 := Lib.hid hb
        have HO2 := Lib.hid hO
        clear hb hO
        go_wp2
        go_ret2
        refine ⟨rfl, Lv.Then.own (g := g) ⟨S2, HL2.out.2⟩ (HB.out.trans (HO.out.2.1.mono (by simp))) HW.out (by have := HO.out.1.1; simp at this; omega) HO.out.1.lt HO.out.2.2 HB2.out⟩
  · have h2' : (k == 2) = false := by simpa using h2
    rcases (show k = 1 ∨ k = 3 ∨ k = 4 ∨ k = 5 ∨ k = 6 ∨ k = 7 by omega) with rfl | rfl | rfl | rfl | rfl | rfl
    all_goals
      clear h2 h2' hk
      go_enter Try.func59, Try.ntmps59
      go_wp2_with (first
        | (go_at_call 29; refine (lv_create nm HL.out hN hz1).mono ?_; rintro e w1 ⟨rfl, h1⟩; have H1 := Lib.hid h1; clear h1)
        | (go_at_call 89; refine (lv_trunc nm y HL.out hN hz1).mono ?_; rintro e w1 ⟨rfl, h1⟩; have H1 := Lib.hid h1; clear h1)
        | (go_at_call 33; refine (lv_sync nm HL.out hN hz1).mono ?_; rintro e w1 ⟨rfl, h1⟩; have H1 := Lib.hid h1; clear h1)
        | (go_at_call 36; refine (lv_syncDir HL.out hN).mono ?_; rintro e w1 ⟨rfl, h1⟩; have H1 := Lib.hid h1; clear h1)
        | (go_at_call 35; refine (lv_rename nm nt HL.out hN hz1 hz2).mono ?_; rintro e w1 ⟨rfl, h1⟩; have H1 := Lib.hid h1; clear h1)
        | (go_at_call 26; refine (lv_remove nm HL.out hN hz1).mono ?_; rintro e w1 ⟨rfl, h1⟩; have H1 := Lib.hid h1; clear h1))
      go_ret2
      exact ⟨rfl, Lv.Then.from_ HB.out H1.out⟩
end Go.Proofs.Ytebeefkibbbkdaa
