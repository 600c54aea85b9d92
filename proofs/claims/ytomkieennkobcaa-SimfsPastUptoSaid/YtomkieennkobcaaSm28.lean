import Derived.Test.YtomkieennkobcaaSm27
import Derived.Test.YtomkieennkobcaaOpenS
import Derived.Outline
/- chroniclelaw3's change: a step that changes a disk. -/
namespace Go.Proofs.Ytomkieennkobcaa
open Go.RowKit Go.Maps

set_option maxRecDepth 100000 in
set_option maxHeartbeats 4000000 in
/-- What was handed in stands, and the marks behind it. -/
theorem kept_any (g n c' : Nat) (A : Option Addr) (c B : Nat) (bs : List UInt8) (w : World) (hO : Own w B g 5 (bv (bs ++ mk8 8))) (hA : Rd w w.heap.size A (bv bs)) (hn : bs.length = n) (hc : n + 8 ≤ c') (hcm : n ≤ 140737488351232) :
    Calls Try.prog 54 #[.slice (some ⟨g, 0, none⟩) n c', .slice A n c] w fun e w' => e = .returned (.bool true) ∧ ∃ k, w' = w.drewN k := by
  have hq0 : (0 : Int) ≤ (n : Int) + 8 := by omega
  have hq1 : (n : Int) + 8 ≤ (c' : Int) := by omega
  have HO := Lib.hid (And.intro hO (And.intro hA hn))
  have HC : Hid (∀ i, i < 8 → w.cell? ⟨g, n + i, none⟩ = some (.int .u8 (UInt8.ofNat (200 + i)).toNat)) := by
    intro i hi
    refine hO.get ?_
    rw [bv_app, List.getElem?_append_right (by rw [bv_len]; omega), bv_len, hn, Nat.add_sub_cancel_left]
    exact mk8_get hi
  clear hO hA hn
  go_enter Try.func54, Try.ntmps54
  go_wp2
  go_loop [6] (fun i => ∃ k : Nat, k ≤ 8 ∧ i = .int .i64 k) (fun i => 8 - (intOf i).toNat)
  case atStart => exact ⟨0, Nat.zero_le _, rfl⟩
  case round =>
    obtain ⟨k, hk, rfl⟩ := hrel
    by_cases hlt : k < 8
    · have hce := HC.out k hlt
      have hv : ((UInt8.ofNat (200 + k)).toNat : Int) = 200 + (k : Int) := by simp; omega
      rw [hv] at hce
      clear hv
      have hk0 : (0 : Int) ≤ (n : Int) + k := by omega
      have hk1 : (n : Int) + k < (n : Int) + 8 := by omega
      go_wp2
      go_round
      case rel => exact ⟨k + 1, by omega, by go_num⟩
      case measure => simp [intOf]; omega
    · go_wp2_with (go_at_call 16
                   refine (sameBytes_any _ _ n c' n c bs bs _ HO.out.2.2 HO.out.2.2 (by have := HO.out.1; rw [bv_app] at this; exact this.rd_pre) HO.out.2.1 hcm hcm).mono ?_
                   rintro e w1 ⟨rfl, nk, rfl⟩)
      go_ret
      exact ⟨rfl, nk, rfl⟩


theorem rd_low {W w : World} {A : Option Addr} {us : List Value} (h : Rd W W.heap.size A us) (hb : Below W.heap.size W w) : Rd w w.heap.size A us := by
  intro j u hj
  obtain ⟨ad, e, h1, h2⟩ := h.below hb j u hj
  exact ⟨ad, e, Nat.lt_of_lt_of_le h1 hb.size, h2⟩
def chE (st : SC) (s : Dk) : Int := if st.kind = 1 then createE st.nm s else if st.kind = 2 then appendE st.nm st.bs s else if st.kind = 3 then truncE st.nm st.y s else if st.kind = 4 then syncE st.nm s else if st.kind = 5 then syncDirE s else if st.kind = 6 then renameE st.nm st.to s else removeE st.nm s
def chS (st : SC) (s : Dk) : Dk := if st.kind = 1 then createS st.nm s else if st.kind = 2 then appendS st.nm st.bs s else if st.kind = 3 then truncS st.nm st.y s else if st.kind = 4 then syncS st.nm s else if st.kind = 5 then syncDirS s else if st.kind = 6 then renameS st.nm st.to s else removeS st.nm s
section
variable {W w w1 w2 w' : World} {S S2 : Nat → Prop} {d N M : Nat} {s s' : Dk}
theorem Lv.Then.from_ (hb : Below w.heap.size w w1) (h : Lv.Then W w1 w' S d s N) : Lv.Then W w w' S d s N := by
  obtain ⟨S', h1, h2, h3⟩ := h
  refine ⟨S', h1, (Chg.of_below hb S).trans h2, fun b hb2 => (h3 b hb2).imp id fun h => Nat.le_trans hb.size h⟩
theorem Lv.Then.next (h : Lv.Then W w w1 S d s N) (hb : Below w1.heap.size w1 w') : Lv.Then W w w' S d s N := by
  obtain ⟨S', h1, h2, h3⟩ := h
  exact ⟨S', h1.next hb, h2.next hb, h3⟩
/-- A block of the call's own is written over. -/
theorem Lv.Then.own {g : Nat} (h : Lv.Then W w1 w2 S d s N) (hb : Below w.heap.size w w1) (hW : W.heap.size ≤ w.heap.size) (hg : w.heap.size ≤ g) (hg1 : g < w1.heap.size) (hgS : ¬ S g) (hc : Chg (fun b => b = g) w2 w') : Lv.Then W w w' S d s N := by
  obtain ⟨S', h1, h2, h3⟩ := h
  refine ⟨S', h1.far hc (fun b hb2 e => ?_) (fun b e => by omega), ((Chg.of_below hb S).trans h2).trans' hc fun j hj e => by omega, fun b hb2 => (h3 b hb2).imp id fun h => Nat.le_trans hb.size h⟩
  subst e
  rcases h3 _ hb2 with h4 | h4
  · exact hgS h4
  · omega
theorem Lv.lt (h : Lv W w S d s N) : ∀ b, S b → b < w.heap.size := h.1.lt
end
set_option maxRecDepth 100000 in
set_option maxHeartbeats 16000000 in
theorem change_any (W w : World) (S : Nat → Prop) (d : Nat) (s : Dk) (N : Nat) (st : SC) (h : Lv W w S d s N) (hN : N ≤ 999999999999) (hs : st.Ok W W.heap.size) (hk : 1 ≤ st.kind ∧ st.kind ≤ 7) (hmx : st.bs.length ≤ 140737488351232) :
    Calls Try.prog 23 #[.pointer (some ⟨d, 0, none⟩), .agg st.cells.toArray] w fun e w' => e = .returned (.tuple #[.int .i64 (chE st s), .bool true]) ∧ Lv.Then W w w' S d (chS st s) (N + 1) := by
  obtain ⟨k, nm, nt, x, y, A, bs, c, A2, ps, c2⟩ := st
  obtain ⟨n, hn⟩ : ∃ n, bs.length = n := ⟨_, rfl⟩
  obtain ⟨n2, hn2⟩ : ∃ n2, ps.length = n2 := ⟨_, rfl⟩
  obtain ⟨hA, _, hz1, hz2, _⟩ := hs
  dsimp only at hA hz1 hz2 hk hmx
  simp only [SC.cells, hn, hn2] at hmx ⊢
  have HA := Lib.hid (And.intro hA hn)
  have H := Lib.hid h
  have HW := Lib.hid h.2.2.1.size
  have HB := Lib.hid (Below.al w (.cells #[.int .i64 k, .string nm, .string nt, .int .i64 x, .int .i64 y, .slice A n c, .slice A2 n2 c2] 44))
  have HL := Lib.hid (h.next (Below.al w (.cells #[.int .i64 k, .string nm, .string nt, .int .i64 x, .int .i64 y, .slice A n c, .slice A2 n2 c2] 44)))
  clear hA hn hn2 h
  by_cases h2 : k = 2
  · subst h2
    clear hk
    have HX := Lib.hid (Box.new w 44 #[.int .i64 2, .string nm, .string nt, .int .i64 x, .int .i64 y, .slice A n c, .slice A2 n2 c2])
    obtain ⟨e2, he2⟩ : ∃ e2, appendE nm bs s = e2 := ⟨_, rfl⟩
    obtain ⟨s2, hs2⟩ : ∃ s2, appendS nm bs s = s2 := ⟨_, rfl⟩
    have HE := Lib.hid (And.intro he2 hs2)
    rw [show chE ⟨2, nm, nt, x, y, A, bs, c, A2, ps, c2⟩ s = e2 from he2, show chS ⟨2, nm, nt, x, y, A, bs, c, A2, ps, c2⟩ s = s2 from hs2]
    clear he2 hs2
    go_enter Try.func23, Try.ntmps23
    go_wp2_with (first
      | (go_at_call 53
         refine (roomy_any A n c bs _ (rd_low HA.out.1 HL.out.2.2.1) HA.out.2 hmx).mono ?_
         rintro e w1 ⟨g, c', rfl, hc1, hc2, hO, hb⟩
         have hX := HX.out.next hb
         have hxc := hX.cell
         have hgS : ¬ S g := fun h => by have h1 := H.out.lt _ h; have h2 := hO.1; simp at h2; omega
         have HO := Lib.hid (And.intro hO (And.intro hb hgS))
         have HC2 := Lib.hid hc2
         have HX1 := Lib.hid hX
         clear hO hb hX hc2 hgS)
      | (go_at_call 11
         refine (lv_append nm (some ⟨g, 0, none⟩) n c' bs (HL.out.next HO.out.2.1) hN hz1 ⟨by have := HO.out.1; rw [bv_app] at this; exact this.rd_pre, fun ad e _ hS => by injection e with e; subst e; exact HO.out.2.2 hS⟩ HA.out.2 (by omega)).mono ?_
         rintro e w2 ⟨rfl, h2⟩
         rw [HE.out.1]
         rw [HE.out.2] at h2
         obtain ⟨S2, hL2, hC2, hS2⟩ := h2
         have hO2 := HO.out.1.chg hC2 HO.out.2.2
         have hxc2 := (HX1.out.chg hC2 fun h => by have := H.out.lt _ h; omega).cell
         have HL2 := Lib.hid (And.intro hO2 (And.intro hL2 (And.intro hC2 hS2)))
         clear hL2 hC2 hS2 hO2 hxc)
      | (go_at_call 54
         refine (kept_any g n c' A c _ bs _ HL2.out.1 (rd_low HA.out.1 HL2.out.2.1.2.2.1) HA.out.2 hc1 hmx).mono ?_
         rintro e w3 ⟨rfl, nk, hw3⟩
         have HL3 := Lib.hid (show Own w3 (w.heap.size + 1) g 5 (bv (bs ++ mk8 8)) ∧ Chg (fun b => b = g) w2 w3 by rw [hw3]; exact ⟨by have := HL2.out.1.drewN nk; simpa using this, (Chg.refl _ _).drewN nk⟩)
         clear hw3))
    go_loopw [9] (fun i wr => ∃ (j : Nat) (ls : List UInt8), j ≤ n ∧ i = .int .i64 j ∧ ls.length = n + 8 ∧ Own wr (w.heap.size + 1) g 5 (bv ls) ∧ Chg (fun b => b = g) w2 wr) (fun i _ => n - (intOf i).toNat)
    case atStart => exact ⟨0, bs ++ mk8 8, Nat.zero_le _, rfl, by rw [List.length_append, HA.out.2, mk8_len], HL3.out⟩
    case round =>
      obtain ⟨j, ls, hj, rfl, hl, hO, hb⟩ := hrel
      by_cases hlt : j < n
      · have hj0 : (0 : Int) ≤ j := by omega
        have hj1 : (j : Int) < n := by omega
        obtain ⟨u, hcel⟩ : ∃ u, wr.cell? ⟨g, j, none⟩ = some u := ⟨_, hO.cell (i := j) (by rw [bv_len]; omega)⟩
        have hfre := hO.free j
        have hgl := hO.lt
        have hg0 := hO.1
        have hset := hO.set_ (i := j) (by rw [bv_len]; omega) (.int .u8 77)
        have HS := Lib.hid (And.intro hset hb)
        have HLL := Lib.hid hl
        clear hset hb hO hl
        go_wp2
        go_roundw
        case rel =>
          refine ⟨j + 1, ls.set j 77, by omega, by go_num, by rw [List.length_set]; exact HLL.out, ?_, HS.out.2.setCell (.inl rfl) _⟩
          have e : bv (ls.set j 77) = (bv ls).set j (.int .u8 77) := by simp [bv, List.map_set]
          rw [e]; exact HS.out.1
        case measure => simp [intOf]; omega
      · have HB2 := Lib.hid hb
        have HO2 := Lib.hid hO
        clear hb hO
        go_wp2
        go_ret2
        refine ⟨rfl, Lv.Then.own (g := g) ⟨S2, HL2.out.2⟩ (HB.out.trans (HO.out.2.1.mono (by simp))) HW.out (by have := HO.out.1.1; simp at this; omega) HO.out.1.lt HO.out.2.2 HB2.out⟩
  · have h2' : (k == 2) = false := by simpa using h2
    rcases (show k = 1 ∨ k = 3 ∨ k = 4 ∨ k = 5 ∨ k = 6 ∨ k = 7 by omega) with rfl | rfl | rfl | rfl | rfl | rfl
    all_goals
      clear h2 h2' hk
      go_enter Try.func23, Try.ntmps23
      go_wp2_with (first
        | (go_at_call 10; refine (lv_create nm HL.out hN hz1).mono ?_; rintro e w1 ⟨rfl, h1⟩; have H1 := Lib.hid h1; clear h1)
        | (go_at_call 55; refine (lv_trunc nm y HL.out hN hz1).mono ?_; rintro e w1 ⟨rfl, h1⟩; have H1 := Lib.hid h1; clear h1)
        | (go_at_call 12; refine (lv_sync nm HL.out hN hz1).mono ?_; rintro e w1 ⟨rfl, h1⟩; have H1 := Lib.hid h1; clear h1)
        | (go_at_call 13; refine (lv_syncDir HL.out hN).mono ?_; rintro e w1 ⟨rfl, h1⟩; have H1 := Lib.hid h1; clear h1)
        | (go_at_call 14; refine (lv_rename nm nt HL.out hN hz1 hz2).mono ?_; rintro e w1 ⟨rfl, h1⟩; have H1 := Lib.hid h1; clear h1)
        | (go_at_call 56; refine (lv_remove nm HL.out hN hz1).mono ?_; rintro e w1 ⟨rfl, h1⟩; have H1 := Lib.hid h1; clear h1))
      go_ret2
      exact ⟨rfl, Lv.Then.from_ HB.out H1.out⟩
end Go.Proofs.Ytomkieennkobcaa
