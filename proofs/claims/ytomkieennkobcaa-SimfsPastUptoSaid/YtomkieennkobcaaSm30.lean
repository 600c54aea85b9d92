import Derived.Test.YtomkieennkobcaaSm29
import Derived.Deep.QuietTactic
import Derived.BigQuiet
/- Images read: total, sameImage. -/
namespace Go.Proofs.Ytomkieennkobcaa
open Go.RowKit Go.Maps

theorem flat2 : ∀ (l : List ((ByteArray × List UInt8) × Value)) (i : Nat) (p : (ByteArray × List UInt8) × Value), l[i]? = some p → (l.flatMap fcell)[i * 2]? = some (.string p.1.1) ∧ (l.flatMap fcell)[i * 2 + 1]? = some p.2
  | [], i, p, h => by simp at h
  | q :: r, 0, p, h => by
    simp at h
    subst h
    exact ⟨rfl, rfl⟩
  | q :: r, i + 1, p, h => by
    have h1 := flat2 r i p (by simpa using h)
    have hl : (fcell q).length = 2 := rfl
    rw [List.flatMap_cons, List.getElem?_append_right (by omega), List.getElem?_append_right (by omega), hl, show (i + 1) * 2 - 2 = i * 2 by omega, show (i + 1) * 2 + 1 - 2 = i * 2 + 1 by omega]
    exact h1
/-- An image, read at A: all below B. -/
def IM (w : World) (B : Nat) (A : Option Addr) (l : List (ByteArray × List UInt8)) : Prop := ∀ (i : Nat) (p : ByteArray × List UInt8), l[i]? = some p → ∃ (ad : Addr) (x : Option Addr) (c : Nat), A = some ad ∧ ad.block < B ∧ w.cell? (ad.add (i * 2)) = some (.string p.1) ∧ w.cell? ⟨(ad.add (i * 2)).block, (ad.add (i * 2)).off + 1, none⟩ = some (.slice x p.2.length c) ∧ Rd w B x (bv p.2)
theorem IM.below {w w' : World} {B : Nat} {A : Option Addr} {l : List (ByteArray × List UInt8)} (h : IM w B A l) (hb : Below B w w') : IM w' B A l := by
  intro i p hp
  obtain ⟨ad, x, c, h1, h2, h3, h4, h5⟩ := h i p hp
  exact ⟨ad, x, c, h1, h2, by rw [hb.cell (by rw [add_block]; exact h2)]; exact h3, by rw [hb.cell (by show (ad.add (i * 2)).block < B; rw [add_block]; exact h2)]; exact h4, h5.below hb⟩
theorem IM.mono {w : World} {B B' : Nat} {A : Option Addr} {l : List (ByteArray × List UInt8)} (h : IM w B A l) (hb : B ≤ B') : IM w B' A l := by
  intro i p hp
  obtain ⟨ad, x, c, h1, h2, h3, h4, h5⟩ := h i p hp
  exact ⟨ad, x, c, h1, by omega, h3, h4, h5.mono hb⟩
theorem IM.next {w w' : World} {A : Option Addr} {l : List (ByteArray × List UInt8)} (h : IM w w.heap.size A l) (hb : Below w.heap.size w w') : IM w' w'.heap.size A l := (h.below hb).mono hb.size
theorem IM.drewN {w : World} {B : Nat} {A : Option Addr} {l : List (ByteArray × List UInt8)} (h : IM w B A l) (k : Nat) : IM (w.drewN k) B A l := h.below (below_drewN (Below.refl _ _) k)
theorem FLs.im {w : World} {base : Nat} {fs : List (ByteArray × List UInt8)} {us : List Value} {b : Option Addr} {n cap : Nat} (h : FLs w base fs us (.slice b n cap)) : IM w w.heap.size b fs := by
  intro i p hp
  obtain ⟨h1, h2, h3⟩ := h
  have hi : i < fs.length := (List.getElem?_eq_some_iff.1 hp).1
  obtain ⟨u, hu⟩ : ∃ u, us[i]? = some u := ⟨_, List.getElem?_eq_getElem (by rw [h1]; exact hi)⟩
  obtain ⟨x, c, rfl, hr⟩ := h3 i p u hp hu
  have hz : (fs.zip us)[i]? = some (p, .slice x p.2.length c) := by rw [List.getElem?_zip_eq_some]; exact ⟨hp, hu⟩
  obtain ⟨g1, g2⟩ := flat2 _ _ _ hz
  have hn : 0 < fs.length := by omega
  have hrd : Rd w w.heap.size b ((fs.zip us).flatMap fcell) := by
    obtain ⟨g, cap', e, _, _, ho⟩ := Own.of_row h2 hn
    injection e with e1 _ _
    subst e1
    exact Own.rd_pre (ts := []) (by rw [List.append_nil]; exact ho)
  obtain ⟨ad, rfl, hb, c0⟩ := hrd _ _ g1
  obtain ⟨ad', e, _, c1⟩ := hrd _ _ g2
  cases e
  rw [← add_add'] at c1
  exact ⟨ad, x, c, rfl, hb, c0, c1, row_rd hr⟩
def sumL (l : List (ByteArray × List UInt8)) : Nat := (l.map fun p => p.2.length).sum
theorem sumL_snoc (l : List (ByteArray × List UInt8)) (p : ByteArray × List UInt8) : sumL (l ++ [p]) = sumL l + p.2.length := by simp [sumL]
theorem sumL_take (l : List (ByteArray × List UInt8)) (k : Nat) : sumL (l.take k) ≤ sumL l := by
  have e : sumL l = sumL (l.take k) + sumL (l.drop k) := by
    conv => lhs; rw [← List.take_append_drop k l]
    unfold sumL
    rw [List.map_append, List.sum_append]
  omega
set_option maxRecDepth 100000 in
set_option maxHeartbeats 4000000 in
theorem total_any (A : Option Addr) (n c : Nat) (l : List (ByteArray × List UInt8)) (w : World) (h : IM w w.heap.size A l) (hn : l.length = n) (hmx : n ≤ 140737488351232) (hs : sumL l ≤ 1000000000000000) :
    Calls Try.prog 24 #[.slice A n c] w fun e w' => e = .returned (.int .i64 (sumL l : Nat)) ∧ w' = w := by
  have H := Lib.hid (And.intro h (And.intro hn hs))
  clear h hn hs
  go_enter Try.func24, Try.ntmps24
  go_wp2
  go_loopw [3, 4] (fun t i wr => ∃ (k : Nat), k ≤ n ∧ i = .int .i64 k ∧ t = .int .i64 (sumL (l.take k) : Nat) ∧ wr = w) (fun _ i _ => n - (intOf i).toNat)
  case atStart => exact ⟨0, Nat.zero_le _, rfl, rfl, rfl⟩
  case round =>
    obtain ⟨k, hk, rfl, rfl, hwr⟩ := hrel
    subst hwr
    by_cases hlt : k < n
    · have hk0 : (0 : Int) ≤ k := by omega
      have hk1 : (k : Int) < n := by omega
      have hkl : k < l.length := by rw [H.out.2.1]; exact hlt
      obtain ⟨p, hp⟩ : ∃ p, l[k] = p := ⟨_, rfl⟩
      obtain ⟨ad, x, cx, rfl, had, c0, c1, _⟩ := H.out.1 k p (by rw [List.getElem?_eq_getElem hkl, hp])
      have hst : sumL (l.take (k + 1)) = sumL (l.take k) + p.2.length := by rw [List.take_succ_eq_append_getElem hkl, sumL_snoc, hp]
      have hle := sumL_take l (k + 1)
      have hle2 := H.out.2.2
      obtain ⟨m, hm⟩ : ∃ m, p.2.length = m := ⟨_, rfl⟩
      obtain ⟨t, ht⟩ : ∃ t, sumL (l.take k) = t := ⟨_, rfl⟩
      rw [hm] at c1 hst
      rw [ht] at hst ⊢
      have htm : t + m ≤ 1000000000000000 := by omega
      have HST := Lib.hid hst
      clear hst hle hle2 hm ht hkl hp
      go_wp2
      go_roundw
      case rel => exact ⟨k + 1, by omega, by go_num, by rw [HST.out]; go_num, trivial⟩
      case measure => simp [intOf]; omega
    · obtain rfl : k = n := by omega
      have hlk : l.take k = l := by rw [← H.out.2.1]; exact List.take_length
      rw [hlk]
      go_wp2
      go_ret
      exact ⟨rfl, rfl⟩
theorem pair_ne1 {α β : Type} {l m : List (α × β)} {i : Nat} {p q : α × β} (hp : l[i]? = some p) (hq : m[i]? = some q) (h : ¬ p = q) : ¬ l = m := fun e => by
  subst e
  rw [hp] at hq
  injection hq with hq
  exact h hq
set_option maxRecDepth 100000 in
set_option maxHeartbeats 8000000 in
/-- Two images: are they alike? -/
theorem sameImage_any (A A' : Option Addr) (n c n' c' : Nat) (a b : List (ByteArray × List UInt8)) (w : World) (hn : a.length = n) (hn' : b.length = n') (hA : IM w w.heap.size A a) (hA' : IM w w.heap.size A' b) (hmx : n ≤ 140737488351232) (hmx' : n' ≤ 140737488351232) (hba : ∀ p ∈ a, p.2.length ≤ 140737488351232) (hbb : ∀ p ∈ b, p.2.length ≤ 140737488351232) :
    Calls Try.prog 29 #[.slice A n c, .slice A' n' c'] w fun e w' => e = .returned (.bool (decide (a = b))) ∧ ∃ k, w' = w.drewN k := by
  have Hn := Lib.hid (And.intro (And.intro hn hn') (And.intro hba hbb))
  have HA := Lib.hid (And.intro hA hA')
  clear hA hA' hba hbb
  by_cases hnn : n = n'
  · subst hnn
    clear hn hn'
    go_enter Try.func29, Try.ntmps29
    go_wp2
    go_loopw [5] (fun i wr => ∃ (k m : Nat), k ≤ n ∧ i = .int .i64 k ∧ wr = w.drewN m ∧ a.take k = b.take k) (fun i _ => n - (intOf i).toNat)
    case atStart => exact ⟨0, 0, Nat.zero_le _, rfl, rfl, rfl⟩
    case round =>
      obtain ⟨k, m, hk, rfl, hw, ht⟩ := hrel
      have hia : IM wr wr.heap.size A a := by rw [hw]; exact HA.out.1.drewN m
      have hib : IM wr wr.heap.size A' b := by rw [hw]; exact HA.out.2.drewN m
      have Ht := Lib.hid (And.intro ht hw)
      have HI := Lib.hid (And.intro hia hib)
      clear ht hw hia hib
      by_cases hlt : k < n
      · have hk0 : (0 : Int) ≤ k := by omega
        have hk1 : (k : Int) < n := by omega
        have hka : k < a.length := by rw [Hn.out.1.1]; exact hlt
        have hkb : k < b.length := by rw [Hn.out.1.2]; exact hlt
        obtain ⟨p, hp⟩ : ∃ p, a[k] = p := ⟨_, rfl⟩
        obtain ⟨q, hq⟩ : ∃ q, b[k] = q := ⟨_, rfl⟩
        have hpa : a[k]? = some p := by rw [List.getElem?_eq_getElem hka, hp]
        have hqb : b[k]? = some q := by rw [List.getElem?_eq_getElem hkb, hq]
        obtain ⟨ad, x, cx, rfl, had, p0, p1, p2⟩ := HI.out.1 k _ hpa
        obtain ⟨ad', y, cy, rfl, had', q0, q1, q2⟩ := HI.out.2 k _ hqb
        have HTA := Lib.hid (show a.take (k + 1) = a.take k ++ [p] by rw [← hp]; exact List.take_succ_eq_append_getElem hka)
        have HTB := Lib.hid (show b.take (k + 1) = b.take k ++ [q] by rw [← hq]; exact List.take_succ_eq_append_getElem hkb)
        have HNE := Lib.hid (fun (h : ¬ p = q) => pair_ne1 hpa hqb h)
        have hl1 := Hn.out.2.1 p (List.mem_of_getElem? hpa)
        have hl2 := Hn.out.2.2 q (List.mem_of_getElem? hqb)
        obtain ⟨nm, pb⟩ := p
        obtain ⟨nm', qb⟩ := q
        simp only at p0 p1 p2 q0 q1 q2 hl1 hl2
        obtain ⟨lx, hlx⟩ : ∃ lx, pb.length = lx := ⟨_, rfl⟩
        obtain ⟨ly, hly⟩ : ∃ ly, qb.length = ly := ⟨_, rfl⟩
        rw [hlx] at p1 hl1
        rw [hly] at q1 hl2
        have HP := Lib.hid (And.intro p2 (And.intro q2 (And.intro hlx hly)))
        clear hka hkb hp hq hpa hqb p2 q2 hlx hly
        by_cases hxy : nm = nm'
        · subst hxy
          by_cases hbb : pb = qb
          · subst hbb
            go_wp2
            go_quiet ((go_at_call 16; exact Calls.quiet_of (sameBytes_any x y lx cx ly cy pb pb _ HP.out.2.2.1 HP.out.2.2.2 (HP.out.1.next (below_drewN (Below.refl _ _) _)) (HP.out.2.1.next (below_drewN (Below.refl _ _) _)) hl1 hl2)))
            rw [show decide (pb = pb) = true from decide_eq_true rfl]
            go_wp2
            go_roundw
            case rel => exact ⟨k + 1, _, by omega, by go_num, by rw [Ht.out.2]; first | rfl | exact World.drewN_drewN .., by rw [HTA.out, HTB.out, Ht.out.1]⟩
            case measure => simp [intOf]; omega
          · have hdb := Lib.hid (show decide (pb = qb) = false from decide_eq_false hbb)
            have HF := Lib.hid (HNE.out fun e => hbb (by injection e))
            clear hbb
            go_wp2
            go_quiet ((go_at_call 16; exact Calls.quiet_of (sameBytes_any x y lx cx ly cy pb qb _ HP.out.2.2.1 HP.out.2.2.2 (HP.out.1.next (below_drewN (Below.refl _ _) _)) (HP.out.2.1.next (below_drewN (Below.refl _ _) _)) hl1 hl2)))
            rw [hdb.out]
            go_wp2
            go_ret
            exact ⟨ret_bool (decide_eq_false HF.out).symm, _, by rw [Ht.out.2]; first | rfl | exact World.drewN_drewN ..⟩
        · have hne := key_ne hxy
          have HF := Lib.hid (HNE.out fun e => hxy (by injection e))
          clear hxy
          go_wp2
          go_quiet (fail)
          go_wp2
          go_ret
          exact ⟨ret_bool (decide_eq_false HF.out).symm, _, by rw [Ht.out.2]; first | rfl | exact World.drewN_drewN ..⟩
      · go_wp2
        go_ret
        refine ⟨?_, m, Ht.out.2⟩
        have hk' : k = n := by omega
        have e : a = b := by
          have := Ht.out.1
          rwa [List.take_of_length_le (by rw [Hn.out.1.1]; omega), List.take_of_length_le (by rw [Hn.out.1.2]; omega)] at this
        exact ret_bool (decide_eq_true e).symm
  · have hne : ¬ (n : Int) = (n' : Int) := by omega
    have HF := Lib.hid (show ¬ a = b from fun e => hnn (by rw [← hn, ← hn', e]))
    clear hnn hn hn'
    go_enter Try.func29, Try.ntmps29
    go_wp2
    go_ret
    exact ⟨ret_bool (decide_eq_false HF.out).symm, 0, rfl⟩
end Go.Proofs.Ytomkieennkobcaa
