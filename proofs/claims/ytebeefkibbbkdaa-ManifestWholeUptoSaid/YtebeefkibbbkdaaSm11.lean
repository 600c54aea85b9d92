import Derived.Test.YtebeefkibbbkdaaSm10
import Derived.Deep.RegionWith
import Derived.Lib.SliceRun
/- Operations on a disk's file: spend, Append, Truncate, Sync. -/
namespace Go.Proofs.Ytebeefkibbbkdaa
open Go.RowKit Go.Maps

def Dk.dx (s : Dk) (q : DX) : Dk := { s with quota := q.1, used := q.2.1, fuse := q.2.2.1, dead := q.2.2.2.1, ops := q.2.2.2.2 }
theorem DM.dx {w w' : World} {L : Nat → Nat} {d ms mf : Nat} {fb : List Nat} {s : Dk} {vc : Value} {q : DX} (h : DM w L d fb s ms mf vc) (hc : Chg (fun b => b = d) w w') (hb : Box w' d 72 (dxc ms mf vc q)) : DM w' L d fb (s.dx q) ms mf vc := by
  have hn : ∀ b, b < w.heap.size → L b ≠ 1 → w'.heap[b]? = w.heap[b]? := fun b hb hl => hc.block b hb fun e => hl (by rw [e]; exact h.ld)
  refine ⟨hb, h.ld, h.lms, h.lmf, h.seen.keep (hn ms h.seen.lt (by rw [h.lms]; omega)), h.safe.keep (hn mf h.safe.lt (by rw [h.lmf]; omega)), row_block h.rc fun b hb => hn b (h.rc.lt b hb).2 (by rw [h.lc b hb]; omega), h.lc, h.fl, fun k x hx => ?_, fun b hb => Nat.lt_of_lt_of_le (h.lab b hb) hc.size, h.ids, h.dids⟩
  obtain ⟨vs, vf, vcc, us, hF⟩ := h.files k x hx
  exact ⟨vs, vf, vcc, us, hF.keep hc.size (fun b hb h1 _ => hn b hb (by omega)) (fun _ _ => rfl)⟩
theorem chg_at {a w : World} {d : Nat} (h : Chg (fun b => b = d) a w) (i : Nat) (u : Value) : Chg (fun b => b = d) a (w.setCell ⟨d, i, none⟩ u) := h.setCell (.inl rfl) u
theorem dx_self (s : Dk) : s.dx (s.quota, s.used, s.fuse, s.dead, s.ops) = s := rfl

set_option maxRecDepth 100000 in
set_option maxHeartbeats 2000000 in
theorem spend_dm (L : Nat → Nat) (fb : List Nat) (ms mf : Nat) (vc : Value) (d : Nat) (s : Dk) (w : World) (h : DM w L d fb s ms mf vc) (ho : 0 ≤ s.ops ∧ s.ops ≤ 1000000000000000) (hf : -1 ≤ s.fuse ∧ s.fuse ≤ 9223372036854775807) :
    Calls Try.prog 77 #[.pointer (some ⟨d, 0, none⟩)] w fun e w' => e = .returned (.int .i64 (spendE s)) ∧ DM w' L d fb (spendS s) ms mf vc ∧ Chg (fun b => b = d) w w' := by
  obtain ⟨ho0, ho1⟩ := ho
  have hb := h.box
  have hc := hb.cell
  have hz := hb.free
  have hl := hb.lt
  have H := Lib.hid (And.intro h hf)
  clear h hb hf
  by_cases h0 : s.fuse = 0
  · have HE := Lib.hid (show spendE s = 34 ∧ spendS s = { s with dead := true } by simp [spendE, spendS, h0])
    have h1 : (s.fuse == 0) = true := by simpa using h0
    clear h0
    go_enter Try.func77, Try.ntmps77
    go_wp2
    go_ret
    rw [HE.out.1, HE.out.2]
    exact ⟨rfl, H.out.1.dx (chg_at (Chg.refl _ w) _ _) (q := (s.quota, s.used, s.fuse, true, s.ops)) (by simpa using H.out.1.box.set_ 6 (.bool true)), chg_at (Chg.refl _ w) _ _⟩
  · have h1 : (s.fuse == 0) = false := by simpa using h0
    by_cases hp : 0 < s.fuse
    · have HE := Lib.hid (show spendE s = 0 ∧ spendS s = { s with fuse := s.fuse - 1, ops := s.ops + 1 } by simp [spendE, spendS, h0, hp])
      have HW := Lib.hid (show wrap64 (s.fuse - 1) = s.fuse - 1 from IntWalk.wrap64_in _ ⟨by omega, by have := H.out.2; omega⟩)
      clear h0
      go_enter Try.func77, Try.ntmps77
      go_wp2
      go_ret
      rw [HE.out.1, HE.out.2]
      try rw [HW.out]
      refine ⟨rfl, H.out.1.dx (chg_at (chg_at (Chg.refl _ w) _ _) _ _) (q := (s.quota, s.used, s.fuse - 1, s.dead, s.ops + 1)) ?_, chg_at (chg_at (Chg.refl _ w) _ _) _ _⟩
      simpa using (H.out.1.box.set_ 5 (.int .i64 (s.fuse - 1))).set_ 7 (.int .i64 (s.ops + 1))
    · have HE := Lib.hid (show spendE s = 0 ∧ spendS s = { s with ops := s.ops + 1 } by simp [spendE, spendS, h0, hp])
      clear h0
      go_enter Try.func77, Try.ntmps77
      go_wp2
      go_ret
      rw [HE.out.1, HE.out.2]
      refine ⟨rfl, H.out.1.dx (chg_at (Chg.refl _ w) _ _) (q := (s.quota, s.used, s.fuse, s.dead, s.ops + 1)) ?_, chg_at (Chg.refl _ w) _ _⟩
      simpa using H.out.1.box.set_ 7 (.int .i64 (s.ops + 1))

/-- One file has turned. -/
theorem DM.file {w w' : World} {L L' : Nat → Nat} {d ms mf k : Nat} {fb : List Nat} {s : Dk} {vc : Value} {x' : Fl} {vs vf vcc : Value} {us : List Value} (h : DM w L d fb s ms mf vc) (hk : k < s.files.length)
    (hL : ∀ b, b < w.heap.size → L' b = L b) (hl : ∀ b, w.heap.size ≤ b → L' b ≠ 0 → b < w'.heap.size) (hr : ∀ b, w.heap.size ≤ b → L' b = 0 ∨ (8 * k + 8 ≤ L' b ∧ L' b < 8 * k + 16)) (hF : FM w' L' (fb.getD k 0) k x' vs vf vcc us)
    (hc : Chg (fun b => 8 * k + 8 ≤ L b ∧ L b < 8 * k + 16) w w') : DM w' L' d fb (s.setF k x') ms mf vc := by
  have hn : ∀ b, b < w.heap.size → ¬ (8 * k + 8 ≤ L b ∧ L b < 8 * k + 16) → w'.heap[b]? = w.heap[b]? := fun b hb hl => hc.block b hb hl
  have hd := h.box.lt
  refine ⟨(hn d hd (by rw [h.ld]; omega)).trans h.box, by rw [hL d hd]; exact h.ld, by rw [hL ms h.seen.lt]; exact h.lms, by rw [hL mf h.safe.lt]; exact h.lmf, h.seen.keep (hn ms h.seen.lt (by rw [h.lms]; omega)), h.safe.keep (hn mf h.safe.lt (by rw [h.lmf]; omega)),
    row_block h.rc fun b hb => hn b (h.rc.lt b hb).2 (by rw [h.lc b hb]; omega), fun b hb => by rw [hL b (h.rc.lt b hb).2]; exact h.lc b hb, by simp [Dk.setF, h.fl], fun j x hx => ?_, fun b hb => ?_, fun p hp => by simpa [Dk.setF] using h.ids p hp, fun n f hf => by simpa [Dk.setF] using h.dids n f hf⟩
  · by_cases hj : j = k
    · subst hj
      have : x = x' := by
        simp only [Dk.setF, List.getElem?_set_self hk] at hx
        injection hx with hx
        exact hx.symm
      subst this
      exact ⟨vs, vf, vcc, us, hF⟩
    · have hx2 : s.files[j]? = some x := by
        simp only [Dk.setF] at hx
        rwa [List.getElem?_set_ne (Ne.symm hj)] at hx
      obtain ⟨vs, vf, vcc, us, hG⟩ := h.files j x hx2
      refine ⟨vs, vf, vcc, us, hG.keep hc.size (fun b hb h1 h2 => hn b hb (by omega)) hL⟩
  · rcases Nat.lt_or_ge b w.heap.size with hlt | hge
    · exact Nat.lt_of_lt_of_le hlt hc.size
    · exact hl b hge hb
/-- A block of the call's own is given to file k. -/
theorem DM.give {w : World} {L : Nat → Nat} {d ms mf k g : Nat} {fb : List Nat} {s : Dk} {vc : Value} (h : DM w L d fb s ms mf vc) (hg : L g = 0) (hl : g < w.heap.size) : DM w (fun b => if b = g then 8 * k + 12 else L b) d fb s ms mf vc := by
  have hn : ∀ b, L b ≠ 0 → (if b = g then 8 * k + 12 else L b) = L b := fun b hb => if_neg fun e => hb (by rw [e]; exact hg)
  refine ⟨h.box, by rw [hn d (by rw [h.ld]; omega)]; exact h.ld, by rw [hn ms (by rw [h.lms]; omega)]; exact h.lms, by rw [hn mf (by rw [h.lmf]; omega)]; exact h.lmf, h.seen, h.safe, h.rc, fun b hb => by rw [hn b (by rw [h.lc b hb]; omega)]; exact h.lc b hb, h.fl, fun j x hx => ?_, fun b hb => ?_, h.ids, h.dids⟩
  · obtain ⟨vs, vf, vcc, us, hG⟩ := h.files j x hx
    refine ⟨vs, vf, vcc, us, hG.box, by rw [hn _ (by rw [hG.lab]; omega)]; exact hG.lab, hG.rs, fun b hb => by rw [hn b (by rw [hG.ls b hb]; omega)]; exact hG.ls b hb, hG.rf, fun b hb => by rw [hn b (by rw [hG.lf b hb]; omega)]; exact hG.lf b hb, hG.rc, fun b hb => by rw [hn b (by rw [hG.lc b hb]; omega)]; exact hG.lc b hb, hG.len, fun i c u hi hu => ?_⟩
    exact (hG.ch i c u hi hu).keep (Nat.le_refl _) (fun _ _ _ => rfl) fun b _ hb => by rw [hn b (by omega)]; exact hb
  · by_cases e : b = g
    · rw [e]; exact hl
    · simp only [e, if_false] at hb; exact h.lab b hb
theorem fl_get {s : Dk} {k : Nat} (hk : k < s.files.length) : s.files[k]? = some (s.fl k) := by
  unfold Dk.fl; rw [List.getD_eq_getElem?_getD, List.getElem?_eq_getElem hk]; rfl
/-- What a call has done to a disk. -/
def Did (w w' : World) (S : Nat → Prop) (d : Nat) (s' : Dk) : Prop := ∃ S', Disk w' S' d s' ∧ Chg S w w' ∧ ∀ b, S' b → S b ∨ w.heap.size ≤ b
theorem Did.same {w w' : World} {S : Nat → Prop} {d : Nat} {s : Dk} (h : Disk w S d s) (hb : Below w.heap.size w w') : Did w w' S d s := ⟨S, h.next hb, Chg.of_below hb _, fun _ h => .inl h⟩
theorem Did.of {w w1 w' : World} {L L' : Nat → Nat} {S : Nat → Prop} {d ms mf : Nat} {fb : List Nat} {s' : Dk} {vc : Value} (hS : ∀ b, S b ↔ L b ≠ 0) (h : DM w' L' d fb s' ms mf vc) (h1 : Below w.heap.size w w1) (hc : Chg (fun b => L b ≠ 0 ∨ w.heap.size ≤ b) w1 w') (hL : ∀ b, b < w.heap.size → L' b ≠ 0 → L b ≠ 0) : Did w w' S d s' :=
  ⟨fun b => L' b ≠ 0, ⟨L', fb, ms, mf, vc, h, fun _ => Iff.rfl⟩, (Chg.of_below h1 _).trans' hc fun j hj hs => by
    rcases hs with hs | hs
    · exact (hS j).2 hs
    · omega, fun b hb => by
    rcases Nat.lt_or_ge b w.heap.size with hlt | hge
    · exact .inl ((hS b).2 (hL b hlt hb))
    · exact .inr hge⟩

set_option maxRecDepth 100000 in
set_option maxHeartbeats 2000000 in
theorem clone_any (A : Option Addr) (n c : Nat) (bs : List UInt8) (w : World) (hA : Rd w w.heap.size A (bv bs)) (hn : bs.length = n) (hmx : n ≤ 140737488355328) :
    Calls Try.prog 45 #[.slice A n c] w fun e w' => ∃ b cap, e = .returned (.slice b n cap) ∧ w'.ownsRow w.heap.size 5 1 (.slice b n cap) n (bv bs) ∧ Below w.heap.size w w' := by
  obtain ⟨i1, hi1, hz1, hs1, hy1⟩ := info_parts info_u8
  have qT : ∀ (w : World) (a : Option Addr) (n c n' c' : Nat), (binOp .eql 22 (.slice a n c) (.slice none n' c')).run Try.prog w = .ok (.bool a.isNone) w := fun w a n c n' c' => Lib.run_eql_slice_nil w _ _ a n c n' c' Try.underlying22
  cases A with
  | none =>
    have hb : bs = [] := by
      cases bs with
      | nil => rfl
      | cons x r => obtain ⟨_, h, _⟩ := hA 0 _ rfl; cases h
    subst hb
    subst hn
    go_enter Try.func45, Try.ntmps45
    go_wp2
    go_ret
    exact ⟨none, 0, rfl, nil_own _ _ _ _, Below.refl _ _⟩
  | some ad =>
    have Hown0 := Lib.hid (own_empty w w.heap.size 5 1 (Nat.le_refl _))
    have Hrd0 := Lib.hid (hA.below (Below.al w (.cells #[] 5)))
    have Hn := Lib.hid (show (bv bs).length = n * 1 by simp [bv, hn])
    have Hb1 := Lib.hid (Below.al w (.cells #[] 5))
    clear hA hn
    go_enter Try.func45, Try.ntmps45
    go_wp2_with (at_builtin
                 refine wpList_app _ rfl (.tmp 5) (.tmp 6) _ rfl w.heap.size 5 i1 _ 1 1 Try.underlying22 hi1 hz1 hs1 hy1 rfl (by omega) (.slice (some ⟨w.heap.size, 0, none⟩) 0 0) 0 [] rfl Hown0.out _ (some ad) n c (bv bs) rfl Hn.out Hrd0.out (one_bv _) (by unfold maxLen; omega) (by omega) (by simp <;> omega) ?_
                 intro v1 w1 hown1 hg1 _
                 rw [Nat.zero_add, List.nil_append] at hown1
                 obtain ⟨b1, c1, rfl⟩ := row_slice hown1
                 have H1 := Lib.hid (And.intro hown1 (Hb1.out.grown hg1 (by simp <;> omega) (by simp [Value.ownBlock] <;> omega)))
                 clear hown1 hg1)
    go_ret
    exact ⟨b1, c1, rfl, H1.out.1, H1.out.2⟩
end Go.Proofs.Ytebeefkibbbkdaa
