import Derived.Test.YtebeefkibbbkdaaSm4
/- settle and part of a file. -/
namespace Go.Proofs.Ytebeefkibbbkdaa
open Go.RowKit Go.Maps

theorem Chg.trans' {S S' : Nat → Prop} {a b c : World} (h : Chg S a b) (k : Chg S' b c) (hS : ∀ j, j < a.heap.size → S' j → S j) : Chg S a c :=
  ⟨k.os.trans h.os, k.tape.trans h.tape, k.output.trans h.output, Nat.le_trans h.size k.size, fun i hi hn => (k.block i (Nat.lt_of_lt_of_le hi h.size) fun hs => hn (hS i hi hs)).trans (h.block i hi hn)⟩
theorem RS.trans' {a b c : World} {u v z : Value} (h : RS a b u v) (k : RS b c v z) (hz : a.heap.size ≤ b.heap.size) : RS a c u z := by
  refine ⟨h.1.trans' k.1 fun j hj hs => ?_, ?_⟩
  · rcases h.2 with h1 | h1
    · exact h1 ▸ hs
    · have := h1 j hs; omega
  · rcases k.2 with k1 | k1
    · rcases h.2 with h1 | h1
      · exact .inl (k1.trans h1)
      · exact .inr fun j hj => h1 j (k1 ▸ hj)
    · exact .inr fun j hj => Nat.le_trans hz (k1 j hj)
theorem Rd.one {w : World} {B : Nat} {A : Option Addr} {us : List Value} (h : Rd w B A us) {i : Nat} (hi : i < us.length) : ∃ ad : Addr, A = some ad ∧ ad.block < B ∧ w.cell? (ad.add i) = some us[i] := by
  obtain ⟨ad, rfl, hb, hc⟩ := h i us[i] (List.getElem?_eq_getElem hi)
  exact ⟨ad, rfl, hb, hc⟩
/-- While a row of bytes that is none of the file's turns, the file stays. -/
theorem FM.keep {w w' : World} {L L' : Nat → Nat} {f k : Nat} {x : Fl} {vs vf vc : Value} {us : List Value} (h : FM w L f k x vs vf vc us) (hz : w.heap.size ≤ w'.heap.size)
    (hk : ∀ b, b < w.heap.size → 8 * k + 8 ≤ L b → L b < 8 * k + 16 → w'.heap[b]? = w.heap[b]?) (hL : ∀ b, b < w.heap.size → L' b = L b) : FM w' L' f k x vs vf vc us := by
  have hfl := h.box.lt
  refine ⟨(hk f hfl (by rw [h.lab]; omega) (by rw [h.lab]; omega)).trans h.box, by rw [hL f hfl]; exact h.lab, row_block h.rs fun b hb => ?_, fun b hb => ?_, row_block h.rf fun b hb => ?_, fun b hb => ?_, row_block h.rc fun b hb => ?_, fun b hb => ?_, h.len, fun i c u hi hu => ?_⟩
  · exact hk b (h.rs.lt b hb).2 (by rw [h.ls b hb]; omega) (by rw [h.ls b hb]; omega)
  · rw [hL b (h.rs.lt b hb).2]; exact h.ls b hb
  · exact hk b (h.rf.lt b hb).2 (by rw [h.lf b hb]; omega) (by rw [h.lf b hb]; omega)
  · rw [hL b (h.rf.lt b hb).2]; exact h.lf b hb
  · exact hk b (h.rc.lt b hb).2 (by rw [h.lc b hb]; omega) (by rw [h.lc b hb]; omega)
  · rw [hL b (h.rc.lt b hb).2]; exact h.lc b hb
  · exact (h.ch i c u hi hu).keep hz (fun b hb hl => hk b hb (by omega) (by omega)) (fun b hb hl => by rw [hL b hb]; exact hl)
/-- How long a file's bytes may be at any time. -/
def Short (x : Fl) (m : Nat) : Prop := ∀ i, ((x.chs.take i).foldl fdo x.safe).length ≤ m
theorem Short.step {x : Fl} {m i : Nat} (h : Short x m) (hi : i < x.chs.length) : (fdo ((x.chs.take i).foldl fdo x.safe) x.chs[i]).length ≤ m := by
  have := h (i + 1)
  rw [List.take_succ_eq_append_getElem hi, List.foldl_append] at this
  exact this
theorem take_fold {x : Fl} {i : Nat} (hi : i < x.chs.length) : (x.chs.take (i + 1)).foldl fdo x.safe = fdo ((x.chs.take i).foldl fdo x.safe) x.chs[i] := by
  rw [List.take_succ_eq_append_getElem hi, List.foldl_append]; rfl
/-- Within settle: what is durable has come to y. -/
structure Set' (w wr : World) (f : Nat) (vs vf vc v1 : Value) (y : List UInt8) : Prop where
  box : Box wr f 94 #[vs, v1, vc]
  row : wr.ownsRow 0 5 1 v1 y.length (bv y)
  chg : Chg (fun k => k = f ∨ vf.ownBlock = some k) w wr
  own : v1.ownBlock = vf.ownBlock ∨ ∀ k, v1.ownBlock = some k → w.heap.size ≤ k
section
variable {w wr : World} {L : Nat → Nat} {f k : Nat} {x : Fl} {vs vf vc v1 : Value} {us : List Value} {y : List UInt8}
theorem Set'.start (h : FM w L f k x vs vf vc us) : Set' w w f vs vf vc vf x.safe := ⟨h.box, h.rf, Chg.refl _ _, .inl rfl⟩
theorem Set'.v1f (m : Set' w wr f vs vf vc v1 y) (h : FM w L f k x vs vf vc us) : ∀ j, v1.ownBlock = some j → j ≠ f := fun j hj e => by
  rcases m.own with h1 | h1
  · have := h.lf j (h1 ▸ hj); have := h.lab; rw [e] at *; omega
  · have := h1 j hj; have := h.box.lt; omega
theorem Set'.keepRow (m : Set' w wr f vs vf vc v1 y) (h : FM w L f k x vs vf vc us) {r : Value} {n l : Nat} {e : TypeId} {xs : List Value} (hr : w.ownsRow 0 e 1 r n xs) (hl : ∀ b, r.ownBlock = some b → L b = l) (hne : l ≠ 8 * k + 8 ∧ l ≠ 8 * k + 10) : wr.ownsRow 0 e 1 r n xs :=
  row_block hr fun j hj => m.chg.block j (hr.lt j hj).2 fun hs => by
    rcases hs with rfl | hs
    · have := hl _ hj; have := h.lab; omega
    · have := hl _ hj; have := h.lf _ hs; omega
theorem Set'.keepCh (m : Set' w wr f vs vf vc v1 y) (h : FM w L f k x vs vf vc us) {c : FC} {u : Value} (hu : FV w (fun b => L b = 8 * k + 12) c u) : FV wr (fun b => L b = 8 * k + 12) c u :=
  hu.keep m.chg.size (fun b hb hl => m.chg.block b hb fun hs => by
    rcases hs with rfl | hs
    · have := h.lab; omega
    · have := h.lf _ hs; omega) fun _ _ h => h
theorem Set'.step {w1 : World} {v2 : Value} {n : Nat} {y2 : List UInt8} (m : Set' w wr f vs vf vc v1 y) (h : FM w L f k x vs vf vc us) (hr : w1.ownsRow 0 5 1 v2 n (bv y2)) (hn : n = y2.length) (hs : RS wr.drew w1 v1 v2) :
    Set' w (w1.setCell ⟨f, 1, none⟩ v2) f vs vf vc v2 y2 := by
  subst hn
  have hv1 := m.v1f h
  have hsz := m.chg.size
  have hfl := h.box.lt
  have hv2 : ∀ j, v2.ownBlock = some j → j ≠ f := fun j hj e => by
    rcases hs.2 with h1 | h1
    · exact hv1 j (h1 ▸ hj) e
    · have h8 := h1 j hj; have h9 := m.box.lt; have h7 : wr.drew.heap.size = wr.heap.size := rfl; omega
  have hb : Box w1 f 94 #[vs, v1, vc] := (show Box wr.drew f 94 #[vs, v1, vc] from m.box).chg hs.1 fun e => hv1 f e rfl
  refine ⟨by simpa using hb.set_ 1 v2, row_far hr (fun j hj => hv2 j hj) _, ?_, ?_⟩
  · refine Chg.setCell ?_ (.inl (.inl rfl)) _
    refine m.chg.drew.trans' hs.1 fun j hj hs' => ?_
    rcases m.own with h1 | h1
    · exact .inr (h1 ▸ hs')
    · have := h1 j hs'; omega
  · rcases hs.2 with h1 | h1
    · rcases m.own with h2 | h2
      · exact .inl (h1.trans h2)
      · exact .inr fun j hj => h2 j (h1 ▸ hj)
    · exact .inr fun j hj => Nat.le_trans hsz (h1 j hj)
theorem Set'.done {w' : World} (m : Set' w wr f vs vf vc v1 y) (h : FM w L f k x vs vf vc us) (he : w' = wr.setCell ⟨f, 2, none⟩ (.slice none 0 0)) (hy : y = x.seen) :
    ∃ L', (∀ b, b < w.heap.size → L' b = L b) ∧ (∀ b, w.heap.size ≤ b → L' b ≠ 0 → b < w'.heap.size) ∧ (∀ b, w.heap.size ≤ b → L' b = 0 ∨ (8 * k + 8 ≤ L' b ∧ L' b < 8 * k + 16)) ∧ FM w' L' f k ⟨x.seen, []⟩ vs v1 (.slice none 0 0) [] ∧ Chg (fun b => b = f ∨ vf.ownBlock = some b) w w' := by
  subst he hy
  have hsz := m.chg.size
  have hfl := h.box.lt
  have hv1 := m.v1f h
  have hvsl : ∀ b, vs.ownBlock = some b → b < w.heap.size := fun b hb => (h.rs.lt b hb).2
  have hvfl : ∀ b, vf.ownBlock = some b → b < w.heap.size := fun b hb => (h.rf.lt b hb).2
  refine ⟨fun b => if b < w.heap.size then L b else if v1.ownBlock = some b then 8 * k + 10 else 0, fun b hb => by simp [hb], fun b hb h0 => ?_, fun b hb => ?_, ?_, ?_⟩
  · have hnb : ¬ b < w.heap.size := by omega
    simp only [hnb, if_false] at h0
    by_cases h1 : v1.ownBlock = some b
    · simpa using (m.row.lt b h1).2
    · simp [h1] at h0
  · have hnb : ¬ b < w.heap.size := by omega
    simp only [hnb, if_false]
    by_cases h1 : v1.ownBlock = some b
    · right; rw [if_pos h1]; omega
    · left; rw [if_neg h1]
  · have hvs : ∀ b, vs.ownBlock = some b → b ≠ f := fun b hb e => by have := h.ls b hb; have := h.lab; rw [e] at *; omega
    refine ⟨by simpa using m.box.set_ 2 (.slice none 0 0), by simp [hfl, h.lab], ?_, fun b hb => ?_, row_far m.row (fun j hj => hv1 j hj) _, fun b hb => ?_, nil_own _ _ _ _, fun b hb => (by cases hb), rfl, fun i c u hi => (by simp at hi)⟩
    · exact row_far (m.keepRow h h.rs h.ls (by omega)) (fun j hj => hvs j hj) _
    · simp only [hvsl b hb, if_true]; exact h.ls b hb
    · rcases m.own with h1 | h1
      · have h2 := h1 ▸ hb
        simp only [hvfl b h2, if_true]; exact h.lf b h2
      · have hnb : ¬ b < w.heap.size := by have := h1 b hb; omega
        simp only [hnb, if_false, hb, if_true]
  · exact m.chg.setCell (.inl (.inl rfl)) _
end

set_option maxRecDepth 100000 in
set_option maxHeartbeats 8000000 in
theorem settleF (L : Nat → Nat) (f k : Nat) (x : Fl) (vs vf vc : Value) (us : List Value) (w : World) (h : FM w L f k x vs vf vc us) (hok : okF x.safe x.chs) (hmx : Short x 140737488355328) (hmc : us.length ≤ 140737488355328) :
    Calls Try.prog 80 #[.pointer (some ⟨f, 0, none⟩)] w fun e w' => e = .returned (.tuple #[]) ∧ ∃ L' v1, (∀ b, b < w.heap.size → L' b = L b) ∧ (∀ b, w.heap.size ≤ b → L' b ≠ 0 → b < w'.heap.size) ∧ (∀ b, w.heap.size ≤ b → L' b = 0 ∨ (8 * k + 8 ≤ L' b ∧ L' b < 8 * k + 16)) ∧
      FM w' L' f k ⟨x.seen, []⟩ vs v1 (.slice none 0 0) [] ∧ Chg (fun b => b = f ∨ vf.ownBlock = some b) w w' := by
  obtain ⟨c0, d0, rfl⟩ := row_slice h.rc
  have hbc := h.box.cell 2
  have hbl := h.box.lt
  have H := Lib.hid (And.intro h (And.intro hok hmx))
  have HST := Lib.hid (Set'.start h)
  obtain ⟨n, hn⟩ : ∃ n, us.length = n := ⟨_, rfl⟩
  have HN := Lib.hid (And.intro hn (show x.chs.length = n by rw [← h.len]; exact hn))
  rw [hn] at hbc hmc
  have ham := meth_app
  have haa := ahead_app
  have hcm := meth_cut
  have hca := ahead_cut
  clear h hok hmx hn
  go_enter Try.func80, Try.ntmps80
  go_wp2
  go_loopw [9] (fun i wr => ∃ (j : Nat) (v1 : Value), j ≤ n ∧ i = .int .i64 j ∧ Set' w wr f vs vf (.slice c0 us.length d0) v1 ((x.chs.take j).foldl fdo x.safe)) (fun i _ => n - (intOf i).toNat)
  case atStart => exact ⟨0, vf, Nat.zero_le _, rfl, by simpa using HST.out⟩
  case round =>
    clear HST hbc
    obtain ⟨j, v1, hj, rfl, hm⟩ := hrel
    by_cases hlt : j < n
    · have hju : j < us.length := by rw [HN.out.1]; exact hlt
      have hjc : j < x.chs.length := by rw [HN.out.2]; exact hlt
      obtain ⟨ad, rfl, hadl, hac⟩ := (row_rd (hm.keepRow H.out.1 H.out.1.rc H.out.1.lc (by omega))).one hju
      have hfv := hm.keepCh H.out.1 (H.out.1.ch j x.chs[j] us[j] (List.getElem?_eq_getElem hjc) (List.getElem?_eq_getElem hju))
      have HT := Lib.hid (take_fold hjc)
      have HSS := Lib.hid (H.out.2.2.step hjc)
      have HOK := Lib.hid (okF_at H.out.2.1 hjc)
      have hj0 : (0 : Int) ≤ j := by omega
      have hj1 : (j : Int) < n := by omega
      generalize (x.chs.take j).foldl fdo x.safe = y at hm HT HSS HOK
      generalize x.chs[j] = c at hfv HT HSS HOK
      generalize us[j] = u at hac hfv
      have hxc := hm.box.cell 1
      have hxl := hm.box.lt
      obtain ⟨b1, c1, rfl⟩ := row_slice hm.row
      have HM := Lib.hid hm
      clear hm hju hjc
      cases c with
      | inl b =>
        obtain ⟨A, cap, rfl, hA, _⟩ := hfv
        have HA := Lib.hid hA
        have HB := Lib.hid (show y.length + b.length ≤ 140737488355328 by have := HSS.out; simpa [fdo] using this)
        clear hA
        go_wp2
        go_region_with (go_at_call 164
                        refine (app_do 0 A b.length cap y.length _ b y _ (by exact HA.out) rfl (by exact HM.out.row) (Nat.zero_le _) HB.out).mono ?_
                        rintro e w1 ⟨v2, rfl, hr, hs⟩
                        obtain ⟨b2, c2, rfl⟩ := row_slice hr
                        have hx := (show Box wr.drew f 94 _ from HM.out.box).chg hs.1 (fun e => HM.out.v1f H.out.1 f e rfl)
                        have hyc := hx.cell 1
                        have hyf := hx.free 1
                        have hyl := hx.lt
                        have H1 := Lib.hid (And.intro hr hs)
                        clear hr hs hx)
        all_goals
          go_wp2
          go_roundw
          case rel => exact ⟨j + 1, _, by omega, by go_num, by rw [HT.out]; exact HM.out.step H.out.1 H1.out.1 (by simp [fdo]) H1.out.2⟩
          case measure => simp [intOf]; omega
      | inr n2 =>
        obtain rfl := hfv
        have HB := Lib.hid (HOK.out n2 rfl)
        go_wp2
        go_region_with (go_at_call 166
                        refine (cut_do 0 n2 y.length _ y _ (by exact HM.out.row) HB.out).mono ?_
                        rintro e w1 ⟨v2, rfl, hr, hs⟩
                        obtain ⟨b2, c2, rfl⟩ := row_slice hr
                        have hx := (show Box wr.drew f 94 _ from HM.out.box).chg hs.1 (fun e => HM.out.v1f H.out.1 f e rfl)
                        have hyc := hx.cell 1
                        have hyf := hx.free 1
                        have hyl := hx.lt
                        have H1 := Lib.hid (And.intro hr hs)
                        clear hr hs hx)
        all_goals
          go_wp2
          go_roundw
          case rel => exact ⟨j + 1, _, by omega, by go_num, by rw [HT.out]; exact HM.out.step H.out.1 H1.out.1 (by have := HB.out; simp [fdo]; omega) H1.out.2⟩
          case measure => simp [intOf]; omega
    · have hjn : j = n := by omega
      subst hjn
      have HE := Lib.hid (show (x.chs.take j).foldl fdo x.safe = x.seen by rw [← HN.out.2, List.take_length]; rfl)
      have hyc := hm.box.cell 2
      have hyf := hm.box.free 2
      have hyl := hm.box.lt
      have HM := Lib.hid hm
      clear hm
      go_wp2
      go_end0
      obtain ⟨L', p1, p2, p3, p4, p5⟩ := HM.out.done H.out.1 rfl HE.out
      exact ⟨rfl, L', v1, p1, fun b hb h0 => by simpa using p2 b hb h0, p3, p4, p5⟩

set_option maxRecDepth 100000 in
set_option maxHeartbeats 8000000 in
/-- The first n changes, done to a row of the caller's own. -/
theorem partF (L : Nat → Nat) (f k n m : Nat) (x : Fl) (vs vf vc v : Value) (us : List Value) (w : World) (h : FM w L f k x vs vf vc us) (hok : okF x.safe x.chs) (hmx : Short x 140737488355328) (hmc : us.length ≤ 140737488355328)
    (hn : n ≤ x.chs.length) (hv : w.ownsRow 0 5 1 v m (bv x.safe)) (hm : m = x.safe.length) (hf : ∀ b, v.ownBlock = some b → L b = 0) :
    Calls Try.prog 84 #[.pointer (some ⟨f, 0, none⟩), v, .int .i64 n] w fun e w' => ∃ v', e = .returned v' ∧ w'.ownsRow 0 5 1 v' ((x.chs.take n).foldl fdo x.safe).length (bv ((x.chs.take n).foldl fdo x.safe)) ∧ RS w w' v v' := by
  obtain ⟨c0, d0, rfl⟩ := row_slice h.rc
  have hbc := h.box.cell 2
  have hbl := h.box.lt
  subst hm
  have hcp := row_cap h.rc
  have H := Lib.hid (And.intro h (And.intro hok hmx))
  have HV := Lib.hid (And.intro hv hf)
  obtain ⟨q, hq⟩ : ∃ q, us.length = q := ⟨_, rfl⟩
  have HN := Lib.hid (And.intro hq (show x.chs.length = q by rw [← h.len]; exact hq))
  rw [show x.chs.length = q by rw [← h.len]; exact hq] at hn
  rw [hq] at hbc hmc hcp
  have hn0 : (0 : Int) ≤ n := by omega
  have hn1 : (n : Int) ≤ d0 := by omega
  obtain ⟨b0, e0, rfl⟩ := row_slice hv
  have ham := meth_app
  have hcm := meth_cut
  clear h hok hmx hq hv hf
  go_enter Try.func84, Try.ntmps84
  go_wp2
  go_loopw [1, 16] (fun z i wr => ∃ (j : Nat), j ≤ n ∧ i = .int .i64 j ∧ wr.ownsRow 0 5 1 z ((x.chs.take j).foldl fdo x.safe).length (bv ((x.chs.take j).foldl fdo x.safe)) ∧ RS w wr (.slice b0 x.safe.length e0) z) (fun _ i _ => n - (intOf i).toNat)
  case atStart => exact ⟨0, Nat.zero_le _, rfl, by simpa using HV.out.1, Chg.refl _ _, .inl rfl⟩
  case round =>
    clear hbc
    obtain ⟨j, hj, rfl, hr, hs⟩ := hrel
    by_cases hlt : j < n
    · have hju : j < us.length := by rw [HN.out.1]; omega
      have hjc : j < x.chs.length := by rw [HN.out.2]; omega
      have hk : ∀ b, b < w.heap.size → 8 * k + 8 ≤ L b → wr.heap[b]? = w.heap[b]? := fun b hb hl => hs.1.block b hb fun e => by have := HV.out.2 b e; omega
      obtain ⟨ad, rfl, hadl, hac⟩ := (row_rd (row_block H.out.1.rc fun b hb => hk b (H.out.1.rc.lt b hb).2 (by rw [H.out.1.lc b hb]; omega))).one hju
      have hfv := (H.out.1.ch j x.chs[j] us[j] (List.getElem?_eq_getElem hjc) (List.getElem?_eq_getElem hju)).keep hs.1.size (fun b hb hl => hk b hb (by omega)) (fun _ _ h => h)
      have HT := Lib.hid (take_fold hjc)
      have HSS := Lib.hid (H.out.2.2.step hjc)
      have HOK := Lib.hid (okF_at H.out.2.1 hjc)
      have hj0 : (0 : Int) ≤ j := by omega
      have hj1 : (j : Int) < n := by omega
      generalize (x.chs.take j).foldl fdo x.safe = y at hr HT HSS HOK
      generalize x.chs[j] = c at hfv HT HSS HOK
      generalize us[j] = u at hac hfv
      obtain ⟨b1, c1, rfl⟩ := row_slice hr
      have HM := Lib.hid (And.intro hr hs)
      have HW := Lib.hid hs.1.size
      clear hr hs hju hjc hk
      cases c with
      | inl b =>
        obtain ⟨A, cap, rfl, hA, _⟩ := hfv
        have HA := Lib.hid hA
        have HB := Lib.hid (show y.length + b.length ≤ 140737488355328 by have := HSS.out; simpa [fdo] using this)
        clear hA
        go_wp2_with (go_at_call 164
                     refine (app_do 0 A b.length cap y.length _ b y _ HA.out rfl HM.out.1 (Nat.zero_le _) HB.out).mono ?_
                     rintro e w1 ⟨v2, rfl, hr, hs⟩
                     have H1 := Lib.hid (And.intro hr hs)
                     clear hr hs)
        go_roundw
        case rel => exact ⟨j + 1, by omega, by go_num, by rw [HT.out]; simpa [fdo] using H1.out.1, HM.out.2.trans' H1.out.2 HW.out⟩
        case measure => simp [intOf]; omega
      | inr n2 =>
        obtain rfl := hfv
        have HB := Lib.hid (HOK.out n2 rfl)
        go_wp2_with (go_at_call 166
                     refine (cut_do 0 n2 y.length _ y _ HM.out.1 HB.out).mono ?_
                     rintro e w1 ⟨v2, rfl, hr, hs⟩
                     have H1 := Lib.hid (And.intro hr hs)
                     clear hr hs)
        go_roundw
        case rel => exact ⟨j + 1, by omega, by go_num, by rw [HT.out]; have h9 := HB.out; simp only [fdo, List.length_take, Nat.min_eq_left h9]; exact H1.out.1, HM.out.2.trans' H1.out.2 HW.out⟩
        case measure => simp [intOf]; omega
    · have hjn : j = n := by omega
      subst hjn
      have HM := Lib.hid (And.intro hr hs)
      clear hr hs
      go_wp2
      go_ret
      exact ⟨_, rfl, HM.out.1, HM.out.2⟩
end Go.Proofs.Ytebeefkibbbkdaa
