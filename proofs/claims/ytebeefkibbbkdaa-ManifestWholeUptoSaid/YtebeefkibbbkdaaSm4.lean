import Derived.Test.YtebeefkibbbkdaaSm3
import Derived.Deep.RegionWith
import Derived.Deep.DeepCutAuto
/- A file in memory; what add does to it. -/
namespace Go.Proofs.Ytebeefkibbbkdaa
open Go.RowKit Go.Maps

theorem info_ch : (Try.prog.info? 154).map (fun i => (i.zero, i.size, i.bytes)) = some (some .nilIface, 1, 16) := by kernel_rfl
/-- A file in memory: its block f, its three rows, the values of its changes; whose each block is, L tells: file k has the labels 8k+8 .. 8k+12. -/
structure FM (w : World) (L : Nat → Nat) (f k : Nat) (x : Fl) (vs vf vc : Value) (us : List Value) : Prop where
  box : Box w f 94 #[vs, vf, vc]
  lab : L f = 8 * k + 8
  rs : w.ownsRow 0 5 1 vs x.seen.length (bv x.seen)
  ls : ∀ b, vs.ownBlock = some b → L b = 8 * k + 9
  rf : w.ownsRow 0 5 1 vf x.safe.length (bv x.safe)
  lf : ∀ b, vf.ownBlock = some b → L b = 8 * k + 10
  rc : w.ownsRow 0 154 1 vc us.length us
  lc : ∀ b, vc.ownBlock = some b → L b = 8 * k + 11
  len : us.length = x.chs.length
  ch : ∀ (i : Nat) (c : FC) (u : Value), x.chs[i]? = some c → us[i]? = some u → FV w (fun b => L b = 8 * k + 12) c u
theorem RS.box {w w' : World} {v v' : Value} (h : RS w w' v v') {f : Nat} {t : TypeId} {cs : Array Value} (hb : Box w f t cs) {L : Nat → Nat} {a b : Nat} (hf : L f = a) (hv : ∀ k, v.ownBlock = some k → L k = b) (hab : a ≠ b) : Box w' f t cs :=
  hb.chg h.1 fun e => hab (hf.symm.trans (hv f e))
theorem RS.row {w w' : World} {v v' r : Value} (h : RS w w' v v') {B size n : Nat} {e : TypeId} {xs : List Value} (hr : w.ownsRow B e size r n xs) {L : Nat → Nat} {a b : Nat} (hf : ∀ k, r.ownBlock = some k → L k = a) (hv : ∀ k, v.ownBlock = some k → L k = b) (hab : a ≠ b) : w'.ownsRow B e size r n xs :=
  row_block hr fun k hk => h.1.block k (hr.lt k hk).2 fun e => hab ((hf k hk).symm.trans (hv k e))
/-- The world behind the first step of add: what is seen is new. -/
structure Mid (w wx : World) (f : Nat) (vs vf vc v1 : Value) (y : List UInt8) : Prop where
  box : Box wx f 94 #[v1, vf, vc]
  row : wx.ownsRow 0 5 1 v1 y.length (bv y)
  chg : Chg (fun k => k = f ∨ vs.ownBlock = some k) w wx
  own : v1.ownBlock = vs.ownBlock ∨ ∀ k, v1.ownBlock = some k → w.heap.size ≤ k
theorem Mid.mk' {w w0 w1 : World} {L : Nat → Nat} {f k n : Nat} {x : Fl} {vs vf vc v1 : Value} {us : List Value} {y : List UInt8} (h : FM w L f k x vs vf vc us) (h0 : Below w.heap.size w w0) (hr : w1.ownsRow 0 5 1 v1 n (bv y)) (hn : n = y.length) (hs : RS w0 w1 vs v1) :
    Mid w (w1.setCell ⟨f, 0, none⟩ v1) f vs vf vc v1 y := by
  subst hn
  have hsz := h0.size
  have hf1 : ∀ k, vs.ownBlock = some k → k ≠ f := fun j hj e => by
    have h1 := h.ls j hj
    have h2 := h.lab
    rw [e] at h1; omega
  have hfl := h.box.lt
  have hb : Box w1 f 94 #[vs, vf, vc] := (h.box.below h0 hfl).chg hs.1 fun e => hf1 f e rfl
  have hv1 : ∀ k, v1.ownBlock = some k → k ≠ f := fun j hj e => by
    rcases hs.2 with h1 | h1
    · exact hf1 j (h1 ▸ hj) e
    · have := h1 j hj; omega
  refine ⟨by simpa using hb.set_ 0 v1, row_far hr (fun j hj => hv1 j hj) _, ?_, ?_⟩
  · refine (((Chg.of_below h0 _).trans (hs.1.mono fun j _ hj => .inr hj))).setCell (.inl (.inl rfl)) _
  · rcases hs.2 with h1 | h1
    · exact .inl h1
    · exact .inr fun j hj => Nat.le_trans hsz (h1 j hj)
/-- The rows that the first step has left. -/
theorem Mid.keepRow {w wx : World} {L : Nat → Nat} {f k : Nat} {x : Fl} {vs vf vc v1 : Value} {us : List Value} {y : List UInt8} (m : Mid w wx f vs vf vc v1 y) (h : FM w L f k x vs vf vc us) {r : Value} {n l : Nat} {e : TypeId} {xs : List Value} (hr : w.ownsRow 0 e 1 r n xs) (hl : ∀ b, r.ownBlock = some b → L b = l) (hne : l ≠ 8 * k + 8 ∧ l ≠ 8 * k + 9) : wx.ownsRow 0 e 1 r n xs :=
  row_block hr fun j hj => m.chg.block j (hr.lt j hj).2 fun hs => by
    rcases hs with rfl | hs
    · have := hl _ hj; have := h.lab; omega
    · have := hl _ hj; have := h.ls _ hs; omega
theorem cell_heap {w w' : World} {p : Addr} (h : w'.heap[p.block]? = w.heap[p.block]?) : w'.cell? p = w.cell? p := by unfold World.cell?; rw [h]
theorem FV.keep {w w' : World} {S S' : Nat → Prop} {c : FC} {u : Value} (h : FV w S c u) (hz : w.heap.size ≤ w'.heap.size) (hk : ∀ b, b < w.heap.size → S b → w'.heap[b]? = w.heap[b]?) (hS : ∀ b, b < w.heap.size → S b → S' b) : FV w' S' c u := by
  cases c with
  | inr n => exact h
  | inl b =>
    obtain ⟨A, cap, rfl, hA, hs, hcp⟩ := h
    by_cases hb : b = []
    · subst hb
      exact ⟨A, cap, rfl, Rd.nil _ _ _, fun _ _ h => absurd rfl h, hcp⟩
    · refine ⟨A, cap, rfl, ?_, fun ad e hne => ?_, hcp⟩
      · intro j u hj
        obtain ⟨ad, rfl, hlt, hc⟩ := hA j u hj
        have hbl := hk _ hlt (hs ad rfl hb)
        refine ⟨ad, rfl, by omega, ?_⟩
        rw [← hc]
        exact cell_heap (by rw [add_block]; exact hbl)
      · subst e
        have : 0 < (bv b).length := by rw [bv_len]; exact List.length_pos_iff.2 hb
        obtain ⟨ad', e, hlt, _⟩ := hA 0 _ (List.getElem?_eq_getElem this)
        cases e
        exact hS _ hlt (hs ad rfl hne)
theorem FM.add {w wx wy : World} {L : Nat → Nat} {f k : Nat} {x : Fl} {vs vf vc v1 v2 : Value} {us : List Value} {c : FC} {u : Value} (h : FM w L f k x vs vf vc us) (hu : FV w (fun b => L b = 8 * k + 12) c u) (m : Mid w wx f vs vf vc v1 (fdo x.seen c))
    (hrow : wy.ownsRow 0 154 1 v2 (us.length + 1) (us ++ [u])) (hc : Chg (fun j => vc.ownBlock = some j) wx wy) (hor : v2.ownBlock = vc.ownBlock ∨ ∀ j, v2.ownBlock = some j → wx.heap.size ≤ j) :
    ∃ L', (∀ b, b < w.heap.size → L' b = L b) ∧ (∀ b, w.heap.size ≤ b → L' b ≠ 0 → b < wy.heap.size) ∧ (∀ b, w.heap.size ≤ b → L' b = 0 ∨ (8 * k + 8 ≤ L' b ∧ L' b < 8 * k + 16)) ∧ FM (wy.setCell ⟨f, 2, none⟩ v2) L' f k ⟨x.safe, x.chs ++ [c]⟩ v1 vf v2 (us ++ [u]) ∧ Chg (fun b => b = f ∨ vs.ownBlock = some b ∨ vc.ownBlock = some b) w (wy.setCell ⟨f, 2, none⟩ v2) := by
  have hsx := m.chg.size
  have hsy := hc.size
  have hfl := h.box.lt
  have hlab := h.lab
  have hv1lt : ∀ b, v1.ownBlock = some b → b < wx.heap.size := fun b hb => (m.row.lt b hb).2
  have hv2lt : ∀ b, v2.ownBlock = some b → b < wy.heap.size := fun b hb => (hrow.lt b hb).2
  have hvsl : ∀ b, vs.ownBlock = some b → b < w.heap.size := fun b hb => (h.rs.lt b hb).2
  have hvcl : ∀ b, vc.ownBlock = some b → b < w.heap.size := fun b hb => (h.rc.lt b hb).2
  have hsafe : (Fl.mk x.safe (x.chs ++ [c])).seen = fdo x.seen c := by simp [Fl.seen, List.foldl_append]
  refine ⟨fun b => if b < w.heap.size then L b else if v1.ownBlock = some b then 8 * k + 9 else if v2.ownBlock = some b then 8 * k + 11 else 0, fun b hb => by simp [hb], fun b hb h0 => ?_, fun b hb => ?_, ?_, ?_⟩
  · have hnb : ¬ b < w.heap.size := by omega
    simp only [hnb, if_false] at h0
    by_cases h1 : v1.ownBlock = some b
    · have := hv1lt b h1; omega
    · by_cases h2 : v2.ownBlock = some b
      · exact hv2lt b h2
      · simp [h1, h2] at h0
  · have hnb : ¬ b < w.heap.size := by omega
    simp only [hnb, if_false]
    by_cases h1 : v1.ownBlock = some b
    · right; rw [if_pos h1]; omega
    · by_cases h2 : v2.ownBlock = some b
      · right; rw [if_neg h1, if_pos h2]; omega
      · left; rw [if_neg h1, if_neg h2]
  · have hx1 : Box wy f 94 #[v1, vf, vc] := m.box.chg hc fun e => by have := h.lc _ e; omega
    have hv1f : ∀ b, v1.ownBlock = some b → b ≠ f := fun b hb e => by
      rcases m.own with h1 | h1
      · have := h.ls b (h1 ▸ hb); rw [e] at this; omega
      · have := h1 b hb; omega
    have hv2f : ∀ b, v2.ownBlock = some b → b ≠ f := fun b hb e => by
      rcases hor with h1 | h1
      · have := h.lc b (h1 ▸ hb); rw [e] at this; omega
      · have := h1 b hb; omega
    have hvff : ∀ b, vf.ownBlock = some b → b ≠ f := fun b hb e => by have := h.lf b hb; rw [e] at this; omega
    refine ⟨by simpa using hx1.set_ 2 v2, by simp [hfl, hlab], ?_, fun b hb => ?_, ?_, fun b hb => ?_, ?_, fun b hb => ?_, by simp [h.len], ?_⟩
    · rw [hsafe]
      refine row_far ?_ (fun b hb => hv1f b hb) _
      refine row_block m.row fun b hb => hc.block b (hv1lt b hb) fun e => ?_
      have h3 := h.lc b e
      rcases m.own with h1 | h1
      · have := h.ls b (h1 ▸ hb); omega
      · have := h1 b hb; have := hvcl b e; omega
    · rcases m.own with h1 | h1
      · have h2 := h1 ▸ hb
        simp only [hvsl b h2, if_true]
        exact h.ls b h2
      · have hnb : ¬ b < w.heap.size := by have := h1 b hb; omega
        simp only [hnb, if_false, hb, if_true]
    · refine row_far ?_ (fun b hb => hvff b hb) _
      refine row_block (m.keepRow h h.rf h.lf (by omega)) fun b hb => hc.block b ?_ fun e => ?_
      · have := (h.rf.lt b hb).2; omega
      · have := h.lf b hb; have := h.lc b e; omega
    · have := (h.rf.lt b hb).2
      simp only [this, if_true]
      exact h.lf b hb
    · rw [List.length_append]
      exact row_far hrow (fun b hb => hv2f b hb) _
    · rcases hor with h1 | h1
      · have h2 := h1 ▸ hb
        simp only [hvcl b h2, if_true]
        exact h.lc b h2
      · have h2 := h1 b hb
        have hnb : ¬ b < w.heap.size := by omega
        have hn1 : ¬ v1.ownBlock = some b := fun e => by have := hv1lt b e; omega
        simp only [hnb, if_false, hn1, hb, if_true]
    · intro i c' u' hi hu'
      have kp : FV w (fun b => L b = 8 * k + 12) c' u' := by
        rcases Nat.lt_or_ge i x.chs.length with hlt | hge
        · rw [List.getElem?_append_left hlt] at hi
          rw [List.getElem?_append_left (by rw [h.len]; exact hlt)] at hu'
          exact h.ch i c' u' hi hu'
        · rw [List.getElem?_append_right hge] at hi
          rw [List.getElem?_append_right (by rw [h.len]; exact hge), h.len] at hu'
          have hz : i - x.chs.length = 0 := by
            have := (List.getElem?_eq_some_iff.1 hi).1
            simp at this; omega
          rw [hz] at hi hu'
          simp at hi hu'
          subst hi hu'
          exact hu
      refine kp.keep (by simp; omega) (fun b hb hl => ?_) (fun b hb hl => by simp only [hb, if_true]; exact hl)
      have e1 : wx.heap[b]? = w.heap[b]? := m.chg.block b hb fun hs => by
        rcases hs with rfl | hs
        · omega
        · have := h.ls b hs; omega
      have e2 : wy.heap[b]? = wx.heap[b]? := hc.block b (by omega) fun hs => by have := h.lc b hs; omega
      have e3 : (wy.setCell ⟨f, 2, none⟩ v2).heap[b]? = wy.heap[b]? := Below.heap_setCell _ _ _ _ (by show b ≠ f; rintro rfl; omega)
      rw [e3, e2, e1]
  · refine Chg.setCell ?_ (.inl (.inl rfl)) _
    exact (m.chg.mono fun j _ hj => by rcases hj with h1 | h1; exact .inl h1; exact .inr (.inl h1)).trans (hc.mono fun j _ hj => .inr (.inr hj))

set_option maxRecDepth 100000 in
set_option maxHeartbeats 4000000 in
theorem addF_app (L : Nat → Nat) (f k : Nat) (x : Fl) (vs vf vc : Value) (us : List Value) (A : Option Addr) (n cap : Nat) (b : List UInt8) (w : World) (h : FM w L f k x vs vf vc us) (hA : Rd w w.heap.size A (bv b)) (hn : b.length = n) (hS : ∀ ad, A = some ad → b ≠ [] → L ad.block = 8 * k + 12) (hcap : n ≤ cap) (hmx : x.seen.length + n ≤ 140737488355328)
    (hmc : (us.length + 1) * 16 ≤ 140737488355328) :
    Calls Try.prog 79 #[.pointer (some ⟨f, 0, none⟩), .iface 142 (.agg #[.slice A n cap])] w fun e w' => e = .returned (.tuple #[]) ∧ ∃ L' v1 v2, (∀ b, b < w.heap.size → L' b = L b) ∧ (∀ b, w.heap.size ≤ b → L' b ≠ 0 → b < w'.heap.size) ∧ (∀ b, w.heap.size ≤ b → L' b = 0 ∨ (8 * k + 8 ≤ L' b ∧ L' b < 8 * k + 16)) ∧
      FM w' L' f k ⟨x.safe, x.chs ++ [.inl b]⟩ v1 vf v2 (us ++ [.iface 142 (.agg #[.slice A n cap])]) ∧ Chg (fun b => b = f ∨ vs.ownBlock = some b ∨ vc.ownBlock = some b) w w' := by
  obtain ⟨i1, hi1, hz1, hs1, hy1⟩ := info_parts info_ch
  have hbc := h.box.cell 0
  have hbl := h.box.lt
  have hm1 := meth_app
  have hm2 := ahead_app
  have HU := Lib.hid (And.intro hn (And.intro hA (show FV w (fun b => L b = 8 * k + 12) (.inl b) (.iface 142 (.agg #[.slice A n cap])) from ⟨A, cap, by rw [hn], hA, hS, by rw [hn]; exact hcap⟩)))
  have H := Lib.hid h
  obtain ⟨c0, d0, rfl⟩ := row_slice h.rc
  clear h hA hn hS
  go_enter Try.func79, Try.ntmps79
  go_upto_region 0 with fail
  go_cut [] (fun wx => ∃ v1, Mid w wx f vs vf (.slice c0 us.length d0) v1 (fdo x.seen (.inl b)))
  case first =>
    go_region_with (go_at_call 164
                    refine (app_do 0 A n cap _ vs b x.seen _ (by exact HU.out.2.1) HU.out.1 (by exact H.out.rs) (Nat.zero_le _) hmx).mono ?_
                    rintro e w1 ⟨v1, rfl, hr, hs⟩
                    obtain ⟨b1, c1, rfl⟩ := row_slice hr
                    have hx := hs.box (by exact H.out.box) H.out.lab H.out.ls (by omega)
                    have hxc := hx.cell 0
                    have hxf := hx.free 0
                    have hxl := hx.lt
                    have H1 := Lib.hid (And.intro hr (And.intro hs hx))
                    clear hr hs hx)
    all_goals
      go_wp2_with fail
      go_meet
      case rel => exact ⟨_, Mid.mk' H.out (below_drew (Below.refl _ _)) H1.out.1 (by simp [fdo, HU.out.1]) H1.out.2.1⟩
  case rest =>
    clear hbc
    obtain ⟨v1, hm⟩ := hcut
    have hxc := hm.box.cell 2
    have hxf := hm.box.free 2
    have hxl := hm.box.lt
    have hrc := hm.keepRow H.out H.out.rc H.out.lc (by omega)
    have hls := H.out.lc
    have HM := Lib.hid (And.intro hm (And.intro hrc (And.intro hls hxl)))
    clear hm hrc hls
    go_wp2_with (at_builtin
                 refine wpList_app _ rfl (.tmp 20) (.tmp 22) _ rfl 0 154 i1 _ 1 16 Try.underlying90 hi1 hz1 hs1 hy1 rfl (by omega) (.slice c0 us.length d0) us.length us rfl (HM.out.2.1.alloc _) _ _ 1 1 [.iface 142 (.agg #[.slice A n cap])] rfl rfl (rd_new _ _ _) (by simp [Value.oneCell']) (by unfold maxLen; omega) (by omega) (Nat.zero_le _) ?_
                 intro v2 w2 hown2 hg2 hor
                 obtain ⟨b2, c2, rfl⟩ := row_slice hown2
                 have hC : Chg (fun j => (Value.slice c0 us.length d0).ownBlock = some j) wc w2 := ((Chg.refl _ wc).alloc _).grown hg2 fun j hj => .inl hj
                 have hx2 := HM.out.1.box.chg hC (fun e => by have h1 := HM.out.2.2.1 _ e; have h2 := H.out.lab; omega)
                 have hyc := hx2.cell 2
                 have hyf := hx2.free 2
                 have hyl := hx2.lt
                 have HO := Lib.hid (And.intro hown2 (And.intro hC hor))
                 clear hown2 hg2 hor hC hx2)
    go_end0
    refine ⟨rfl, ?_⟩
    obtain ⟨L', p1, p2, p3, p4, p5⟩ := FM.add H.out HU.out.2.2 HM.out.1 HO.out.1 HO.out.2.1 (by
      rcases HO.out.2.2 with h1 | h1
      · exact .inl h1
      · refine .inr fun j hj => ?_
        rw [h1] at hj
        injection hj with hj
        simp at hj
        omega)
    exact ⟨L', v1, _, p1, fun b hb h0 => by simpa using p2 b hb h0, p3, p4, p5⟩

set_option maxRecDepth 100000 in
set_option maxHeartbeats 4000000 in
theorem addF_cut (L : Nat → Nat) (f k : Nat) (x : Fl) (vs vf vc : Value) (us : List Value) (n : Nat) (w : World) (h : FM w L f k x vs vf vc us) (hn : n ≤ x.seen.length)
    (hmc : (us.length + 1) * 16 ≤ 140737488355328) :
    Calls Try.prog 79 #[.pointer (some ⟨f, 0, none⟩), .iface 193 (.agg #[.int .i64 n])] w fun e w' => e = .returned (.tuple #[]) ∧ ∃ L' v1 v2, (∀ b, b < w.heap.size → L' b = L b) ∧ (∀ b, w.heap.size ≤ b → L' b ≠ 0 → b < w'.heap.size) ∧ (∀ b, w.heap.size ≤ b → L' b = 0 ∨ (8 * k + 8 ≤ L' b ∧ L' b < 8 * k + 16)) ∧
      FM w' L' f k ⟨x.safe, x.chs ++ [.inr n]⟩ v1 vf v2 (us ++ [.iface 193 (.agg #[.int .i64 n])]) ∧ Chg (fun b => b = f ∨ vs.ownBlock = some b ∨ vc.ownBlock = some b) w w' := by
  obtain ⟨i1, hi1, hz1, hs1, hy1⟩ := info_parts info_ch
  have hbc := h.box.cell 0
  have hbl := h.box.lt
  have hm1 := meth_cut
  have hm2 := ahead_cut
  have HU := Lib.hid (And.intro hn (show FV w (fun b => L b = 8 * k + 12) (.inr n) (.iface 193 (.agg #[.int .i64 n])) from rfl))
  have H := Lib.hid h
  obtain ⟨c0, d0, rfl⟩ := row_slice h.rc
  clear h hn
  go_enter Try.func79, Try.ntmps79
  go_upto_region 0 with fail
  go_cut [] (fun wx => ∃ v1, Mid w wx f vs vf (.slice c0 us.length d0) v1 (fdo x.seen (.inr n)))
  case first =>
    go_region_with (go_at_call 166
                    refine (cut_do 0 n _ vs x.seen _ (by exact H.out.rs) HU.out.1).mono ?_
                    rintro e w1 ⟨v1, rfl, hr, hs⟩
                    obtain ⟨b1, c1, rfl⟩ := row_slice hr
                    have hx := hs.box (by exact H.out.box) H.out.lab H.out.ls (by omega)
                    have hxc := hx.cell 0
                    have hxf := hx.free 0
                    have hxl := hx.lt
                    have H1 := Lib.hid (And.intro hr (And.intro hs hx))
                    clear hr hs hx)
    all_goals
      go_wp2_with fail
      go_meet
      case rel => exact ⟨_, Mid.mk' H.out (below_drew (Below.refl _ _)) H1.out.1 (by have := HU.out.1; simp [fdo]; omega) H1.out.2.1⟩
  case rest =>
    clear hbc
    obtain ⟨v1, hm⟩ := hcut
    have hxc := hm.box.cell 2
    have hxf := hm.box.free 2
    have hxl := hm.box.lt
    have hrc := hm.keepRow H.out H.out.rc H.out.lc (by omega)
    have hls := H.out.lc
    have HM := Lib.hid (And.intro hm (And.intro hrc (And.intro hls hxl)))
    clear hm hrc hls
    go_wp2_with (at_builtin
                 refine wpList_app _ rfl (.tmp 20) (.tmp 22) _ rfl 0 154 i1 _ 1 16 Try.underlying90 hi1 hz1 hs1 hy1 rfl (by omega) (.slice c0 us.length d0) us.length us rfl (HM.out.2.1.alloc _) _ _ 1 1 [.iface 193 (.agg #[.int .i64 n])] rfl rfl (rd_new _ _ _) (by simp [Value.oneCell']) (by unfold maxLen; omega) (by omega) (Nat.zero_le _) ?_
                 intro v2 w2 hown2 hg2 hor
                 obtain ⟨b2, c2, rfl⟩ := row_slice hown2
                 have hC : Chg (fun j => (Value.slice c0 us.length d0).ownBlock = some j) wc w2 := ((Chg.refl _ wc).alloc _).grown hg2 fun j hj => .inl hj
                 have hx2 := HM.out.1.box.chg hC (fun e => by have h1 := HM.out.2.2.1 _ e; have h2 := H.out.lab; omega)
                 have hyc := hx2.cell 2
                 have hyf := hx2.free 2
                 have hyl := hx2.lt
                 have HO := Lib.hid (And.intro hown2 (And.intro hC hor))
                 clear hown2 hg2 hor hC hx2)
    go_end0
    refine ⟨rfl, ?_⟩
    obtain ⟨L', p1, p2, p3, p4, p5⟩ := FM.add H.out HU.out.2 HM.out.1 HO.out.1 HO.out.2.1 (by
      rcases HO.out.2.2 with h1 | h1
      · exact .inl h1
      · refine .inr fun j hj => ?_
        rw [h1] at hj
        injection hj with hj
        simp at hj
        omega)
    exact ⟨L', v1, _, p1, fun b hb h0 => by simpa using p2 b hb h0, p3, p4, p5⟩
end Go.Proofs.Ytebeefkibbbkdaa
