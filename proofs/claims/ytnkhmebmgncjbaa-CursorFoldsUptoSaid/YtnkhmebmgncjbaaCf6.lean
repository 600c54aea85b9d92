import Derived.Test.YtnkhmebmgncjbaaCf5
namespace Go.Proofs.Ytnkhmebmgncjbaa
open Go.RowKit Go.Maps

/-- A row of m cells an item, of the call's own: its block lies from lo on, below hi. -/
structure GR {α : Type} (T : TypeId) (m : Nat) (f : α → List Value) (lo hi : Nat) (W : World) (b : Option Addr) (n cap : Nat) (ps : List α) : Prop where
  own : W.ownsRow lo T m (.slice b n cap) n (ps.flatMap f)
  top : ∀ k, (Value.slice b n cap).ownBlock = some k → k < hi
  len : ps.length = n
section
variable {α : Type} {T : TypeId} {m : Nat} {f : α → List Value} {lo hi n cap : Nat} {W W' : World} {b : Option Addr} {ps : List α}
theorem GR.mk' (h : W.ownsRow lo T m (.slice b n cap) n (ps.flatMap f)) (hl : ps.length = n) : GR T m f lo W.heap.size W b n cap ps := ⟨h, fun k hk => (h.lt k hk).2, hl⟩
theorem GR.bot (h : GR T m f lo hi W b n cap ps) : ∀ k, (Value.slice b n cap).ownBlock = some k → lo ≤ k := fun k hk => (h.own.lt k hk).1
theorem GR.rd (h : GR T m f lo hi W b n cap ps) : Rd W W.heap.size b (ps.flatMap f) := ownsRow_rd h.own
theorem GR.next (h : GR T m f lo hi W b n cap ps) (hb : Below W.heap.size W W') : GR T m f lo hi W' b n cap ps :=
  ⟨ownsRow_block h.own fun k hk => hb.block k (h.own.lt k hk).2, h.top, h.len⟩
theorem GR.chg {S : Nat → Prop} (h : GR T m f lo hi W b n cap ps) (hc : Chg S W W') (hS : ∀ k, lo ≤ k → k < hi → ¬ S k) : GR T m f lo hi W' b n cap ps :=
  ⟨ownsRow_block h.own fun k hk => hc.block k (h.own.lt k hk).2 (hS k (h.bot k hk) (h.top k hk)), h.top, h.len⟩
theorem GR.own_ (h : GR T m f lo hi W b n cap ps) (hn : 0 < n) : ∃ g, b = some ⟨g, 0, none⟩ ∧ n ≤ cap ∧ cap ≤ maxLen ∧ Own W lo g T (ps.flatMap f) ∧ lo ≤ g ∧ g < hi := by
  obtain ⟨g, cap', hv, h1, h2, h3⟩ := Own.of_row h.own hn
  injection hv with e1 _ e2
  subst e1 e2
  exact ⟨g, rfl, h1, h2, h3, h.bot g rfl, h.top g rfl⟩
end
theorem Below.next {w W W' : World} (h : Below w.heap.size w W) (hb : Below W.heap.size W W') : Below w.heap.size w W' := h.trans (hb.mono h.size)
theorem Chg.of_grown {w w' : World} {row : Option Nat} (h : w.grownBy w' row) : Chg (fun k => some k = row) w w' := ⟨h.os, h.tape, h.output, h.size, fun k hk hn => h.block k hk hn⟩
theorem Chg.weak {S S' : Nat → Prop} {a b c : World} (h : Chg S a b) (k : Chg S' b c) (hs : ∀ i, i < a.heap.size → S' i → S i) : Chg S a c :=
  ⟨k.os.trans h.os, k.tape.trans h.tape, k.output.trans h.output, Nat.le_trans h.size k.size, fun i hi hn => (k.block i (Nat.lt_of_lt_of_le hi h.size) fun x => hn (hs i hi x)).trans (h.block i hi hn)⟩
theorem Own.get {w : World} {B g : Nat} {t : TypeId} {cs : List Value} (h : Own w B g t cs) {i : Nat} {u : Value} (hi : cs[i]? = some u) : w.cell? ⟨g, i, none⟩ = some u := by
  obtain ⟨h1, h2⟩ := List.getElem?_eq_some_iff.1 hi
  rw [h.cell h1, h2]
theorem ownsRow_cap {w : World} {base : Nat} {e : TypeId} {size n cap : Nat} {b : Option Addr} {xs : List Value} (h : w.ownsRow base e size (.slice b n cap) n xs) : n ≤ cap := by
  rcases h.2 with ⟨hv, h0⟩ | ⟨g, c', cur, hv, _, _, hnc, _⟩
  · omega
  · injection hv with _ _ e2
    omega
theorem Rd.part_ {α : Type} {f : α → List Value} {w : World} {B : Nat} {A : Option Addr} {l : List α} (h : Rd w B A (l.flatMap f)) (r : Nat) : Rd w B A ((l.take r).flatMap f) := by
  intro j u hu
  refine h j u ?_
  have e : l.flatMap f = (l.take r).flatMap f ++ (l.drop r).flatMap f := by rw [← List.flatMap_append, List.take_append_drop]
  rw [e, List.getElem?_append_left (List.getElem?_eq_some_iff.1 hu).1]
  exact hu
theorem one_p4s (l : List PA) : ∀ u ∈ l.flatMap p4, u.oneCell' = true := by
  intro u hu
  obtain ⟨p, _, hp⟩ := List.mem_flatMap.1 hu
  exact one_p4 p u hp
theorem one_r7s (l : List RC) : ∀ u ∈ l.flatMap r7, u.oneCell' = true := by
  intro u hu
  obtain ⟨p, _, hp⟩ := List.mem_flatMap.1 hu
  simp [r7] at hp
  rcases hp with rfl | rfl | rfl | rfl | rfl | rfl | rfl <;> rfl
theorem flat_set_pset (l : List PA) (i : Nat) (hi : i < l.length) (p : PA) :
    (l.set i p).flatMap p4 = ((((l.flatMap p4).set (i * 4) (.string p.key)).set (i * 4 + 1) (.string p.val)).set (i * 4 + 2) (.int .i64 p.off)).set (i * 4 + 3) (.int .i64 p.time) := by
  induction l generalizing i with
  | nil => simp at hi
  | cons q l ih =>
    cases i with
    | zero => simp [p4]
    | succ i =>
      have e : (i + 1) * 4 = i * 4 + 4 := by omega
      have hl : (p4 q).length = 4 := rfl
      simp only [List.set_cons_succ, List.flatMap_cons, ih i (by simpa using hi), e]
      rw [List.set_append_right _ _ (by omega), List.set_append_right _ _ (by omega), List.set_append_right _ _ (by omega), List.set_append_right _ _ (by omega), hl,
        show i * 4 + 4 - 4 = i * 4 by omega, show i * 4 + 4 + 1 - 4 = i * 4 + 1 by omega, show i * 4 + 4 + 2 - 4 = i * 4 + 2 by omega, show i * 4 + 4 + 3 - 4 = i * 4 + 3 by omega]
theorem pset_set {lo hi n cap g : Nat} {W : World} {ps : List PA} (h : GR 29 4 p4 lo hi W (some ⟨g, 0, none⟩) n cap ps) {i : Nat} (hi' : i < n) (p : PA) :
    GR 29 4 p4 lo hi ((((W.setCell ⟨g, i * 4, none⟩ (.string p.key)).setCell ⟨g, i * 4 + 1, none⟩ (.string p.val)).setCell ⟨g, i * 4 + 2, none⟩ (.int .i64 p.off)).setCell ⟨g, i * 4 + 3, none⟩ (.int .i64 p.time)) (some ⟨g, 0, none⟩) n cap (ps.set i p) := by
  have hel := h.len
  have hl := p4_len ps
  refine ⟨⟨by rw [p4_len]; simp [hel], .inr ?_⟩, h.top, by simp [hel]⟩
  rcases h.own.2 with ⟨hv, _⟩ | ⟨g', c, cur, hv, hg, hh, hnc, hcm, hsz, htk⟩
  · cases hv
  · injection hv with e1 _ e2
    injection e1 with e1
    injection e1 with e1
    subst e1 e2
    refine ⟨g, cap, (((cur.setIfInBounds (i * 4) (.string p.key)).setIfInBounds (i * 4 + 1) (.string p.val)).setIfInBounds (i * 4 + 2) (.int .i64 p.off)).setIfInBounds (i * 4 + 3) (.int .i64 p.time), rfl, hg, ?_, hnc, hcm, by simpa using hsz, ?_⟩
    · simp [World.setCell, Array.getElem?_modify, hh]
    · rw [flat_set_pset ps i (by omega)]
      simp only [Array.toList_setIfInBounds, List.take_set, htk]
theorem flat_set_rset (l : List RC) (i : Nat) (hi : i < l.length) (p : RC) :
    (l.set i p).flatMap r7 = (((((((l.flatMap r7).set (i * 7) (.int .i64 p.kind)).set (i * 7 + 1) (.int .i64 p.off)).set (i * 7 + 2) (.int .i64 p.time)).set (i * 7 + 3) (.int .i64 p.pid)).set (i * 7 + 4) (.int .i64 p.sq)).set (i * 7 + 5) (.string p.key)).set (i * 7 + 6) (.string p.val) := by
  induction l generalizing i with
  | nil => simp at hi
  | cons q l ih =>
    cases i with
    | zero => simp [r7]
    | succ i =>
      have e : (i + 1) * 7 = i * 7 + 7 := by omega
      have hl : (r7 q).length = 7 := rfl
      simp only [List.set_cons_succ, List.flatMap_cons, ih i (by simpa using hi), e]
      rw [List.set_append_right _ _ (by omega), List.set_append_right _ _ (by omega), List.set_append_right _ _ (by omega), List.set_append_right _ _ (by omega), List.set_append_right _ _ (by omega), List.set_append_right _ _ (by omega), List.set_append_right _ _ (by omega), hl,
        show i * 7 + 7 - 7 = i * 7 by omega, show i * 7 + 7 + 1 - 7 = i * 7 + 1 by omega, show i * 7 + 7 + 2 - 7 = i * 7 + 2 by omega, show i * 7 + 7 + 3 - 7 = i * 7 + 3 by omega, show i * 7 + 7 + 4 - 7 = i * 7 + 4 by omega, show i * 7 + 7 + 5 - 7 = i * 7 + 5 by omega, show i * 7 + 7 + 6 - 7 = i * 7 + 6 by omega]
theorem rset_set {lo hi n cap g : Nat} {W : World} {ps : List RC} (h : GR 31 7 r7 lo hi W (some ⟨g, 0, none⟩) n cap ps) {i : Nat} (hi' : i < n) (p : RC) :
    GR 31 7 r7 lo hi (((((((W.setCell ⟨g, i * 7, none⟩ (.int .i64 p.kind)).setCell ⟨g, i * 7 + 1, none⟩ (.int .i64 p.off)).setCell ⟨g, i * 7 + 2, none⟩ (.int .i64 p.time)).setCell ⟨g, i * 7 + 3, none⟩ (.int .i64 p.pid)).setCell ⟨g, i * 7 + 4, none⟩ (.int .i64 p.sq)).setCell ⟨g, i * 7 + 5, none⟩ (.string p.key)).setCell ⟨g, i * 7 + 6, none⟩ (.string p.val)) (some ⟨g, 0, none⟩) n cap (ps.set i p) := by
  have hel := h.len
  have hl := r7_len ps
  refine ⟨⟨by rw [r7_len]; simp [hel], .inr ?_⟩, h.top, by simp [hel]⟩
  rcases h.own.2 with ⟨hv, _⟩ | ⟨g', c, cur, hv, hg, hh, hnc, hcm, hsz, htk⟩
  · cases hv
  · injection hv with e1 _ e2
    injection e1 with e1
    injection e1 with e1
    subst e1 e2
    refine ⟨g, cap, ((((((cur.setIfInBounds (i * 7) (.int .i64 p.kind)).setIfInBounds (i * 7 + 1) (.int .i64 p.off)).setIfInBounds (i * 7 + 2) (.int .i64 p.time)).setIfInBounds (i * 7 + 3) (.int .i64 p.pid)).setIfInBounds (i * 7 + 4) (.int .i64 p.sq)).setIfInBounds (i * 7 + 5) (.string p.key)).setIfInBounds (i * 7 + 6) (.string p.val), rfl, hg, ?_, hnc, hcm, by simpa using hsz, ?_⟩
    · simp [World.setCell, Array.getElem?_modify, hh]
    · rw [flat_set_rset ps i (by omega)]
      simp only [Array.toList_setIfInBounds, List.take_set, htk]
set_option maxRecDepth 100000 in
set_option maxHeartbeats 4000000 in
theorem samePairs_eq (A A' : Option Addr) (c c' n : Nat) (l : List PA) (w : World) (hn : l.length = n) (hA : Rd w w.heap.size A (l.flatMap p4)) (hA' : Rd w w.heap.size A' (l.flatMap p4)) (hmx : n ≤ 1000000000) :
    Calls Try.prog 6 #[.slice A n c, .slice A' n c'] w fun e w' => e = .returned (.bool true) ∧ Below w.heap.size w w' := by
  go_enter Try.func6, Try.ntmps6
  go_wp2
  go_loopw [5] (fun i wr => ∃ (k : Nat), k ≤ n ∧ i = .int .i64 k ∧ Below w.heap.size w wr) (fun i _ => n - (intOf i).toNat)
  case atStart => exact ⟨0, Nat.zero_le _, rfl, Below.refl _ _⟩
  case round =>
    obtain ⟨k, hk, rfl, hb⟩ := hrel
    by_cases hlt : k < n
    · have hk0 : (0 : Int) ≤ k := by omega
      have hk1 : (k : Int) < n := by omega
      have hkl : k < l.length := by omega
      obtain ⟨ad, rfl, had, p0, p1, p2, p3⟩ := (hA.below hb).p4_ hkl
      obtain ⟨ad', rfl, had', q0, q1, q2, q3⟩ := (hA'.below hb).p4_ hkl
      have H := Lib.hid hb
      clear hb
      generalize l[k] = p at p0 p1 p2 p3 q0 q1 q2 q3
      go_wp2
      go_quiet (fail)
      go_wp2
      go_roundw
      case rel => exact ⟨k + 1, by omega, by go_num, below_drewN H.out _⟩
      case measure => simp [intOf]; omega
    · go_wp2
      go_ret
      exact ⟨rfl, hb⟩
set_option maxRecDepth 100000 in
set_option maxHeartbeats 4000000 in
theorem sameRecords_eq (A A' : Option Addr) (c c' n : Nat) (l : List RC) (w : World) (hn : l.length = n) (hA : Rd w w.heap.size A (l.flatMap r7)) (hA' : Rd w w.heap.size A' (l.flatMap r7)) (hmx : n ≤ 1000000000) :
    Calls Try.prog 7 #[.slice A n c, .slice A' n c'] w fun e w' => e = .returned (.bool true) ∧ Below w.heap.size w w' := by
  go_enter Try.func7, Try.ntmps7
  go_wp2
  go_loopw [5] (fun i wr => ∃ (k : Nat), k ≤ n ∧ i = .int .i64 k ∧ Below w.heap.size w wr) (fun i _ => n - (intOf i).toNat)
  case atStart => exact ⟨0, Nat.zero_le _, rfl, Below.refl _ _⟩
  case round =>
    obtain ⟨k, hk, rfl, hb⟩ := hrel
    by_cases hlt : k < n
    · have hk0 : (0 : Int) ≤ k := by omega
      have hk1 : (k : Int) < n := by omega
      have hkl : k < l.length := by omega
      obtain ⟨ad, rfl, had, p0, p1, p2, p3, p4', p5, p6⟩ := (hA.below hb).r7_ hkl
      obtain ⟨ad', rfl, had', q0, q1, q2, q3, q4, q5, q6⟩ := (hA'.below hb).r7_ hkl
      have H := Lib.hid hb
      clear hb
      generalize l[k] = p at p0 p1 p2 p3 p4' p5 p6 q0 q1 q2 q3 q4 q5 q6
      go_wp2
      go_quiet (fail)
      go_wp2
      go_roundw
      case rel => exact ⟨k + 1, by omega, by go_num, below_drewN H.out _⟩
      case measure => simp [intOf]; omega
    · go_wp2
      go_ret
      exact ⟨rfl, hb⟩

set_option maxRecDepth 100000 in
set_option maxHeartbeats 4000000 in
theorem spoiled_any (lo hi n cap : Nat) (b : Option Addr) (es : List PA) (w : World) (hE : GR 29 4 p4 lo hi w b n cap es) (hn : n ≤ 1000000000) (hlo : lo ≤ w.heap.size) :
    Calls Try.prog 8 #[.slice b n cap] w fun e w' => e = .returned (.bool true) ∧ Chg (fun k => lo ≤ k ∧ k < hi ∧ k < w.heap.size) w w' := by
  obtain ⟨i1, hi1, hz1, hs1, hy1⟩ := info_parts info_pa
  have HE0 := Lib.hid hE
  have Hown := Lib.hid (fun k hk => (hE.own.lt k hk).2)
  clear hE
  go_enter Try.func8, Try.ntmps8
  go_wp2
  go_loopw [3] (fun i wr => ∃ (k : Nat) (es' : List PA), k ≤ n ∧ i = .int .i64 k ∧ GR 29 4 p4 lo hi wr b n cap es' ∧ Chg (fun k => lo ≤ k ∧ k < hi ∧ k < w.heap.size) w wr)
    (fun i _ => n - (intOf i).toNat)
  case atStart => exact ⟨0, es, Nat.zero_le _, rfl, HE0.out, Chg.refl _ _⟩
  case round =>
    obtain ⟨k, es', hk, rfl, hE, hC⟩ := hrel
    by_cases hlt : k < n
    · obtain ⟨g, rfl, hnc, hcm, hO, hg1, hg2⟩ := hE.own_ (by omega)
      have hgw := Hown.out g rfl
      have hgl := hO.lt
      have hkl : k < es'.length := by rw [hE.len]; exact hlt
      have hfk := hO.free
      have hck : ∀ i v, i < 4 → (p4 es'[k])[i]? = some v → wr.cell? ⟨g, k * 4 + i, none⟩ = some v := fun i v hi hv => hO.get ((flat_get p4 4 (fun _ => rfl) es' k i hkl hi).trans hv)
      generalize es'[k] = p at hck
      have q0 := hck 0 _ (by omega) rfl
      have q1 := hck 1 _ (by omega) rfl
      have q2 := hck 2 _ (by omega) rfl
      have q3 := hck 3 _ (by omega) rfl
      rw [Nat.add_zero] at q0
      have hk0 : (0 : Int) ≤ k := by omega
      have hk1 : (k : Int) < n := by omega
      have HH := Lib.hid (And.intro hE hC)
      have Hg := Lib.hid hg2
      clear hE hC hO hck
      go_wp2
      go_roundw
      case rel =>
        refine ⟨k + 1, es'.set k ⟨{ data := #[103, 111, 110, 101] }, ByteArray.empty, 0, 0⟩, by omega, by go_num, pset_set HH.out.1 hlt ⟨{ data := #[103, 111, 110, 101] }, ByteArray.empty, 0, 0⟩, ?_⟩
        exact (((HH.out.2.setCell (.inl ⟨hg1, Hg.out, hgw⟩) _).setCell (.inl ⟨hg1, Hg.out, hgw⟩) _).setCell (.inl ⟨hg1, Hg.out, hgw⟩) _).setCell (.inl ⟨hg1, Hg.out, hgw⟩) _
      case measure => simp [intOf]; omega
    · have HH := Lib.hid (And.intro hE hC)
      have hsz0 := hC.size
      clear hE hC
      go_wp2
      go_loopw [4, 5] (fun gr i wr => ∃ (k : Nat) (bg : Option Addr) (cg : Nat) (es' : List PA), k ≤ 64 ∧ i = .int .i64 k ∧ gr = .slice bg (n + k) cg ∧ wr.ownsRow lo 29 4 (.slice bg (n + k) cg) (n + k) (es'.flatMap p4) ∧
          (∀ j, (Value.slice bg (n + k) cg).ownBlock = some j → (j < hi ∧ j < w.heap.size) ∨ w.heap.size ≤ j) ∧ Chg (fun k => lo ≤ k ∧ k < hi ∧ k < w.heap.size) w wr ∧ w.heap.size ≤ wr.heap.size)
        (fun _ i _ => 64 - (intOf i).toNat)
      case atStart => exact ⟨0, b, cap, es', by omega, rfl, rfl, HH.out.1.own, fun j hj => .inl ⟨HH.out.1.top j hj, Hown.out j hj⟩, HH.out.2, hsz0⟩
      case round =>
        clear HH
        obtain ⟨k, bg, cg, es', hk, rfl, rfl, hO, hj, hC, hsz⟩ := hrel
        have HH := Lib.hid (And.intro hO (And.intro hj hC))
        clear hO hj hC
        by_cases hlt : k < 64
        · go_wp2_with (at_builtin
                       refine wpList_app _ rfl (.tmp 21) (.tmp 23) _ rfl lo 29 i1 _ 4 48 Try.underlying22 hi1 hz1 hs1 hy1 rfl (by omega) (.slice bg (n + k) cg) (n + k) _ rfl (HH.out.1.alloc _) _ _ 1 1 (p4 ⟨{ data := #[109, 111, 114, 101] }, ByteArray.empty, 0, 0⟩) rfl rfl (rd_new _ _ _) (one_p4 _) (by unfold maxLen; omega) (by omega) (by simp <;> omega) ?_
                       intro v' w' hown hg hor
                       obtain ⟨bg', cg', rfl⟩ := row_slice hown
                       have HG := Lib.hid (And.intro hown (And.intro hg hor))
                       clear hown hg hor)
          go_roundw
          case rel =>
            refine ⟨k + 1, bg', cg', es' ++ [⟨{ data := #[109, 111, 114, 101] }, ByteArray.empty, 0, 0⟩], by omega, by go_num, rfl, ?_, ?_, ?_, ?_⟩
            · have h := HG.out.1
              rw [List.flatMap_append, List.flatMap_singleton]
              exact h
            · intro j hj
              rcases HG.out.2.2 with h | h
              · exact HH.out.2.1 j (h.symm.trans hj)
              · have h2 : (Value.slice bg' (n + (k + 1)) cg').ownBlock = some (wr.alloc (.cells (p4 ⟨{ data := #[109, 111, 114, 101] }, ByteArray.empty, 0, 0⟩).toArray 29)).heap.size := h
                rw [hj] at h2
                simp at h2
                right; omega
            · refine (HH.out.2.2.alloc _).weak (Chg.of_grown HG.out.2.1) ?_
              intro i hi hs
              have h1 := (HH.out.1.lt i hs.symm).1
              rcases HH.out.2.1 i hs.symm with h2 | h2
              · exact ⟨h1, h2⟩
              · omega
            · have := HG.out.2.1.size; simp at this; omega
          case measure => simp [intOf]; omega
        · have hke : k = 64 := by omega
          subst hke
          go_wp2
          go_ret
          exact ⟨by simp, HH.out.2.2⟩
end Go.Proofs.Ytnkhmebmgncjbaa
