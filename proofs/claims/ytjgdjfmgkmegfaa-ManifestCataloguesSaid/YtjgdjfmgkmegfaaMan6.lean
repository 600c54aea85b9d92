import Derived.Test.YtjgdjfmgkmegfaaMan5
import Derived.Test.YtjgdjfmgkmegfaaCmp
import Derived.Maps.RangeWalk
namespace Go.Proofs.Ytjgdjfmgkmegfaa
open Go.RowKit Go.Maps

structure T4 where
  id : Int
  name : ByteArray
  limit : Int
  hor : Int
def quad (t : T4) : List Value := [.int .i64 t.id, .string t.name, .int .i64 t.limit, .int .i64 t.hor]
theorem quad_get (l : List T4) (i : Nat) (hi : i < l.length) :
    (l.flatMap quad)[i * 4]? = some (.int .i64 l[i].id) ∧ (l.flatMap quad)[i * 4 + 1]? = some (.string l[i].name) ∧ (l.flatMap quad)[i * 4 + 2]? = some (.int .i64 l[i].limit) ∧ (l.flatMap quad)[i * 4 + 3]? = some (.int .i64 l[i].hor) := by
  induction l generalizing i with
  | nil => simp at hi
  | cons p l ih =>
    cases i with
    | zero => simp [quad]
    | succ i =>
      have := ih i (by simpa using hi)
      have e : (i + 1) * 4 = 4 + i * 4 := by omega
      simp only [List.flatMap_cons, e, List.getElem_cons_succ]
      have hl : (quad p).length = 4 := rfl
      refine ⟨?_, ?_, ?_, ?_⟩
      · rw [List.getElem?_append_right (by omega), hl, show 4 + i * 4 - 4 = i * 4 by omega]; exact this.1
      · rw [List.getElem?_append_right (by omega), hl, show 4 + i * 4 + 1 - 4 = i * 4 + 1 by omega]; exact this.2.1
      · rw [List.getElem?_append_right (by omega), hl, show 4 + i * 4 + 2 - 4 = i * 4 + 2 by omega]; exact this.2.2.1
      · rw [List.getElem?_append_right (by omega), hl, show 4 + i * 4 + 3 - 4 = i * 4 + 3 by omega]; exact this.2.2.2
theorem quad_len (l : List T4) : (l.flatMap quad).length = l.length * 4 := by
  induction l with
  | nil => rfl
  | cons p l ih => simp only [List.flatMap_cons, List.length_append, ih, List.length_cons]; show 4 + _ = _; omega
theorem Rd.quad_ {w : World} {B : Nat} {A : Option Addr} {l : List T4} (h : Rd w B A (l.flatMap quad)) {i : Nat} (hi : i < l.length) :
    ∃ ad : Addr, A = some ad ∧ ad.block < B ∧ w.cell? (ad.add (i * 4)) = some (.int .i64 l[i].id) ∧
      w.cell? ⟨(ad.add (i * 4)).block, (ad.add (i * 4)).off + 1, none⟩ = some (.string l[i].name) ∧ w.cell? ⟨(ad.add (i * 4)).block, (ad.add (i * 4)).off + 2, none⟩ = some (.int .i64 l[i].limit) ∧
      w.cell? ⟨(ad.add (i * 4)).block, (ad.add (i * 4)).off + 3, none⟩ = some (.int .i64 l[i].hor) := by
  obtain ⟨h1, h2, h3, h4⟩ := quad_get l i hi
  obtain ⟨ad, rfl, hb, c1⟩ := h _ _ h1
  obtain ⟨a2, e2, _, c2⟩ := h _ _ h2
  obtain ⟨a3, e3, _, c3⟩ := h _ _ h3
  obtain ⟨a4, e4, _, c4⟩ := h _ _ h4
  cases e2; cases e3; cases e4
  rw [← add_add'] at c2 c3 c4
  exact ⟨ad, rfl, hb, c1, c2, c3, c4⟩

/-- May this topic stand behind those with the numbers 'seen', the last of them named 'prev'? -/
def oktP (nid : Int) (seen : List Int) (prev : Option ByteArray) (t : T4) : Prop :=
  (∀ p, prev = some p → cmpB p.data.toList t.name.data.toList < 0) ∧ nameE t.name = 0 ∧ (1 ≤ t.id ∧ t.id < nid) ∧ t.id ∉ seen ∧ (256 ≤ t.limit ∧ t.limit ≤ 65536) ∧ 0 ≤ t.hor ∧ t.hor ≤ 1099511627776
open Classical in
noncomputable def catGo (nid : Int) : List Int → Option ByteArray → List T4 → Bool
  | _, _, [] => true
  | seen, prev, t :: r => decide (oktP nid seen prev t) && catGo nid (seen ++ [t.id]) (some t.name) r
noncomputable def catR (nid : Int) (l : List T4) : Bool := decide (1 ≤ nid) && decide (nid ≤ 1073741824) && decide (l.length ≤ 16) && catGo nid [] none l
noncomputable def catE (nid : Int) (l : List T4) : Int := if catR nid l = true then 0 else 71
theorem catE_bad {nid : Int} {l : List T4} (h : catR nid l = false) : (71 : Int) = catE nid l := by unfold catE; rw [h]; rfl
theorem catE_good {nid : Int} {l : List T4} (h : catR nid l = true) : (0 : Int) = catE nid l := by unfold catE; rw [h]; rfl
theorem catGo_bad {nid : Int} {seen : List Int} {prev : Option ByteArray} {l : List T4} {k : Nat} (hk : k < l.length) (h : ¬ oktP nid seen prev l[k]) : catGo nid seen prev (l.drop k) = false := by
  rw [List.drop_eq_getElem_cons hk, catGo]; simp [h]
theorem catGo_good {nid : Int} {seen : List Int} {prev : Option ByteArray} {l : List T4} {k : Nat} (hk : k < l.length) (h : oktP nid seen prev l[k]) :
    catGo nid seen prev (l.drop k) = catGo nid (seen ++ [l[k].id]) (some l[k].name) (l.drop (k + 1)) := by
  rw [List.drop_eq_getElem_cons hk, catGo]; simp [h]

theorem IMap.below {P : Program} {K E : TypeId} {w w' : World} {b n : Nat} {f : Int → Int} (h : IMap P K E w b n f) (hb : Below w.heap.size w w') : IMap P K E w' b n f :=
  h.kept (row := none) ⟨hb.os, hb.tape, hb.output, hb.size, fun i hi _ => hb.block i hi⟩ (by simp)

/-- What a round of CheckCatalogue knows of the world: the entry's own variable (block e), the catalogue's (block b), the map of numbers (block b + 1). -/
structure CatW (nid : Int) (sl : Value) (p : T4) (B b e n : Nat) (f : Int → Int) (w0 W : World) : Prop where
  e0 : W.cell? ⟨e, 0, none⟩ = some (.int .i64 p.id)
  e1 : W.cell? ⟨e, 1, none⟩ = some (.string p.name)
  e2 : W.cell? ⟨e, 2, none⟩ = some (.int .i64 p.limit)
  e3 : W.cell? ⟨e, 3, none⟩ = some (.int .i64 p.hor)
  b0 : W.cell? ⟨b, 0, none⟩ = some (.int .i64 nid)
  b1 : W.cell? ⟨b, 1, none⟩ = some sl
  map : IMap Try.prog 3 3 W (b + 1) n f
  below : Below B w0 W
  size : e < W.heap.size ∧ b < W.heap.size
theorem CatW.next {nid : Int} {sl : Value} {p : T4} {B b e n : Nat} {f : Int → Int} {w0 W W' : World} (h : CatW nid sl p B b e n f w0 W) (hB : B ≤ W.heap.size) (hb : Below W.heap.size W W') : CatW nid sl p B b e n f w0 W' :=
  have c : ∀ {q : Addr} {u : Value}, W.cell? q = some u → W'.cell? q = some u := fun hq => (hb.cell (World.block_lt_of_cell? _ _ hq)).trans hq
  ⟨c h.e0, c h.e1, c h.e2, c h.e3, c h.b0, c h.b1, h.map.below hb, h.below.trans (hb.mono hB), Nat.lt_of_lt_of_le h.size.1 hb.size, Nat.lt_of_lt_of_le h.size.2 hb.size⟩
theorem CatW.drewN {nid : Int} {sl : Value} {p : T4} {B b e n : Nat} {f : Int → Int} {w0 W : World} (h : CatW nid sl p B b e n f w0 W) (m : Nat) : CatW nid sl p B b e n f w0 (W.drewN m) :=
  ⟨h.e0, h.e1, h.e2, h.e3, h.b0, h.b1, h.map, below_drewN h.below m, h.size⟩

set_option maxRecDepth 100000 in
set_option maxHeartbeats 2000000 in
theorem checkCat_any (nid : Int) (A : Option Addr) (c : Nat) (l : List T4) (w : World) (hA : Rd w w.heap.size A (l.flatMap quad)) (hw : ∀ t ∈ l, (Lit.int .i64 t.id).wf = true ∧ t.name.size ≤ maxLen) :
    Calls Try.prog 12 #[.agg #[.int .i64 nid, .slice A l.length c]] w fun e w' =>
      e = .returned (.int .i64 (catE nid l)) ∧ Below w.heap.size w w' := by
  have hmm := @run_makeMap Try.prog
  have hb0 : Below w.heap.size w (w.alloc (.cells #[.int .i64 nid, .slice A l.length c] 28)) := (Below.refl _ _).alloc (Nat.le_refl _) _
  by_cases h1 : ¬ (1 ≤ nid ∧ nid ≤ 1073741824 ∧ l.length ≤ 16)
  · have Hbad := Lib.hid (show catR nid l = false by
      by_cases a : 1 ≤ nid <;> by_cases b : nid ≤ 1073741824 <;> by_cases d : l.length ≤ 16 <;> simp [catR, a, b, d] <;> exact absurd ⟨a, b, d⟩ h1)
    have H1 := Lib.hid h1
    clear h1
    go_enter Try.func12, Try.ntmps12
    go_wp2
    all_goals first
      | (go_ret; exact ⟨ret_int (catE_bad Hbad.out), hb0⟩)
      | (exfalso; apply H1.out; omega)
  have h1' : 1 ≤ nid ∧ nid ≤ 1073741824 ∧ l.length ≤ 16 := Classical.not_not.1 h1
  clear h1
  obtain ⟨g1, g2, g3⟩ := h1'
  have Hfin : Hid (∀ x, catGo nid [] none l = x → catR nid l = x) := fun x hx => by rw [catR, hx]; simp [g1, g2, g3]
  go_enter Try.func12, Try.ntmps12
  go_wp2
  go_loopw [24] (fun i wr => ∃ (k : Nat) (prev : Option ByteArray), k ≤ l.length ∧ i = .int .i64 k ∧ IMap Try.prog 3 3 wr (w.heap.size + 1) k (cnt ((l.take k).map T4.id)) ∧ Below w.heap.size w wr ∧
      wr.cell? ⟨w.heap.size, 0, none⟩ = some (.int .i64 nid) ∧ wr.cell? ⟨w.heap.size, 1, none⟩ = some (.slice A l.length c) ∧ w.heap.size + 1 < wr.heap.size ∧
      catGo nid [] none l = catGo nid ((l.take k).map T4.id) prev (l.drop k) ∧ (k = 0 → prev = none) ∧ ∀ t, 0 < k → l[k - 1]? = some t → prev = some t.name)
    (fun i _ => l.length - (intOf i).toNat)
  case atStart =>
    refine ⟨0, none, Nat.zero_le _, rfl, ?_, hb0.alloc (by simp) _, by go_simp, by go_simp, by simp, rfl, fun _ => rfl, by omega⟩
    have := IMap.made (P := Try.prog) (K := 3) (E := 3) (w.alloc (.cells #[.int .i64 nid, .slice A l.length c] 28))
    have e : cnt ((l.take 0).map T4.id) = fun _ => 0 := by funext y; simp [cnt]
    rw [e]
    simpa using this
  case round =>
    obtain ⟨k, prev, hk, rfl, hmap, hb, hc0, hc1, hsz, hgo, hpz, hpp⟩ := hrel
    have Hgo := Lib.hid hgo
    have Hpz := Lib.hid hpz
    have Hpp := Lib.hid hpp
    clear hgo hpz hpp
    by_cases hlt : k < l.length
    · have hrd := Lib.hid (hA.below hb)
      obtain ⟨ad, rfl, hadb, hp1, hp2, hp3, hp4⟩ := hrd.out.quad_ hlt
      have hw1 := hw _ (List.getElem_mem hlt)
      generalize hpe : l[k] = p at hp1 hp2 hp3 hp4 hw1
      have Hpe := Lib.hid hpe
      clear hpe
      obtain ⟨hwf, hns⟩ := hw1
      have hmx : k < maxLen := by unfold maxLen; omega
      have hmapo : ∀ o, IMap Try.prog 3 3 (wr.alloc o) (w.heap.size + 1) k (cnt ((l.take k).map T4.id)) := fun o => hmap.kept (World.grownBy_alloc wr o none) (by simp)
      have hl := fun o => (hmapo o).look Try.underlying3 Try.underlying3 (T := 63) Try.underlying63 (zero_int _) p.id hwf
      have Hmapo := Lib.hid hmapo
      clear hmapo
      have Htake := Lib.hid (show (l.take (k + 1)).map T4.id = (l.take k).map T4.id ++ [p.id] by rw [take_snoc l k hlt, Hpe.out]; simp)
      have Hcat : Hid (∀ w1, IMap Try.prog 3 3 w1 (w.heap.size + 1) (k + 1) (fun y => if y = p.id then cnt ((l.take k).map T4.id) p.id + 1 else cnt ((l.take k).map T4.id) y) →
          (wr.alloc (.cells #[.int .i64 p.id, .string p.name, .int .i64 p.limit, .int .i64 p.hor] 60)).grownBy w1 (some (w.heap.size + 1)) →
          CatW nid (.slice (some ad) l.length c) p w.heap.size w.heap.size wr.heap.size (k + 1) (fun y => if y = p.id then cnt ((l.take k).map T4.id) p.id + 1 else cnt ((l.take k).map T4.id) y) w w1) := fun w1 hm hg =>
        ⟨hg.cell (by go_simp) (by simp; omega), hg.cell (by go_simp) (by simp; omega), hg.cell (by go_simp) (by simp; omega), hg.cell (by go_simp) (by simp; omega),
          hg.cell ((World.cell?_alloc_lt _ _ _ (by simp; omega)).trans hc0) (by simp), hg.cell ((World.cell?_alloc_lt _ _ _ (by simp; omega)).trans hc1) (by simp), hm,
          (hb.alloc (by omega) _).grown hg (by simp; omega) (fun j hj => by cases hj; omega), by have := hg.size; simp at this; omega, by have := hg.size; simp at this; omega⟩
      by_cases hm : p.id ∈ (l.take k).map T4.id
      · have e : cnt ((l.take k).map T4.id) p.id = 1 := by simp only [cnt, hm, if_true]
        simp only [e] at hl Hcat
        have Hbad := Lib.hid (catE_bad (Hfin.out _ (Hgo.out.trans (catGo_bad (prev := prev) hlt (by rw [Hpe.out]; exact fun h => h.2.2.2.1 hm)))))
        clear hm e
        by_cases hk0 : 0 < k
        · obtain ⟨m, rfl⟩ : ∃ m, k = m + 1 := ⟨k - 1, by omega⟩
          have hk00 : decide ((0 : Int) < (m : Int) + 1) = true := decide_eq_true (by omega)
          have hwr : IntKind.i64.wrap (m : Int) = m := Go.IntWalk.i64_in _ (by omega)
          have hm0 : (0 : Int) ≤ m := by omega
          have hm1 : (m : Int) < l.length := by omega
          obtain ⟨ad', ee, _, z1, z2, z3, z4⟩ := hrd.out.quad_ (i := m) (by omega)
          cases ee
          have hqs := (hw _ (List.getElem_mem (show m < l.length by omega))).2
          have Hq := Lib.hid (Hpp.out l[m] hk0 (by simp))
          generalize l[m] = q at z1 z2 z3 z4 hqs Hq
          clear z1 z3 z4
          go_wp2_with (at_mapUpdate; refine wpList_mapStore _ rfl (.tmp 29) (.tmp 31) (.tmp 33) _ rfl Try.underlying3 Try.underlying3 Try.underlying63 _ (m + 1) _ rfl (Hmapo.out _) hmx _ _ rfl rfl hwf (by decide) ?_; intro w1 hmap1 hg1)
          have hW := Hcat.out w1 hmap1 hg1
          have q0 := hW.e0; have q1 := hW.e1; have q2 := hW.e2; have q3 := hW.e3; have q4 := hW.b0; have q5 := hW.b1
          have HW := Lib.hid hW
          have zz : w1.cell? ⟨(ad.add (m * 4)).block, (ad.add (m * 4)).off + 1, none⟩ = some (.string q.name) := hg1.cell ((World.cell?_alloc_lt _ _ _ (by rw [add_block]; omega)).trans z2) (by simp [add_block]; omega)
          clear z2
          clear hW hmap1 hg1 hl hc0 hc1 hp1 hp2 hp3 hp4
          go_frame
          go_quiet ((go_at_call 41; exact Calls.quiet_of (compare_any _ _ _ hqs hns)))
          go_wp2_with (go_at_call 17; refine (checkName_any _ _).mono ?_; rintro e w3 ⟨rfl, hb3⟩; have hW3 := (HW.out.drewN _).next (by have := HW.out.below.size; simpa using this) hb3; have r0 := hW3.e0; have r1 := hW3.e1; have r2 := hW3.e2; have r3 := hW3.e3; have r4 := hW3.b0; have r5 := hW3.b1; have hl3 := hW3.map.look Try.underlying3 Try.underlying3 (T := 63) Try.underlying63 (zero_int _) p.id hwf; simp only [if_true] at hl3; have HW3 := Lib.hid hW3; clear hW3)
          all_goals first
            | (go_ret; exact ⟨ret_int Hbad.out, HW3.out.below⟩)
            | (go_ret; exact ⟨ret_int Hbad.out, (HW.out.drewN _).below⟩)
        · have hk00 : decide ((0 : Int) < (k : Int)) = false := by simp at hk0 ⊢; omega
          go_wp2_with (at_mapUpdate; refine wpList_mapStore _ rfl (.tmp 29) (.tmp 31) (.tmp 33) _ rfl Try.underlying3 Try.underlying3 Try.underlying63 _ k _ rfl (Hmapo.out _) hmx _ _ rfl rfl hwf (by decide) ?_; intro w1 hmap1 hg1)
          have hW := Hcat.out w1 hmap1 hg1
          have q0 := hW.e0; have q1 := hW.e1; have q2 := hW.e2; have q3 := hW.e3; have q4 := hW.b0; have q5 := hW.b1
          have HW := Lib.hid hW
          clear hW hmap1 hg1 hl hc0 hc1 hp1 hp2 hp3 hp4
          go_frame
          go_quiet (fail)
          go_wp2_with (go_at_call 17; refine (checkName_any _ _).mono ?_; rintro e w3 ⟨rfl, hb3⟩; have hW3 := (HW.out.drewN _).next (by have := HW.out.below.size; simpa using this) hb3; have r0 := hW3.e0; have r1 := hW3.e1; have r2 := hW3.e2; have r3 := hW3.e3; have r4 := hW3.b0; have r5 := hW3.b1; have hl3 := hW3.map.look Try.underlying3 Try.underlying3 (T := 63) Try.underlying63 (zero_int _) p.id hwf; simp only [if_true] at hl3; have HW3 := Lib.hid hW3; clear hW3)
          all_goals first
            | (go_ret; exact ⟨ret_int Hbad.out, HW3.out.below⟩)
            | (go_ret; exact ⟨ret_int Hbad.out, (HW.out.drewN _).below⟩)
      · have e : cnt ((l.take k).map T4.id) p.id = 0 := by simp only [cnt, hm, if_false]
        simp only [e] at hl Hcat
        have Hm := Lib.hid hm
        clear hm e
        by_cases hk0 : 0 < k
        · obtain ⟨m, rfl⟩ : ∃ m, k = m + 1 := ⟨k - 1, by omega⟩
          have hk00 : decide ((0 : Int) < (m : Int) + 1) = true := decide_eq_true (by omega)
          have hwr : IntKind.i64.wrap (m : Int) = m := Go.IntWalk.i64_in _ (by omega)
          have hm0 : (0 : Int) ≤ m := by omega
          have hm1 : (m : Int) < l.length := by omega
          obtain ⟨ad', ee, _, z1, z2, z3, z4⟩ := hrd.out.quad_ (i := m) (by omega)
          cases ee
          have hqs := (hw _ (List.getElem_mem (show m < l.length by omega))).2
          have Hq := Lib.hid (Hpp.out l[m] hk0 (by simp))
          generalize l[m] = q at z1 z2 z3 z4 hqs Hq
          clear z1 z3 z4
          have Hok : Hid (oktP nid ((l.take (m + 1)).map T4.id) prev p ↔ (cmpB q.name.data.toList p.name.data.toList < 0 ∧ nameE p.name = 0 ∧ (1 ≤ p.id ∧ p.id < nid) ∧ (256 ≤ p.limit ∧ p.limit ≤ 65536) ∧ 0 ≤ p.hor ∧ p.hor ≤ 1099511627776)) := by
            have hp := Hq.out
            constructor
            · rintro ⟨a, b, c, _, d⟩
              exact ⟨a _ hp, b, c, d⟩
            · rintro ⟨a, b, c, d⟩
              exact ⟨(fun x hx => by rw [hp] at hx; cases hx; exact a), b, c, Hm.out, d⟩
          go_wp2_with (at_mapUpdate; refine wpList_mapStore _ rfl (.tmp 29) (.tmp 31) (.tmp 33) _ rfl Try.underlying3 Try.underlying3 Try.underlying63 _ (m + 1) _ rfl (Hmapo.out _) hmx _ _ rfl rfl hwf (by decide) ?_; intro w1 hmap1 hg1)
          have hW := Hcat.out w1 hmap1 hg1
          have q0 := hW.e0; have q1 := hW.e1; have q2 := hW.e2; have q3 := hW.e3; have q4 := hW.b0; have q5 := hW.b1
          have HW := Lib.hid hW
          have zz : w1.cell? ⟨(ad.add (m * 4)).block, (ad.add (m * 4)).off + 1, none⟩ = some (.string q.name) := hg1.cell ((World.cell?_alloc_lt _ _ _ (by rw [add_block]; omega)).trans z2) (by simp [add_block]; omega)
          clear z2
          clear hW hmap1 hg1 hl hc0 hc1 hp1 hp2 hp3 hp4
          go_frame
          go_quiet ((go_at_call 41; exact Calls.quiet_of (compare_any _ _ _ hqs hns)))
          go_wp2_with (go_at_call 17; refine (checkName_any _ _).mono ?_; rintro e w3 ⟨rfl, hb3⟩; have hW3 := (HW.out.drewN _).next (by have := HW.out.below.size; simpa using this) hb3; have r0 := hW3.e0; have r1 := hW3.e1; have r2 := hW3.e2; have r3 := hW3.e3; have r4 := hW3.b0; have r5 := hW3.b1; have hl3 := hW3.map.look Try.underlying3 Try.underlying3 (T := 63) Try.underlying63 (zero_int _) p.id hwf; simp only [if_true] at hl3; have HW3 := Lib.hid hW3; clear hW3)
          all_goals first
            | (go_ret; exact ⟨ret_int (catE_bad (Hfin.out _ (Hgo.out.trans (catGo_bad hlt (by rw [Hpe.out, Hok.out]; omega))))), HW3.out.below⟩)
            | (go_ret; exact ⟨ret_int (catE_bad (Hfin.out _ (Hgo.out.trans (catGo_bad hlt (by rw [Hpe.out, Hok.out]; omega))))), (HW.out.drewN _).below⟩)
            | (go_roundw
               case rel =>
                 refine ⟨(m + 1) + 1, some p.name, by omega, by go_num, ?_, HW3.out.below, r4, r5, by have := HW3.out.size; have := HW3.out.map.lt; omega, ?_, by omega, ?_⟩
                 · rw [Htake.out, ← cnt_snoc]; exact HW3.out.map
                 · rw [Hgo.out, catGo_good hlt (by rw [Hpe.out, Hok.out]; (first | omega | exact ⟨trivial, by omega⟩)), Htake.out, Hpe.out]
                 · intro t _ ht
                   rw [show (m + 1) + 1 - 1 = (m + 1) from rfl, List.getElem?_eq_getElem hlt, Hpe.out] at ht
                   cases ht; rfl
               case measure => simp [intOf]; omega)
        · have hk00 : decide ((0 : Int) < (k : Int)) = false := by simp at hk0 ⊢; omega
          have Hok : Hid (oktP nid ((l.take k).map T4.id) prev p ↔ (True ∧ nameE p.name = 0 ∧ (1 ≤ p.id ∧ p.id < nid) ∧ (256 ≤ p.limit ∧ p.limit ≤ 65536) ∧ 0 ≤ p.hor ∧ p.hor ≤ 1099511627776)) := by
            have hp := Hpz.out (by omega)
            constructor
            · rintro ⟨a, b, c, _, d⟩
              exact ⟨trivial, b, c, d⟩
            · rintro ⟨a, b, c, d⟩
              exact ⟨(fun x hx => by rw [hp] at hx; cases hx), b, c, Hm.out, d⟩
          go_wp2_with (at_mapUpdate; refine wpList_mapStore _ rfl (.tmp 29) (.tmp 31) (.tmp 33) _ rfl Try.underlying3 Try.underlying3 Try.underlying63 _ k _ rfl (Hmapo.out _) hmx _ _ rfl rfl hwf (by decide) ?_; intro w1 hmap1 hg1)
          have hW := Hcat.out w1 hmap1 hg1
          have q0 := hW.e0; have q1 := hW.e1; have q2 := hW.e2; have q3 := hW.e3; have q4 := hW.b0; have q5 := hW.b1
          have HW := Lib.hid hW
          clear hW hmap1 hg1 hl hc0 hc1 hp1 hp2 hp3 hp4
          go_frame
          go_quiet (fail)
          go_wp2_with (go_at_call 17; refine (checkName_any _ _).mono ?_; rintro e w3 ⟨rfl, hb3⟩; have hW3 := (HW.out.drewN _).next (by have := HW.out.below.size; simpa using this) hb3; have r0 := hW3.e0; have r1 := hW3.e1; have r2 := hW3.e2; have r3 := hW3.e3; have r4 := hW3.b0; have r5 := hW3.b1; have hl3 := hW3.map.look Try.underlying3 Try.underlying3 (T := 63) Try.underlying63 (zero_int _) p.id hwf; simp only [if_true] at hl3; have HW3 := Lib.hid hW3; clear hW3)
          all_goals first
            | (go_ret; exact ⟨ret_int (catE_bad (Hfin.out _ (Hgo.out.trans (catGo_bad hlt (by rw [Hpe.out, Hok.out]; omega))))), HW3.out.below⟩)
            | (go_ret; exact ⟨ret_int (catE_bad (Hfin.out _ (Hgo.out.trans (catGo_bad hlt (by rw [Hpe.out, Hok.out]; omega))))), (HW.out.drewN _).below⟩)
            | (go_roundw
               case rel =>
                 refine ⟨k + 1, some p.name, by omega, by go_num, ?_, HW3.out.below, r4, r5, by have := HW3.out.size; have := HW3.out.map.lt; omega, ?_, by omega, ?_⟩
                 · rw [Htake.out, ← cnt_snoc]; exact HW3.out.map
                 · rw [Hgo.out, catGo_good hlt (by rw [Hpe.out, Hok.out]; (first | omega | exact ⟨trivial, by omega⟩)), Htake.out, Hpe.out]
                 · intro t _ ht
                   rw [show k + 1 - 1 = k from rfl, List.getElem?_eq_getElem hlt, Hpe.out] at ht
                   cases ht; rfl
               case measure => simp [intOf]; omega)
    · go_wp2
      go_ret
      refine ⟨ret_int (catE_good (Hfin.out _ ?_)), hb⟩
      rw [Hgo.out, List.drop_of_length_le (by omega)]; rfl
end Go.Proofs.Ytjgdjfmgkmegfaa
