import Derived.Test.YtebeefkibbbkdaaQe
import Derived.Test.YtebeefkibbbkdaaQf
import Derived.Test.YtebeefkibbbkdaaQg
import Derived.Deep.AppendLies
/- SimfsScripts: the program's disk beside the document's: memory; what can be asked without a name. -/
namespace Go.Proofs.Ytebeefkibbbkdaa
open Go.RowKit Go.Maps

/-- The program's disk at s1, the document's at s2; the pair's own block. -/
structure Bo (W w : World) (S : Nat → Prop) (d : Nat) (s1 : Dk) (N : Nat) (L : Nat → Nat) (rb : Nat) (s2 : Dk) (bb : Nat) : Prop where
  lv : Lv W w S d s1 N
  rd : RDk w L rb s2
  lw : ∀ b, L b ≠ 0 → W.heap.size ≤ b
  ap : ∀ b, S b → L b = 0
  bx : Box w bb 49 #[.pointer (some ⟨d, 0, none⟩), .pointer (some ⟨rb, 0, none⟩)]
  bS : ¬ S bb
  bL : L bb = 0
  bW : W.heap.size ≤ bb
section
variable {W w w' : World} {S : Nat → Prop} {d rb N M bb : Nat} {s1 s2 s1' s2' : Dk} {L L' : Nat → Nat}
theorem Bo.bel (h : Bo W w S d s1 N L rb s2 bb) : Below W.heap.size W w := h.lv.2.2.1
theorem Bo.next (h : Bo W w S d s1 N L rb s2 bb) (hb : Below w.heap.size w w') : Bo W w' S d s1 N L rb s2 bb := ⟨h.lv.next hb, h.rd.next hb, h.lw, h.ap, h.bx.next hb, h.bS, h.bL, h.bW⟩
theorem Bo.up (h : Bo W w S d s1 N L rb s2 bb) (hM : N ≤ M) : Bo W w S d s1 M L rb s2 bb := ⟨h.lv.up hM, h.rd, h.lw, h.ap, h.bx, h.bS, h.bL, h.bW⟩
/-- The program's disk goes on. -/
theorem Bo.a (h : Bo W w S d s1 N L rb s2 bb) (ht : Lv.Then W w w' S d s1' M) : ∃ S', Bo W w' S' d s1' M L rb s2 bb := by
  obtain ⟨S', h1, h2, h3⟩ := ht
  refine ⟨S', h1, h.rd.chgq h2 h.ap, h.lw, fun b hb => ?_, h.bx.chg h2 h.bS, fun hb => ?_, h.bL, h.bW⟩
  · rcases h3 b hb with h4 | h4
    · exact h.ap b h4
    · refine Classical.byContradiction fun hne => ?_
      have := h.rd.lt b hne
      omega
  · rcases h3 bb hb with h4 | h4
    · exact h.bS h4
    · have := h.bx.lt
      omega
/-- The document's goes on. -/
theorem Bo.b (h : Bo W w S d s1 N L rb s2 bb) (hr : RDk w' L' rb s2') (hex : Ex w w' L L') : Bo W w' S d s1 N L' rb s2' bb :=
  ⟨h.lv.far hex.chg (fun b hb hl => hl (h.ap b hb)) h.lw, hr, fun b hb => by
    rcases hex.new b hb with h1 | h1
    · exact h.lw b h1
    · exact Nat.le_trans h.bel.size h1, fun b hb => hex.offb (h.ap b hb) (h.lv.lt b hb), h.bx.chg hex.chg fun e => e h.bL, h.bS, hex.offb h.bL h.bx.lt, h.bW⟩
end
theorem cell_two {w : World} {bb d rb : Nat} (h : Box w bb 49 #[.pointer (some ⟨d, 0, none⟩), .pointer (some ⟨rb, 0, none⟩)]) : w.cell? ⟨bb, 0, none⟩ = some (.pointer (some ⟨d, 0, none⟩)) ∧ w.cell? ⟨bb, 1, none⟩ = some (.pointer (some ⟨rb, 0, none⟩)) := ⟨h.cell 0, h.cell 1⟩
theorem image_few {s : Dk} {N : Nat} (h : s.Inv N) (hN : N ≤ 9999999) : (imageL s).length ≤ 140737488351232 := by have := image_len h; omega
set_option maxRecDepth 100000 in
set_option maxHeartbeats 16000000 in
/-- What can be asked without a name. -/
theorem facts_any (W : World) (S : Nat → Prop) (d : Nat) (s : Dk) (N : Nat) (L : Nat → Nat) (rb bb : Nat) (w : World) (h : Bo W w S d s N L rb s bb) (hN : N ≤ 9999999) (hfm : s.files.length ≤ 9999999) :
    Calls Try.prog 17 #[.pointer (some ⟨bb, 0, none⟩)] w fun e w' => e = .returned (.bool true) ∧ Below w.heap.size w w' := by
  obtain ⟨hxc0, hxc1⟩ := cell_two h.bx
  have H := Lib.hid h
  have hN2 := Lib.hid (And.intro hN hfm)
  clear h hN hfm
  go_enter Try.func17, Try.ntmps17
  go_upto_region 1 with fail
  go_quiet (first
    | (go_at_call 49; exact Calls.quiet_of ((tell_Used S d s _ (H.out.next (below_drewN (Below.refl _ _) _)).lv.1).mono fun _ _ ⟨h1, h2⟩ => ⟨h1, 0, h2⟩))
    | (go_at_call 50; exact Calls.quiet_of (usedR_any rb L s N _ (H.out.next (below_drewN (Below.refl _ _) _)).rd H.out.lv.2.2.2 (by have := hN2.out.1; omega) (by have := hN2.out.2; omega)))
    | (go_at_call 51; exact Calls.quiet_of ((tell_Quota S d s _ (H.out.next (below_drewN (Below.refl _ _) _)).lv.1).mono fun _ _ ⟨h1, h2⟩ => ⟨h1, 0, h2⟩))
    | (go_at_call 52; exact Calls.quiet_of ((quotaR_any rb L s _ (H.out.next (below_drewN (Below.refl _ _) _)).rd).mono fun _ _ ⟨h1, h2⟩ => ⟨h1, 0, h2⟩))
    | (go_at_call 53; exact Calls.quiet_of ((tell_Dead S d s _ (H.out.next (below_drewN (Below.refl _ _) _)).lv.1).mono fun _ _ ⟨h1, h2⟩ => ⟨h1, 0, h2⟩))
    | (go_at_call 54; exact Calls.quiet_of ((deadR_any rb L s _ (H.out.next (below_drewN (Below.refl _ _) _)).rd).mono fun _ _ ⟨h1, h2⟩ => ⟨h1, 0, h2⟩))
    | (go_at_call 55; exact Calls.quiet_of ((tell_Ops S d s _ (H.out.next (below_drewN (Below.refl _ _) _)).lv.1).mono fun _ _ ⟨h1, h2⟩ => ⟨h1, 0, h2⟩))
    | (go_at_call 56; exact Calls.quiet_of ((opsR_any rb L s _ (H.out.next (below_drewN (Below.refl _ _) _)).rd).mono fun _ _ ⟨h1, h2⟩ => ⟨h1, 0, h2⟩)))
  generalize hw1 : w.drewN _ = w1
  have hb1 : Below w.heap.size w w1 := by rw [← hw1]; exact below_drewN (Below.refl _ _) _
  have H1 := Lib.hid (And.intro (H.out.next hb1) hb1)
  clear hw1 hb1 hxc0 hxc1
  go_upto_region 3 with fail
  have hs1 := cell_two H1.out.1.bx
  have hs1d : w1.drew.cell? ⟨bb, 0, none⟩ = some (.pointer (some ⟨d, 0, none⟩)) ∧ w1.drew.cell? ⟨bb, 1, none⟩ = some (.pointer (some ⟨rb, 0, none⟩)) := hs1
  obtain ⟨gl, hgl⟩ : ∃ gl, (imageL s).length = gl := ⟨_, rfl⟩
  have hglm := image_few H1.out.1.lv.2.2.2 hN2.out.1
  rw [hgl] at hglm
  have HGL := Lib.hid hgl
  have hcur := Lib.hid (And.intro (H1.out.1.next (below_drew (Below.refl _ _))) (show Below w.heap.size w w1.drew from below_drew H1.out.2))
  clear hgl
  go_region_held3 (fun w' => w'.cell? ⟨bb, 0, none⟩ = some (.pointer (some ⟨d, 0, none⟩)) ∧ w'.cell? ⟨bb, 1, none⟩ = some (.pointer (some ⟨rb, 0, none⟩)))
    (first | with_reducible exact hs1 | with_reducible exact hs1d | with_reducible exact hsD | with_reducible exact hsR | with_reducible exact hsE)
    (first
      | (go_at_call 57
         refine (lv_image hcur.out.1.lv (by have := hN2.out.1; omega)).mono ?_
         rintro e wD ⟨usD, bD, cD, rfl, hfD, hbD⟩
         rw [HGL.out] at hfD ⊢
         have hn := Lib.hid (And.intro (hcur.out.1.next hbD) (bel_next hcur.out.2 hbD))
         clear hcur
         have hcur := hn
         clear hn
         have hsD := cell_two hcur.out.1.bx
         have ID := Lib.hid hfD.im
         try
           have hn2 := Lib.hid (IR.out.next hbD)
           clear IR
           have IR := hn2
           clear hn2
         clear hfD hbD)
      | (go_at_call 58
         refine (imageR_any rb L s N _ hcur.out.1.rd hcur.out.1.lv.2.2.2 (by have := hN2.out.1; omega) (by have := hN2.out.2; omega)).mono ?_
         rintro e wR ⟨usR, bR, cR, rfl, hfR, hbR⟩
         rw [HGL.out] at hfR ⊢
         have hn := Lib.hid (And.intro (hcur.out.1.next hbR) (bel_next hcur.out.2 hbR))
         clear hcur
         have hcur := hn
         clear hn
         have hsR := cell_two hcur.out.1.bx
         have IR := Lib.hid hfR.im
         try
           have hn2 := Lib.hid (ID.out.next hbR)
           clear ID
           have ID := hn2
           clear hn2
         clear hfR hbR)
      | (go_at_call 16
         refine (sameImage_any bD bR gl cD gl cR (imageL s) (imageL s) _ HGL.out HGL.out ID.out IR.out hglm hglm (image_small H1.out.1.lv.2.2.2) (image_small H1.out.1.lv.2.2.2)).mono ?_
         rintro e wE ⟨rfl, kE, hwE⟩
         rw [show decide (imageL s = imageL s) = true from decide_eq_true rfl]
         have hbE := Lib.hid (show Below w.heap.size w wE by rw [hwE]; exact below_drewN hcur.out.2 kE)
         have hsE := cell_two (hcur.out.1.next (w' := wE) (by rw [hwE]; exact below_drewN (Below.refl _ _) kE)).bx
         clear hwE))
  all_goals
    go_wp2
    go_ret
    exact ⟨rfl, hbE.out⟩
end Go.Proofs.Ytebeefkibbbkdaa
/- SimfsScripts: gone: an image is written over, and grown: it touches its own blocks alone. -/
namespace Go.Proofs.Ytebeefkibbbkdaa
open Go.RowKit Go.Maps

section
variable {P : Program} (w : World)
/-- An append of cells onto a row of bytes of the call's own: every other header onto such a row is one onto a row, with whatever stands there. -/
theorem run_app_some (base : Nat) (t ty e : TypeId) (i : TypeInfo) (z : Value) (ht : P.underlying t = some (.slice e)) (hi : P.info? e = some i) (hz : i.zero = some z)
    (hsize : i.size = 1) (hby : i.bytes = 1) (hzs : z.cells.size = 1) (v : Value) (n : Nat) (xs : List Value) (hown : w.ownsRow base e 1 v n xs)
    (B : Nat) (ad : Addr) (m c : Nat) (news : List Value) (hl : news.length = m * 1) (hr : Rd w B (some ad) news) (h1 : ∀ u ∈ news, u.oneCell' = true)
    (h63 : n + m ≤ maxLen) (hbytes : (n + m) * 1 ≤ 140737488355328) (hbase : base ≤ w.heap.size) :
    ∃ v' w', (Builtin.append_ #[t, t] ty #[v, .slice (some ad) m c]).run P w = .ok v' w' ∧ w'.ownsRow base e 1 v' (n + m) (xs ++ news) ∧ w.grownBy w' v.ownBlock ∧
      (v'.ownBlock = v.ownBlock ∨ v'.ownBlock = some w.heap.size) ∧ ∀ (b0 : Nat) (e0 : TypeId) (u : Value) (k : Nat) (ys : List Value), w.ownsRow b0 e0 1 u k ys → ∃ ys', w'.ownsRow b0 e0 1 u k ys' := by
  obtain ⟨v', w', r1, r2, r3, r4⟩ := run_app (P := P) w base t ty e i z 1 1 ht hi hz hsize hby hzs (by decide) v n xs hown B (some ad) m c news hl hr h1 h63 hbytes hbase
  refine ⟨v', w', r1, r2, r3, r4, fun b0 e0 u k ys hu => ?_⟩
  have hnews : ∀ j u, news[j]? = some u → w.cell? (ad.add j) = some u := fun j u hj => by
    obtain ⟨a', ea, _, hc⟩ := hr j u hj
    cases ea
    exact hc
  rcases hown.2 with ⟨rfl, _⟩ | ⟨g, cap, cur, rfl, hg, hh, hnc, hcm, hcs, htk⟩
  · exact ⟨ys, row_block hu fun j hj => r3.block j (hu.lt j hj).2 (by simp [Value.ownBlock])⟩
  · by_cases hug : u.ownBlock = some g
    · rcases hu.2 with ⟨rfl, _⟩ | ⟨g', cap', cur', rfl, hg', hh', hnc', hcm', hcs', htk'⟩
      · cases hug
      · obtain rfl : g' = g := by simpa [Value.ownBlock] using hug
        rw [hh] at hh'
        injection hh' with hh'
        injection hh' with q1 q2 _
        subst q1 q2
        have hcc : cap' = cap := by omega
        subst hcc
        by_cases hroom : n + m ≤ cap'
        · have hrun := run_append_room (P := P) w t ty e i ht hi g' n cap' cur hh ad m c news (by rw [hl, hsize]) hnews h1 hroom (by rw [hsize]; omega)
          rw [r1] at hrun
          injection hrun with _ hw
          have hcl : cur.toList.length = cap' := by rw [Array.length_toList, hcs]; omega
          refine ⟨(cur.toList.take (n * 1) ++ news ++ cur.toList.drop (n * 1 + news.length)).take (k * 1), ?_, .inr ⟨g', cap', (cur.toList.take (n * 1) ++ news ++ cur.toList.drop (n * 1 + news.length)).toArray, rfl, hg', ?_, hnc', hcm', ?_, ?_⟩⟩
          · simp only [List.length_append, List.length_take, List.length_drop, hcl]
            omega
          · rw [hw, hsize]
            simp [World.setRow, Array.getElem?_modify, hh]
          · simp only [List.size_toArray, List.length_append, List.length_take, List.length_drop, hcl]
            omega
          · rw [List.toList_toArray]
        · have hrun := run_append_grow (P := P) w t ty e i z ht hi hz ⟨g', 0, none⟩ n cap' xs (by rw [hown.1, hsize]) (fun j u hj => hown.cells rfl j u hj) ad m c news (by rw [hl, hsize]) hnews (by omega) (by unfold maxLen at h63; omega) (by rw [hby]; exact growslice_fits (by omega) (by omega))
          rw [r1] at hrun
          injection hrun with _ hw
          rw [hw]
          exact ⟨ys, hu.alloc _⟩
    · exact ⟨ys, row_block hu fun j hj => r3.block j (hu.lt j hj).2 fun ej => hug (hj.trans (by rw [ej]; rfl))⟩
end
theorem wpList_app_some {P : Program} {w : World} {ops : Array Oper} {rest : List Oper} {o : Oper} {a : Act} {Q : Exit → Act → World → Prop} (hgd : o.guard = none) (s x : Operand) (t : TypeId)
    (ho : o.op = .call { callee := .builtin .append, args := #[s, x], argTypes := #[t, t] })
    (base : Nat) (e : TypeId) (i : TypeInfo) (z : Value) (ht : P.underlying t = some (.slice e)) (hi : P.info? e = some i) (hz : i.zero = some z)
    (hsize : i.size = 1) (hby : i.bytes = 1) (hzs : z.cells.size = 1)
    (v : Value) (n : Nat) (xs : List Value) (hs : a.eval s = v) (hown : w.ownsRow base e 1 v n xs)
    (B : Nat) (ad : Addr) (m c : Nat) (news : List Value) (hx : a.eval x = .slice (some ad) m c) (hl : news.length = m * 1) (hr : Rd w B (some ad) news) (h1 : ∀ u ∈ news, u.oneCell' = true)
    (h63 : n + m ≤ maxLen) (hbytes : (n + m) * 1 ≤ 140737488355328) (hbase : base ≤ w.heap.size)
    (h : ∀ v' w', w'.ownsRow base e 1 v' (n + m) (xs ++ news) → w.grownBy w' v.ownBlock → (v'.ownBlock = v.ownBlock ∨ v'.ownBlock = some w.heap.size) → (∀ (b0 : Nat) (e0 : TypeId) (u : Value) (k : Nat) (ys : List Value), w.ownsRow b0 e0 1 u k ys → ∃ ys', w'.ownsRow b0 e0 1 u k ys') → wpList P ops Q rest (a.put o.dst v') w') :
    wpList P ops Q (o :: rest) a w :=
  wpList_plain hgd fun K hK => by
    obtain ⟨v', w', hrun, h2, h3, h4, h5⟩ := run_app_some (P := P) w base t o.type e i z ht hi hz hsize hby hzs v n xs hown B ad m c news hl hr h1 h63 hbytes hbase
    unfold Oper.wp execOp
    simp only [ho, resolve, invoke, builtin, Sem.run_bind, Sem.run_pure, Result.andThen_ok, List.map_toArray, List.map_cons, List.map_nil, hs, hx, hrun]
    exact hK _ _ (h v' w' h2 h3 h4 h5)
theorem row_some_set {w : World} {b0 k : Nat} {e0 : TypeId} {y : Value} {ys : List Value} (h : w.ownsRow b0 e0 1 y k ys) (g j : Nat) (u : Value) : ∃ ys', (w.setCell ⟨g, j, none⟩ u).ownsRow b0 e0 1 y k ys' := by
  by_cases hg : y.ownBlock = some g
  · rcases h.2 with ⟨rfl, _⟩ | ⟨g', cap, cur, rfl, hr⟩
    · cases hg
    · obtain rfl : g' = g := by simpa [Value.ownBlock] using hg
      exact ⟨_, row_put h u⟩
  · exact ⟨ys, row_block h fun i hi => Below.heap_setCell w _ u i fun e => hg (by rw [hi, e])⟩
def ncell (p : ByteArray × Value) : List Value := [.string p.1, p.2]
theorem nc_get : ∀ (l : List (ByteArray × Value)) (i : Nat) (p : ByteArray × Value), l[i]? = some p → (l.flatMap ncell)[i * 2]? = some (.string p.1) ∧ (l.flatMap ncell)[i * 2 + 1]? = some p.2
  | [], i, p, h => by simp at h
  | q :: r, 0, p, h => by
    simp at h
    subst h
    exact ⟨rfl, rfl⟩
  | q :: r, i + 1, p, h => by
    obtain ⟨h1, h2⟩ := nc_get r i p (by simpa using h)
    rw [List.flatMap_cons, show (i + 1) * 2 = (ncell q).length + i * 2 by show _ = 2 + i * 2; omega]
    refine ⟨?_, ?_⟩
    · rw [List.getElem?_append_right (by omega), Nat.add_sub_cancel_left]; exact h1
    · rw [show (ncell q).length + i * 2 + 1 = (ncell q).length + (i * 2 + 1) by omega, List.getElem?_append_right (by omega), Nat.add_sub_cancel_left]; exact h2
theorem nc_set : ∀ (l : List (ByteArray × Value)) (i : Nat) (p : ByteArray × Value) (n : ByteArray), l[i]? = some p → (l.set i (n, p.2)).flatMap ncell = (l.flatMap ncell).set (i * 2) (.string n)
  | [], i, p, v, h => by simp at h
  | q :: r, 0, p, v, h => by
    simp at h
    subst h
    rfl
  | q :: r, i + 1, p, v, h => by
    have := nc_set r i p v (by simpa using h)
    rw [List.set_cons_succ, List.flatMap_cons, List.flatMap_cons, this, List.set_append_right _ _ (by show (ncell q).length ≤ _; show 2 ≤ _; omega)]
    congr 2
    show i * 2 = (i + 1) * 2 - 2
    omega
/-- Files told, with whatever names and bytes: how long they are. -/
structure Gn (w : World) (B : Nat) (ls : List Nat) (us : List Value) (v : Value) : Prop where
  ul : us.length = ls.length
  r : ∃ ns : List (ByteArray × Value), ns.map (·.2) = us ∧ w.ownsRow B 37 2 v ls.length (ns.flatMap ncell)
  f : ∀ (i l : Nat) (u : Value), ls[i]? = some l → us[i]? = some u → ∃ (b : Option Addr) (c : Nat) (xs : List Value), u = .slice b l c ∧ w.ownsRow B 5 1 u l xs
theorem FLs.gn {w : World} {B : Nat} {fs : List FE} {us : List Value} {v : Value} (h : FLs w B fs us v) : Gn w B (fs.map fun p => p.2.length) us v := by
  obtain ⟨h1, h2, h3⟩ := h
  refine ⟨by rw [List.length_map]; exact h1, ⟨(fs.zip us).map fun x => (x.1.1, x.2), ?_, ?_⟩, fun i l u hl hu => ?_⟩
  · rw [List.map_map]
    exact List.map_snd_zip (by omega)
  · rw [List.length_map, List.flatMap_map]
    exact h2
  · rw [List.getElem?_map] at hl
    cases hp : fs[i]? with
    | none => rw [hp] at hl; cases hl
    | some p =>
      rw [hp] at hl
      injection hl with hl
      subst hl
      obtain ⟨b, c, e, hr⟩ := h3 i p u hp hu
      exact ⟨b, c, _, e, hr⟩
section
variable {w w' : World} {B g n c : Nat} {ls : List Nat} {us : List Value} {v : Value}
/-- The rows of bytes may have turned, the row of files has not. -/
theorem Gn.some_ (h : Gn w B ls us v) (hf : ∀ (u : Value) (k : Nat) (xs : List Value), w.ownsRow B 5 1 u k xs → ∃ xs', w'.ownsRow B 5 1 u k xs') (hb : ∀ k, v.ownBlock = some k → w'.heap[k]? = w.heap[k]?) : Gn w' B ls us v := by
  obtain ⟨ns, e, hr⟩ := h.r
  refine ⟨h.ul, ⟨ns, e, row_block hr hb⟩, fun i l u hl hu => ?_⟩
  obtain ⟨b, c, xs, e, hx⟩ := h.f i l u hl hu
  obtain ⟨xs', hx'⟩ := hf u l xs hx
  exact ⟨b, c, xs', e, hx'⟩
theorem Gn.next (h : Gn w B ls us v) (hb : Below w.heap.size w w') : Gn w' B ls us v := by
  obtain ⟨ns, e, hr⟩ := h.r
  exact h.some_ (fun u k xs hx => ⟨xs, row_next hx hb⟩) fun k hk => hb.block k (hr.lt k hk).2
/-- A name is written over. -/
theorem Gn.name (h : Gn w B ls us (.slice (some ⟨g, 0, none⟩) n c)) {i : Nat} (hi : i < ls.length) (nm : ByteArray) : Gn (w.setCell ⟨g, i * 2, none⟩ (.string nm)) B ls us (.slice (some ⟨g, 0, none⟩) n c) := by
  obtain ⟨ns, e, hr⟩ := h.r
  obtain ⟨_, c', hv⟩ := row_slice hr
  injection hv with _ hn _
  subst hn
  have hnl : ns.length = ls.length := by rw [← h.ul, ← e, List.length_map]
  obtain ⟨p, hp⟩ : ∃ p, ns[i]? = some p := ⟨_, List.getElem?_eq_getElem (by omega)⟩
  refine ⟨h.ul, ⟨ns.set i (nm, p.2), ?_, ?_⟩, fun j l u hl hu => ?_⟩
  · rw [← e, List.map_set]
    refine List.ext_getElem? fun j => ?_
    by_cases hj : i = j
    · subst hj
      rw [List.getElem?_set_self (by rw [List.length_map]; omega), List.getElem?_map, hp]
      rfl
    · rw [List.getElem?_set_ne hj]
  · rw [nc_set _ _ _ _ hp]
    exact row_put hr _
  · obtain ⟨b, c2, xs, e2, hx⟩ := h.f j l u hl hu
    exact ⟨b, c2, xs, e2, row_block hx fun k hk => Below.heap_setCell w _ _ k fun e3 => row_apart hx hr (show (5 : TypeId) ≠ 37 by decide) hk (by rw [e3]; rfl)⟩
end
end Go.Proofs.Ytebeefkibbbkdaa
/- SimfsScripts: gone walked. -/
namespace Go.Proofs.Ytebeefkibbbkdaa
open Go.RowKit Go.Maps

theorem row_at2 {w : World} {e : TypeId} {B n z i g c : Nat} {u : Value} {xs : List Value} (h : w.ownsRow B e z (.slice (some ⟨g, 0, none⟩) n c) n xs) (hn : 0 < n) (hu : xs[i]? = some u) : w.cell? ⟨g, i, none⟩ = some u ∧ w.frozen? ⟨g, i, none⟩ = false := row_atq (row_zeroq h) hn hu
set_option maxRecDepth 100000 in
set_option maxHeartbeats 8000000 in
theorem gone_any (B E n c : Nat) (bA : Option Addr) (fs : List FE) (us : List Value) (w : World) (h : FLs w B fs us (.slice bA n c)) (hn : fs.length = n) (hE1 : ∀ k, (Value.slice bA n c).ownBlock = some k → k < E) (hE2 : ∀ (i : Nat) (u : Value), us[i]? = some u → ∀ k, u.ownBlock = some k → k < E) (hBw : B ≤ w.heap.size) (hnm : n ≤ 99999999) (hsm : ∀ p ∈ fs, p.2.length ≤ 1073741824) :
    Calls Try.prog 103 #[.slice bA n c] w fun e w' => e = .returned (.int .i64 ((n + 64 : Nat) : Int)) ∧ Chg (fun b => B ≤ b ∧ b < E) w w' := by
  obtain ⟨i1, hi1, hz1, hs1, hy1⟩ := info_parts info_file
  obtain ⟨i2, hi2, hz2, hs2, hy2⟩ := info_parts info_u8
  have hG := h.gn
  obtain ⟨ls, hls⟩ : ∃ ls, (fs.map fun p : FE => p.2.length) = ls := ⟨_, rfl⟩
  rw [hls] at hG
  have hlsn : ls.length = n := by rw [← hls, List.length_map]; exact hn
  have hlsm : ∀ (i l : Nat), ls[i]? = some l → l ≤ 1073741824 := fun i l hl => by
    rw [← hls, List.getElem?_map] at hl
    cases hp : fs[i]? with
    | none => rw [hp] at hl; cases hl
    | some p => rw [hp] at hl; injection hl with hl; subst hl; exact hsm p (List.mem_of_getElem? hp)
  have H := Lib.hid (And.intro hlsn (And.intro hlsm (And.intro hE1 (And.intro hE2 (And.intro hBw hG)))))
  clear h hn hE1 hE2 hls hlsn hlsm hsm hBw hG
  go_enter Try.func103, Try.ntmps103
  go_wp2
  go_loopw [3] (fun v3 wr => ∃ i : Nat, i ≤ n ∧ v3 = .int .i64 i ∧ Gn wr B ls us (.slice bA n c) ∧ Chg (fun b => B ≤ b ∧ b < E) w wr) (fun v3 _ => n - (intOf v3).toNat)
  case atStart => exact ⟨0, Nat.zero_le _, rfl, H.out.2.2.2.2.2, Chg.refl _ _⟩
  case round =>
    obtain ⟨i, hi, rfl, hG, hC⟩ := hrel
    by_cases hlt : i < n
    · have hi0 : (0 : Int) ≤ i := by omega
      have hi1' : (i : Int) < n := by omega
      obtain ⟨l, hl⟩ : ∃ l, ls[i]? = some l := ⟨_, List.getElem?_eq_getElem (by rw [H.out.1]; exact hlt)⟩
      obtain ⟨u, hu⟩ : ∃ u, us[i]? = some u := ⟨_, List.getElem?_eq_getElem (by rw [hG.ul, H.out.1]; exact hlt)⟩
      obtain ⟨ub, uc, xs0, rfl, hx0⟩ := hG.f i l u hl hu
      have hlm := H.out.2.1 i l hl
      have hcap := row_cap hx0
      obtain ⟨g0, rfl⟩ : ∃ g0, bA = some ⟨g0, 0, none⟩ := by
        obtain ⟨ns, _, hr⟩ := hG.r
        rw [H.out.1] at hr
        obtain ⟨g, c', e, _⟩ := Own.of_row hr (by omega)
        injection e with e1
        exact ⟨g, e1⟩
      have HCC : Hid (∀ (v : World), Gn v B ls us (.slice (some ⟨g0, 0, none⟩) n c) → (∃ nm, v.cell? ⟨g0, i * 2, none⟩ = some (.string nm)) ∧ v.cell? ⟨g0, i * 2 + 1, none⟩ = some (.slice ub l uc) ∧ v.frozen? ⟨g0, i * 2, none⟩ = false ∧ g0 < v.heap.size) := fun v hv => by
        obtain ⟨ns, e, hr⟩ := hv.r
        rw [H.out.1] at hr
        have hnl : ns[i]? = some (ns[i]'(by have := congrArg List.length e; rw [List.length_map, hv.ul, H.out.1] at this; omega)) := List.getElem?_eq_getElem _
        obtain ⟨p, hp⟩ : ∃ p, ns[i]? = some p := ⟨_, hnl⟩
        obtain ⟨h1, h2⟩ := nc_get ns i p hp
        have hp2 : p.2 = .slice ub l uc := by
          have := hu
          rw [← e, List.getElem?_map, hp] at this
          injection this
        rw [hp2] at h2
        exact ⟨⟨_, (row_at2 hr (by omega) h1).1⟩, (row_at2 hr (by omega) h2).1, (row_at2 hr (by omega) h1).2, (hr.lt g0 rfl).2⟩
      obtain ⟨⟨nm0, hc0⟩, hc1, hcf, hcl⟩ := HCC.out wr hG
      have HI := Lib.hid (And.intro hl (And.intro hu (And.intro hG hC)))
      clear hl hG hC hc0 hcf hcl hx0
      go_wp2
      go_loopw [4] (fun v4 wx => ∃ k : Nat, k ≤ l ∧ v4 = .int .i64 k ∧ Gn wx B ls us (.slice (some ⟨g0, 0, none⟩) n c) ∧ Chg (fun b => B ≤ b ∧ b < E) w wx) (fun v4 _ => l - (intOf v4).toNat)
      case atStart => exact ⟨0, Nat.zero_le _, rfl, HI.out.2.2.1, HI.out.2.2.2⟩
      case round =>
        obtain ⟨k, hk, rfl, hG, hC⟩ := hrel
        clear hc1
        obtain ⟨_, hc1, _, _⟩ := HCC.out _ hG
        by_cases hkl : k < l
        · obtain ⟨ub', uc', xs1, e, hx1⟩ := hG.f i l _ HI.out.1 HI.out.2.1
          injection e with e1 _ e2
          subst e1 e2
          obtain ⟨gb, cb, e, _, _, ho⟩ := Own.of_row hx1 (by omega)
          injection e with e1 _ e2
          subst e1 e2
          have hk0 : (0 : Int) ≤ k := by omega
          have hk1 : (k : Int) < l := by omega
          have hxl : xs1.length = l := by have := hx1.1; simpa using this
          obtain ⟨x0, hx0⟩ : ∃ x0, wr.cell? ⟨gb, k, none⟩ = some x0 := ⟨_, ho.cell (i := k) (by omega)⟩
          have hxf := ho.free k
          have hgl := ho.lt
          have hgB := ho.1
          have hgE := H.out.2.2.2.1 i _ HI.out.2.1 gb rfl
          have HW := Lib.hid (And.intro hG (And.intro hC (And.intro hx1 (And.intro hgB hgE))))
          clear hG hC hx1 ho hxl
          go_wp2
          go_roundw
          case rel =>
            obtain ⟨k1, k2, k3, k4, k5⟩ := HW.out
            refine ⟨k + 1, by omega, by go_num, k1.some_ (fun u m xs hx => row_some_set hx gb k _) (fun b hb => ?_), k2.setCell (p := ⟨gb, k, none⟩) (.inl ⟨k4, k5⟩) _⟩
            obtain ⟨ns, _, hr⟩ := k1.r
            exact Below.heap_setCell _ ⟨gb, k, none⟩ _ b fun e => row_apart k3 hr (show (5 : TypeId) ≠ 37 by decide) rfl (by rw [hb, e])
          case measure => simp [intOf]; omega
        · have HW := Lib.hid (And.intro hG hC)
          clear hG hC
          go_wp2
          go_loopw [5, 6] (fun v5 v6 wx => ∃ (q : Nat) (xs : List Value), q ≤ 64 ∧ v6 = .int .i64 q ∧ wx.ownsRow B 5 1 v5 (l + q) xs ∧ Gn wx B ls us (.slice (some ⟨g0, 0, none⟩) n c) ∧ Chg (fun b => B ≤ b ∧ b < E) w wx ∧ ∀ k, v5.ownBlock = some k → (B ≤ k ∧ k < E) ∨ w.heap.size ≤ k) (fun _ v6 _ => 64 - (intOf v6).toNat)
          case atStart =>
            obtain ⟨ub', uc', xs1, e, hx1⟩ := HW.out.1.f i l _ HI.out.1 HI.out.2.1
            injection e with e1 _ e2
            subst e1 e2
            exact ⟨0, xs1, by omega, rfl, hx1, HW.out.1, HW.out.2, fun k hk => .inl ⟨(hx1.lt k hk).1, H.out.2.2.2.1 i _ HI.out.2.1 k hk⟩⟩
          case round =>
            obtain ⟨q, xs, hq, rfl, hr, hG, hC, hb5⟩ := hrel
            obtain ⟨b5, c5, rfl⟩ := row_slice hr
            by_cases hql : q < 64
            · have hq1 : (q : Int) < 64 := by omega
              have HR := Lib.hid (And.intro hr (And.intro hG (And.intro hC hb5)))
              have hBr := Lib.hid (show B ≤ wr.heap.size from Nat.le_trans H.out.2.2.2.2.1 hC.size)
              clear hr hG hC hb5
              go_wp2_with (first
                | (at_builtin
                   refine wpList_app_some rfl (.tmp 41) (.tmp 42) _ rfl B 5 i2 _ Try.underlying22 hi2 hz2 hs2 hy2 rfl (.slice b5 (l + q) c5) (l + q) xs rfl (HR.out.1.alloc _) (wr.heap.size + 1) ⟨wr.heap.size, 0, none⟩ 1 1 [.int .u8 80] rfl rfl (rd_new _ _ _) (by simp [Value.oneCell']) (by unfold maxLen; omega) (by omega) (by have := hBr.out; simp <;> omega) ?_
                   intro v7 w7 hown7 hg7 hor7 hsm7
                   have H7 := Lib.hid (And.intro hown7 (And.intro hg7 (And.intro hor7 hsm7)))
                   clear hown7 hg7 hor7 hsm7))
              go_roundw
              case rel =>
                obtain ⟨m1, m2, m3, m4⟩ := H7.out
                obtain ⟨k1, k2, k3, k4⟩ := HR.out
                have ha := Below.al wr (.cells #[.int .u8 80] 5)
                have hG7 := k2.next ha
                have hC7 := k3.next ha
                refine ⟨q + 1, _, by omega, by go_num, m1, hG7.some_ (fun u m ys hy => m4 B _ u m ys hy) (fun b hb => ?_), hC7.grown m2 (fun k hk => k4 k hk), fun k hk => ?_⟩
                · obtain ⟨ns, _, hrr⟩ := hG7.r
                  refine m2.block b (hrr.lt b hb).2 fun e => ?_
                  exact row_apart (k1.alloc (.cells #[.int .u8 80] 5)) hrr (show (5 : TypeId) ≠ 37 by decide) e.symm hb
                · rcases m3 with e | e
                  · exact k4 k (e ▸ hk)
                  · rw [e] at hk
                    injection hk with hk
                    have := hC7.size
                    exact .inr (by omega)
              case measure => simp [intOf]; omega
            · have HR := Lib.hid (And.intro hG hC)
              obtain ⟨⟨nm1, hd0⟩, hd1, hdf, hdl⟩ := HCC.out _ hG
              clear hr hG hC hb5 hc1
              go_wp2
              go_roundw
              case rel =>
                have hg0 := H.out.2.2.1 g0 rfl
                obtain ⟨ns, _, hrr⟩ := HR.out.1.r
                have hgB := (hrr.lt g0 rfl).1
                exact ⟨i + 1, by omega, by go_num, HR.out.1.name (by rw [H.out.1]; exact hlt) _, HR.out.2.setCell (p := ⟨g0, i * 2, none⟩) (.inl ⟨hgB, hg0⟩) _⟩
              case measure => simp [intOf]; omega
    · have HW := Lib.hid (And.intro hG hC)
      clear hG hC
      go_wp2
      go_loopw [7, 8] (fun v7 v8 wx => ∃ (q : Nat) (xs : List Value), q ≤ 64 ∧ v8 = .int .i64 q ∧ wx.ownsRow B 37 2 v7 (n + q) xs ∧ Chg (fun b => B ≤ b ∧ b < E) w wx ∧ ∀ k, v7.ownBlock = some k → (B ≤ k ∧ k < E) ∨ w.heap.size ≤ k) (fun _ v8 _ => 64 - (intOf v8).toNat)
      case atStart =>
        obtain ⟨ns, _, hr⟩ := HW.out.1.r
        rw [H.out.1] at hr
        exact ⟨0, _, by omega, rfl, hr, HW.out.2, fun k hk => .inl ⟨(hr.lt k hk).1, H.out.2.2.1 k hk⟩⟩
      case round =>
        obtain ⟨q, xs, hq, rfl, hr, hC, hb5⟩ := hrel
        obtain ⟨b5, c5, rfl⟩ := row_slice hr
        by_cases hql : q < 64
        · have hq1 : (q : Int) < 64 := by omega
          have HR := Lib.hid (And.intro hr (And.intro hC hb5))
          have hBr := Lib.hid (show B ≤ wr.heap.size from Nat.le_trans H.out.2.2.2.2.1 hC.size)
          clear hr hC hb5
          go_wp2_with (first
            | (at_builtin
               refine wpList_app _ rfl (.tmp 53) (.tmp 55) _ rfl B 37 i1 _ 2 40 Try.underlying31 hi1 hz1 hs1 hy1 rfl (by omega) (.slice b5 (n + q) c5) (n + q) xs rfl (HR.out.1.alloc _) _ _ 1 1 [.string ⟨#[109, 111, 114, 101]⟩, .slice none 0 0] rfl rfl (rd_new _ _ _) (by simp [Value.oneCell']) (by unfold maxLen; omega) (by omega) (by have := hBr.out; simp <;> omega) ?_
               intro v7 w7 hown7 hg7 hor7
               have H7 := Lib.hid (And.intro hown7 (And.intro hg7 hor7))
               clear hown7 hg7 hor7))
          go_roundw
          case rel =>
            obtain ⟨m1, m2, m3⟩ := H7.out
            obtain ⟨k1, k2, k3⟩ := HR.out
            have hC7 := k2.next (Below.al wr (.cells #[.string ⟨#[109, 111, 114, 101]⟩, .slice none 0 0] 37))
            refine ⟨q + 1, _, by omega, by go_num, m1, hC7.grown m2 (fun k hk => k3 k hk), fun k hk => ?_⟩
            rcases m3 with e | e
            · exact k3 k (e ▸ hk)
            · rw [e] at hk
              injection hk with hk
              have := hC7.size
              exact .inr (by omega)
          case measure => simp [intOf]; omega
        · have hq2 : q = 64 := by omega
          have HR := Lib.hid (And.intro hC hq2)
          clear hr hC hb5 hq2
          go_wp2
          go_ret
          rw [HR.out.2]
          exact ⟨rfl, HR.out.1⟩
end Go.Proofs.Ytebeefkibbbkdaa
/- SimfsScripts: a step that changes the disks. -/
namespace Go.Proofs.Ytebeefkibbbkdaa
open Go.RowKit Go.Maps

/-- .. and the step's own block. -/
structure Bs (W w : World) (S : Nat → Prop) (d : Nat) (s1 : Dk) (N : Nat) (L : Nat → Nat) (rb : Nat) (s2 : Dk) (bb sb : Nat) (cells : Array Value) : Prop where
  bo : Bo W w S d s1 N L rb s2 bb
  bx : Box w sb 52 cells
  nS : ¬ S sb
  nL : L sb = 0
section
variable {W w w' : World} {S : Nat → Prop} {d rb N M bb sb n c : Nat} {s1 s2 s1' s2' : Dk} {L L' : Nat → Nat} {cells : Array Value} {A : Option Addr} {bs : List UInt8}
theorem Bs.start (h : Bo W w S d s1 N L rb s2 bb) (cells : Array Value) : Bs W (w.alloc (.cells cells 52)) S d s1 N L rb s2 bb w.heap.size cells :=
  ⟨h.next (Below.al w _), Box.new w _ _, fun hb => by have := h.lv.lt _ hb; omega, Classical.byContradiction fun hne => by have := h.rd.lt _ hne; omega⟩
theorem Bs.next (h : Bs W w S d s1 N L rb s2 bb sb cells) (hb : Below w.heap.size w w') : Bs W w' S d s1 N L rb s2 bb sb cells := ⟨h.bo.next hb, h.bx.next hb, h.nS, h.nL⟩
theorem Bs.a (h : Bs W w S d s1 N L rb s2 bb sb cells) (ht : Lv.Then W w w' S d s1' M) : ∃ S', Bs W w' S' d s1' M L rb s2 bb sb cells := by
  obtain ⟨S', h1, h2, h3⟩ := ht
  refine ⟨S', ⟨h1, h.bo.rd.chgq h2 h.bo.ap, h.bo.lw, fun b hb => ?_, h.bo.bx.chg h2 h.bo.bS, fun hb => ?_, h.bo.bL, h.bo.bW⟩, h.bx.chg h2 h.nS, fun hb => ?_, h.nL⟩
  · rcases h3 b hb with h4 | h4
    · exact h.bo.ap b h4
    · refine Classical.byContradiction fun hne => ?_
      have := h.bo.rd.lt b hne
      omega
  · rcases h3 bb hb with h4 | h4
    · exact h.bo.bS h4
    · have := h.bo.bx.lt
      omega
  · rcases h3 sb hb with h4 | h4
    · exact h.nS h4
    · have := h.bx.lt
      omega
theorem Bs.b (h : Bs W w S d s1 N L rb s2 bb sb cells) (hr : RDk w' L' rb s2') (hex : Ex w w' L L') : Bs W w' S d s1 N L' rb s2' bb sb cells := ⟨h.bo.b hr hex, h.bx.chg hex.chg fun e => e h.nL, h.nS, hex.offb h.nL h.bx.lt⟩
theorem Bo.out (h : Bo W w S d s1 N L rb s2 bb) (hA : Rd W W.heap.size A (bv bs)) : Out w (fun b => L b ≠ 0) A bs := by
  refine ⟨fun j u hj => ?_, fun ad e hne hs => ?_⟩
  · obtain ⟨ad, e, hb, hc⟩ := hA j u hj
    exact ⟨ad, e, Nat.lt_of_lt_of_le hb h.bel.size, by rw [← hc]; exact cell_heap (by rw [add_block]; exact h.bel.block _ hb)⟩
  · obtain ⟨x, r, rfl⟩ : ∃ x r, bs = x :: r := by cases bs; exact absurd rfl hne; exact ⟨_, _, rfl⟩
    obtain ⟨ad', e', hb, _⟩ := hA 0 _ rfl
    rw [e] at e'
    injection e' with e'
    subst e'
    have := h.lw _ hs
    omega
theorem cell_nine {k x y : Int} {nm nt : ByteArray} {A2 : Option Addr} {n2 c2 : Nat} (h : Bs W w S d s1 N L rb s2 bb sb #[.int .i64 k, .string nm, .string nt, .int .i64 x, .int .i64 y, .slice A n c, .slice A2 n2 c2]) :
    w.cell? ⟨bb, 0, none⟩ = some (.pointer (some ⟨d, 0, none⟩)) ∧ w.cell? ⟨bb, 1, none⟩ = some (.pointer (some ⟨rb, 0, none⟩)) ∧ w.cell? ⟨sb, 0, none⟩ = some (.int .i64 k) ∧ w.cell? ⟨sb, 1, none⟩ = some (.string nm) ∧ w.cell? ⟨sb, 2, none⟩ = some (.string nt) ∧ w.cell? ⟨sb, 3, none⟩ = some (.int .i64 x) ∧ w.cell? ⟨sb, 4, none⟩ = some (.int .i64 y) ∧ w.cell? ⟨sb, 5, none⟩ = some (.slice A n c) ∧ w.cell? ⟨sb, 6, none⟩ = some (.slice A2 n2 c2) :=
  ⟨h.bo.bx.cell 0, h.bo.bx.cell 1, h.bx.cell 0, h.bx.cell 1, h.bx.cell 2, h.bx.cell 3, h.bx.cell 4, h.bx.cell 5, h.bx.cell 6⟩
end
set_option maxRecDepth 100000 in
set_option maxHeartbeats 8000000 in
theorem step1 (W : World) (S : Nat → Prop) (d : Nat) (s : Dk) (N : Nat) (L : Nat → Nat) (rb bb : Nat) (st : SC) (w : World) (h : Bo W w S d s N L rb s bb) (hN : N ≤ 999999) (hfm : s.files.length ≤ 999999) (hk : st.kind = 1) (hs : st.Ok W W.heap.size) (hb : st.bs.length ≤ 1048576) :
    Calls Try.prog 18 #[.pointer (some ⟨bb, 0, none⟩), .agg st.cells.toArray] w fun e w' => e = .returned (.bool true) ∧ ∃ S' L', Bo W w' S' d (chS st s) (N + 1) L' rb (chS st s) bb := by
  obtain ⟨ev, hev⟩ : ∃ ev, chE st s = ev := ⟨_, rfl⟩
  obtain ⟨sv, hsv⟩ : ∃ sv, chS st s = sv := ⟨_, rfl⟩
  have HCH := Lib.hid (fun w1 (S1 : Nat → Prop) (h1 : Lv W w1 S1 d s N) => change_any W w1 S1 d s N st h1 (by omega) hs (by omega) (by omega))
  rw [hev, hsv] at HCH
  rw [hsv]
  obtain ⟨k, nm, nt, x, y, A, bs, c, A2, ps, c2⟩ := st
  obtain ⟨n, hn⟩ : ∃ n, bs.length = n := ⟨_, rfl⟩
  obtain ⟨n2, hn2⟩ : ∃ n2, ps.length = n2 := ⟨_, rfl⟩
  obtain ⟨hA, _, hz1, hz2, _⟩ := hs
  dsimp only at hA hz1 hz2 hk hb
  subst hk
  have HEV := Lib.hid (show createE nm s = ev ∧ createS nm s = sv from ⟨by rw [← hev]; rfl, by rw [← hsv]; rfl⟩)
  simp only [SC.cells, hn, hn2] at HCH ⊢
  rw [hn] at hb
  have H := Lib.hid (And.intro h.lv.2.2.2 (And.intro hN (And.intro hfm (And.intro hz1 (And.intro hz2 (And.intro hn hA))))))
  have M0 := Lib.hid (Bs.start h #[.int .i64 1, .string nm, .string nt, .int .i64 x, .int .i64 y, .slice A n c, .slice A2 n2 c2])
  have hxc := M0.out.bx.cell
  clear h hN hfm hz1 hz2 hn hn2 hev hsv hA
  go_enter Try.func18, Try.ntmps18
  go_upto_region 9 with fail
  have hs0 := cell_nine M0.out
  have M0d := Lib.hid (M0.out.next (below_drew (Below.refl _ _)))
  have hs1 := cell_nine M0d.out
  go_region_held3 (fun w' => w'.cell? ⟨bb, 0, none⟩ = some (.pointer (some ⟨d, 0, none⟩)) ∧ w'.cell? ⟨bb, 1, none⟩ = some (.pointer (some ⟨rb, 0, none⟩)) ∧ w'.cell? ⟨w.heap.size, 0, none⟩ = some (.int .i64 1) ∧ w'.cell? ⟨w.heap.size, 1, none⟩ = some (.string nm) ∧ w'.cell? ⟨w.heap.size, 2, none⟩ = some (.string nt) ∧ w'.cell? ⟨w.heap.size, 3, none⟩ = some (.int .i64 x) ∧ w'.cell? ⟨w.heap.size, 4, none⟩ = some (.int .i64 y) ∧ w'.cell? ⟨w.heap.size, 5, none⟩ = some (.slice A n c) ∧ w'.cell? ⟨w.heap.size, 6, none⟩ = some (.slice A2 n2 c2))
    (first | with_reducible exact hs0 | with_reducible exact hs1 | with_reducible exact hs2)
    (first
      | (go_at_call 59
         refine (HCH.out _ S M0d.out.bo.lv).mono ?_
         rintro e w1 ⟨rfl, h1⟩
         obtain ⟨S1, hM1⟩ := M0d.out.a h1
         have M1 := Lib.hid hM1
         have hs2 := cell_nine M1.out
         clear h1 hM1))
  clear hs0 hs1 hxc
  have hxc := M1.out.bx.cell
  go_upto_region 10 with fail
  have M1d := Lib.hid (M1.out.next (below_drew (Below.refl _ _)))
  have hs3 := cell_nine M1d.out
  go_region_held3 (fun w' => w'.cell? ⟨bb, 0, none⟩ = some (.pointer (some ⟨d, 0, none⟩)) ∧ w'.cell? ⟨bb, 1, none⟩ = some (.pointer (some ⟨rb, 0, none⟩)) ∧ w'.cell? ⟨w.heap.size, 0, none⟩ = some (.int .i64 1) ∧ w'.cell? ⟨w.heap.size, 1, none⟩ = some (.string nm) ∧ w'.cell? ⟨w.heap.size, 2, none⟩ = some (.string nt) ∧ w'.cell? ⟨w.heap.size, 3, none⟩ = some (.int .i64 x) ∧ w'.cell? ⟨w.heap.size, 4, none⟩ = some (.int .i64 y) ∧ w'.cell? ⟨w.heap.size, 5, none⟩ = some (.slice A n c) ∧ w'.cell? ⟨w.heap.size, 6, none⟩ = some (.slice A2 n2 c2))
    (first | with_reducible exact hs2 | with_reducible exact hs3 | with_reducible exact hs4)
    (first
      | (go_at_call 60
         refine (do1 rb L s N n c nm nt x y A bs _ M1d.out.bo.rd H.out.1 (by have := H.out.2.1; omega) (by have := H.out.2.2.1; omega) H.out.2.2.2.1 H.out.2.2.2.2.1 H.out.2.2.2.2.2.1 (by omega)).mono ?_
         rintro e w2 ⟨rfl, L2, h1, h2⟩
         rw [HEV.out.1]
         rw [HEV.out.2] at h1
         have M2 := Lib.hid (M1d.out.b h1 h2)
         have hs4 := cell_nine M2.out
         clear h1 h2))
  go_wp2
  go_ret
  exact ⟨rfl, S1, L2, M2.out.bo⟩
set_option maxRecDepth 100000 in
set_option maxHeartbeats 8000000 in
theorem step2 (W : World) (S : Nat → Prop) (d : Nat) (s : Dk) (N : Nat) (L : Nat → Nat) (rb bb : Nat) (st : SC) (w : World) (h : Bo W w S d s N L rb s bb) (hN : N ≤ 999999) (hfm : s.files.length ≤ 999999) (hk : st.kind = 2) (hs : st.Ok W W.heap.size) (hb : st.bs.length ≤ 1048576) :
    Calls Try.prog 18 #[.pointer (some ⟨bb, 0, none⟩), .agg st.cells.toArray] w fun e w' => e = .returned (.bool true) ∧ ∃ S' L', Bo W w' S' d (chS st s) (N + 1) L' rb (chS st s) bb := by
  obtain ⟨ev, hev⟩ : ∃ ev, chE st s = ev := ⟨_, rfl⟩
  obtain ⟨sv, hsv⟩ : ∃ sv, chS st s = sv := ⟨_, rfl⟩
  have HCH := Lib.hid (fun w1 (S1 : Nat → Prop) (h1 : Lv W w1 S1 d s N) => change_any W w1 S1 d s N st h1 (by omega) hs (by omega) (by omega))
  rw [hev, hsv] at HCH
  rw [hsv]
  obtain ⟨k, nm, nt, x, y, A, bs, c, A2, ps, c2⟩ := st
  obtain ⟨n, hn⟩ : ∃ n, bs.length = n := ⟨_, rfl⟩
  obtain ⟨n2, hn2⟩ : ∃ n2, ps.length = n2 := ⟨_, rfl⟩
  obtain ⟨hA, _, hz1, hz2, _⟩ := hs
  dsimp only at hA hz1 hz2 hk hb
  subst hk
  have HEV := Lib.hid (show appendE nm bs s = ev ∧ appendS nm bs s = sv from ⟨by rw [← hev]; rfl, by rw [← hsv]; rfl⟩)
  simp only [SC.cells, hn, hn2] at HCH ⊢
  rw [hn] at hb
  have H := Lib.hid (And.intro h.lv.2.2.2 (And.intro hN (And.intro hfm (And.intro hz1 (And.intro hz2 (And.intro hn hA))))))
  have M0 := Lib.hid (Bs.start h #[.int .i64 2, .string nm, .string nt, .int .i64 x, .int .i64 y, .slice A n c, .slice A2 n2 c2])
  have hxc := M0.out.bx.cell
  clear h hN hfm hz1 hz2 hn hn2 hev hsv hA
  go_enter Try.func18, Try.ntmps18
  go_upto_region 9 with fail
  have hs0 := cell_nine M0.out
  have M0d := Lib.hid (M0.out.next (below_drew (Below.refl _ _)))
  have hs1 := cell_nine M0d.out
  go_region_held3 (fun w' => w'.cell? ⟨bb, 0, none⟩ = some (.pointer (some ⟨d, 0, none⟩)) ∧ w'.cell? ⟨bb, 1, none⟩ = some (.pointer (some ⟨rb, 0, none⟩)) ∧ w'.cell? ⟨w.heap.size, 0, none⟩ = some (.int .i64 2) ∧ w'.cell? ⟨w.heap.size, 1, none⟩ = some (.string nm) ∧ w'.cell? ⟨w.heap.size, 2, none⟩ = some (.string nt) ∧ w'.cell? ⟨w.heap.size, 3, none⟩ = some (.int .i64 x) ∧ w'.cell? ⟨w.heap.size, 4, none⟩ = some (.int .i64 y) ∧ w'.cell? ⟨w.heap.size, 5, none⟩ = some (.slice A n c) ∧ w'.cell? ⟨w.heap.size, 6, none⟩ = some (.slice A2 n2 c2))
    (first | with_reducible exact hs0 | with_reducible exact hs1 | with_reducible exact hs2)
    (first
      | (go_at_call 59
         refine (HCH.out _ S M0d.out.bo.lv).mono ?_
         rintro e w1 ⟨rfl, h1⟩
         obtain ⟨S1, hM1⟩ := M0d.out.a h1
         have M1 := Lib.hid hM1
         have hs2 := cell_nine M1.out
         clear h1 hM1))
  clear hs0 hs1 hxc
  have hxc := M1.out.bx.cell
  go_upto_region 10 with fail
  have M1d := Lib.hid (M1.out.next (below_drew (Below.refl _ _)))
  have hs3 := cell_nine M1d.out
  go_region_held3 (fun w' => w'.cell? ⟨bb, 0, none⟩ = some (.pointer (some ⟨d, 0, none⟩)) ∧ w'.cell? ⟨bb, 1, none⟩ = some (.pointer (some ⟨rb, 0, none⟩)) ∧ w'.cell? ⟨w.heap.size, 0, none⟩ = some (.int .i64 2) ∧ w'.cell? ⟨w.heap.size, 1, none⟩ = some (.string nm) ∧ w'.cell? ⟨w.heap.size, 2, none⟩ = some (.string nt) ∧ w'.cell? ⟨w.heap.size, 3, none⟩ = some (.int .i64 x) ∧ w'.cell? ⟨w.heap.size, 4, none⟩ = some (.int .i64 y) ∧ w'.cell? ⟨w.heap.size, 5, none⟩ = some (.slice A n c) ∧ w'.cell? ⟨w.heap.size, 6, none⟩ = some (.slice A2 n2 c2))
    (first | with_reducible exact hs2 | with_reducible exact hs3 | with_reducible exact hs4)
    (first
      | (go_at_call 60
         refine (do2 rb L s N n c nm nt x y A bs _ M1d.out.bo.rd H.out.1 (by have := H.out.2.1; omega) (by have := H.out.2.2.1; omega) H.out.2.2.2.1 H.out.2.2.2.2.1 H.out.2.2.2.2.2.1 (by omega) (M1d.out.bo.out H.out.2.2.2.2.2.2)).mono ?_
         rintro e w2 ⟨rfl, L2, h1, h2⟩
         rw [HEV.out.1]
         rw [HEV.out.2] at h1
         have M2 := Lib.hid (M1d.out.b h1 h2)
         have hs4 := cell_nine M2.out
         clear h1 h2))
  go_wp2
  go_ret
  exact ⟨rfl, S1, L2, M2.out.bo⟩
set_option maxRecDepth 100000 in
set_option maxHeartbeats 8000000 in
theorem step3 (W : World) (S : Nat → Prop) (d : Nat) (s : Dk) (N : Nat) (L : Nat → Nat) (rb bb : Nat) (st : SC) (w : World) (h : Bo W w S d s N L rb s bb) (hN : N ≤ 999999) (hfm : s.files.length ≤ 999999) (hk : st.kind = 3) (hs : st.Ok W W.heap.size) (hb : st.bs.length ≤ 1048576) :
    Calls Try.prog 18 #[.pointer (some ⟨bb, 0, none⟩), .agg st.cells.toArray] w fun e w' => e = .returned (.bool true) ∧ ∃ S' L', Bo W w' S' d (chS st s) (N + 1) L' rb (chS st s) bb := by
  obtain ⟨ev, hev⟩ : ∃ ev, chE st s = ev := ⟨_, rfl⟩
  obtain ⟨sv, hsv⟩ : ∃ sv, chS st s = sv := ⟨_, rfl⟩
  have HCH := Lib.hid (fun w1 (S1 : Nat → Prop) (h1 : Lv W w1 S1 d s N) => change_any W w1 S1 d s N st h1 (by omega) hs (by omega) (by omega))
  rw [hev, hsv] at HCH
  rw [hsv]
  obtain ⟨k, nm, nt, x, y, A, bs, c, A2, ps, c2⟩ := st
  obtain ⟨n, hn⟩ : ∃ n, bs.length = n := ⟨_, rfl⟩
  obtain ⟨n2, hn2⟩ : ∃ n2, ps.length = n2 := ⟨_, rfl⟩
  obtain ⟨hA, _, hz1, hz2, _⟩ := hs
  dsimp only at hA hz1 hz2 hk hb
  subst hk
  have HEV := Lib.hid (show truncE nm y s = ev ∧ truncS nm y s = sv from ⟨by rw [← hev]; rfl, by rw [← hsv]; rfl⟩)
  simp only [SC.cells, hn, hn2] at HCH ⊢
  rw [hn] at hb
  have H := Lib.hid (And.intro h.lv.2.2.2 (And.intro hN (And.intro hfm (And.intro hz1 (And.intro hz2 (And.intro hn hA))))))
  have M0 := Lib.hid (Bs.start h #[.int .i64 3, .string nm, .string nt, .int .i64 x, .int .i64 y, .slice A n c, .slice A2 n2 c2])
  have hxc := M0.out.bx.cell
  clear h hN hfm hz1 hz2 hn hn2 hev hsv hA
  go_enter Try.func18, Try.ntmps18
  go_upto_region 9 with fail
  have hs0 := cell_nine M0.out
  have M0d := Lib.hid (M0.out.next (below_drew (Below.refl _ _)))
  have hs1 := cell_nine M0d.out
  go_region_held3 (fun w' => w'.cell? ⟨bb, 0, none⟩ = some (.pointer (some ⟨d, 0, none⟩)) ∧ w'.cell? ⟨bb, 1, none⟩ = some (.pointer (some ⟨rb, 0, none⟩)) ∧ w'.cell? ⟨w.heap.size, 0, none⟩ = some (.int .i64 3) ∧ w'.cell? ⟨w.heap.size, 1, none⟩ = some (.string nm) ∧ w'.cell? ⟨w.heap.size, 2, none⟩ = some (.string nt) ∧ w'.cell? ⟨w.heap.size, 3, none⟩ = some (.int .i64 x) ∧ w'.cell? ⟨w.heap.size, 4, none⟩ = some (.int .i64 y) ∧ w'.cell? ⟨w.heap.size, 5, none⟩ = some (.slice A n c) ∧ w'.cell? ⟨w.heap.size, 6, none⟩ = some (.slice A2 n2 c2))
    (first | with_reducible exact hs0 | with_reducible exact hs1 | with_reducible exact hs2)
    (first
      | (go_at_call 59
         refine (HCH.out _ S M0d.out.bo.lv).mono ?_
         rintro e w1 ⟨rfl, h1⟩
         obtain ⟨S1, hM1⟩ := M0d.out.a h1
         have M1 := Lib.hid hM1
         have hs2 := cell_nine M1.out
         clear h1 hM1))
  clear hs0 hs1 hxc
  have hxc := M1.out.bx.cell
  go_upto_region 10 with fail
  have M1d := Lib.hid (M1.out.next (below_drew (Below.refl _ _)))
  have hs3 := cell_nine M1d.out
  go_region_held3 (fun w' => w'.cell? ⟨bb, 0, none⟩ = some (.pointer (some ⟨d, 0, none⟩)) ∧ w'.cell? ⟨bb, 1, none⟩ = some (.pointer (some ⟨rb, 0, none⟩)) ∧ w'.cell? ⟨w.heap.size, 0, none⟩ = some (.int .i64 3) ∧ w'.cell? ⟨w.heap.size, 1, none⟩ = some (.string nm) ∧ w'.cell? ⟨w.heap.size, 2, none⟩ = some (.string nt) ∧ w'.cell? ⟨w.heap.size, 3, none⟩ = some (.int .i64 x) ∧ w'.cell? ⟨w.heap.size, 4, none⟩ = some (.int .i64 y) ∧ w'.cell? ⟨w.heap.size, 5, none⟩ = some (.slice A n c) ∧ w'.cell? ⟨w.heap.size, 6, none⟩ = some (.slice A2 n2 c2))
    (first | with_reducible exact hs2 | with_reducible exact hs3 | with_reducible exact hs4)
    (first
      | (go_at_call 60
         refine (do3 rb L s N n c nm nt x y A bs _ M1d.out.bo.rd H.out.1 (by have := H.out.2.1; omega) (by have := H.out.2.2.1; omega) H.out.2.2.2.1 H.out.2.2.2.2.1 H.out.2.2.2.2.2.1 (by omega)).mono ?_
         rintro e w2 ⟨rfl, L2, h1, h2⟩
         rw [HEV.out.1]
         rw [HEV.out.2] at h1
         have M2 := Lib.hid (M1d.out.b h1 h2)
         have hs4 := cell_nine M2.out
         clear h1 h2))
  go_wp2
  go_ret
  exact ⟨rfl, S1, L2, M2.out.bo⟩
set_option maxRecDepth 100000 in
set_option maxHeartbeats 8000000 in
theorem step4 (W : World) (S : Nat → Prop) (d : Nat) (s : Dk) (N : Nat) (L : Nat → Nat) (rb bb : Nat) (st : SC) (w : World) (h : Bo W w S d s N L rb s bb) (hN : N ≤ 999999) (hfm : s.files.length ≤ 999999) (hk : st.kind = 4) (hs : st.Ok W W.heap.size) (hb : st.bs.length ≤ 1048576) :
    Calls Try.prog 18 #[.pointer (some ⟨bb, 0, none⟩), .agg st.cells.toArray] w fun e w' => e = .returned (.bool true) ∧ ∃ S' L', Bo W w' S' d (chS st s) (N + 1) L' rb (chS st s) bb := by
  obtain ⟨ev, hev⟩ : ∃ ev, chE st s = ev := ⟨_, rfl⟩
  obtain ⟨sv, hsv⟩ : ∃ sv, chS st s = sv := ⟨_, rfl⟩
  have HCH := Lib.hid (fun w1 (S1 : Nat → Prop) (h1 : Lv W w1 S1 d s N) => change_any W w1 S1 d s N st h1 (by omega) hs (by omega) (by omega))
  rw [hev, hsv] at HCH
  rw [hsv]
  obtain ⟨k, nm, nt, x, y, A, bs, c, A2, ps, c2⟩ := st
  obtain ⟨n, hn⟩ : ∃ n, bs.length = n := ⟨_, rfl⟩
  obtain ⟨n2, hn2⟩ : ∃ n2, ps.length = n2 := ⟨_, rfl⟩
  obtain ⟨hA, _, hz1, hz2, _⟩ := hs
  dsimp only at hA hz1 hz2 hk hb
  subst hk
  have HEV := Lib.hid (show syncE nm s = ev ∧ syncS nm s = sv from ⟨by rw [← hev]; rfl, by rw [← hsv]; rfl⟩)
  simp only [SC.cells, hn, hn2] at HCH ⊢
  rw [hn] at hb
  have H := Lib.hid (And.intro h.lv.2.2.2 (And.intro hN (And.intro hfm (And.intro hz1 (And.intro hz2 (And.intro hn hA))))))
  have M0 := Lib.hid (Bs.start h #[.int .i64 4, .string nm, .string nt, .int .i64 x, .int .i64 y, .slice A n c, .slice A2 n2 c2])
  have hxc := M0.out.bx.cell
  clear h hN hfm hz1 hz2 hn hn2 hev hsv hA
  go_enter Try.func18, Try.ntmps18
  go_upto_region 9 with fail
  have hs0 := cell_nine M0.out
  have M0d := Lib.hid (M0.out.next (below_drew (Below.refl _ _)))
  have hs1 := cell_nine M0d.out
  go_region_held3 (fun w' => w'.cell? ⟨bb, 0, none⟩ = some (.pointer (some ⟨d, 0, none⟩)) ∧ w'.cell? ⟨bb, 1, none⟩ = some (.pointer (some ⟨rb, 0, none⟩)) ∧ w'.cell? ⟨w.heap.size, 0, none⟩ = some (.int .i64 4) ∧ w'.cell? ⟨w.heap.size, 1, none⟩ = some (.string nm) ∧ w'.cell? ⟨w.heap.size, 2, none⟩ = some (.string nt) ∧ w'.cell? ⟨w.heap.size, 3, none⟩ = some (.int .i64 x) ∧ w'.cell? ⟨w.heap.size, 4, none⟩ = some (.int .i64 y) ∧ w'.cell? ⟨w.heap.size, 5, none⟩ = some (.slice A n c) ∧ w'.cell? ⟨w.heap.size, 6, none⟩ = some (.slice A2 n2 c2))
    (first | with_reducible exact hs0 | with_reducible exact hs1 | with_reducible exact hs2)
    (first
      | (go_at_call 59
         refine (HCH.out _ S M0d.out.bo.lv).mono ?_
         rintro e w1 ⟨rfl, h1⟩
         obtain ⟨S1, hM1⟩ := M0d.out.a h1
         have M1 := Lib.hid hM1
         have hs2 := cell_nine M1.out
         clear h1 hM1))
  clear hs0 hs1 hxc
  have hxc := M1.out.bx.cell
  go_upto_region 10 with fail
  have M1d := Lib.hid (M1.out.next (below_drew (Below.refl _ _)))
  have hs3 := cell_nine M1d.out
  go_region_held3 (fun w' => w'.cell? ⟨bb, 0, none⟩ = some (.pointer (some ⟨d, 0, none⟩)) ∧ w'.cell? ⟨bb, 1, none⟩ = some (.pointer (some ⟨rb, 0, none⟩)) ∧ w'.cell? ⟨w.heap.size, 0, none⟩ = some (.int .i64 4) ∧ w'.cell? ⟨w.heap.size, 1, none⟩ = some (.string nm) ∧ w'.cell? ⟨w.heap.size, 2, none⟩ = some (.string nt) ∧ w'.cell? ⟨w.heap.size, 3, none⟩ = some (.int .i64 x) ∧ w'.cell? ⟨w.heap.size, 4, none⟩ = some (.int .i64 y) ∧ w'.cell? ⟨w.heap.size, 5, none⟩ = some (.slice A n c) ∧ w'.cell? ⟨w.heap.size, 6, none⟩ = some (.slice A2 n2 c2))
    (first | with_reducible exact hs2 | with_reducible exact hs3 | with_reducible exact hs4)
    (first
      | (go_at_call 60
         refine (do4 rb L s N n c nm nt x y A bs _ M1d.out.bo.rd H.out.1 (by have := H.out.2.1; omega) (by have := H.out.2.2.1; omega) H.out.2.2.2.1 H.out.2.2.2.2.1 H.out.2.2.2.2.2.1 (by omega)).mono ?_
         rintro e w2 ⟨rfl, L2, h1, h2⟩
         rw [HEV.out.1]
         rw [HEV.out.2] at h1
         have M2 := Lib.hid (M1d.out.b h1 h2)
         have hs4 := cell_nine M2.out
         clear h1 h2))
  go_wp2
  go_ret
  exact ⟨rfl, S1, L2, M2.out.bo⟩
set_option maxRecDepth 100000 in
set_option maxHeartbeats 8000000 in
theorem step5 (W : World) (S : Nat → Prop) (d : Nat) (s : Dk) (N : Nat) (L : Nat → Nat) (rb bb : Nat) (st : SC) (w : World) (h : Bo W w S d s N L rb s bb) (hN : N ≤ 999999) (hfm : s.files.length ≤ 999999) (hk : st.kind = 5) (hs : st.Ok W W.heap.size) (hb : st.bs.length ≤ 1048576) :
    Calls Try.prog 18 #[.pointer (some ⟨bb, 0, none⟩), .agg st.cells.toArray] w fun e w' => e = .returned (.bool true) ∧ ∃ S' L', Bo W w' S' d (chS st s) (N + 1) L' rb (chS st s) bb := by
  obtain ⟨ev, hev⟩ : ∃ ev, chE st s = ev := ⟨_, rfl⟩
  obtain ⟨sv, hsv⟩ : ∃ sv, chS st s = sv := ⟨_, rfl⟩
  have HCH := Lib.hid (fun w1 (S1 : Nat → Prop) (h1 : Lv W w1 S1 d s N) => change_any W w1 S1 d s N st h1 (by omega) hs (by omega) (by omega))
  rw [hev, hsv] at HCH
  rw [hsv]
  obtain ⟨k, nm, nt, x, y, A, bs, c, A2, ps, c2⟩ := st
  obtain ⟨n, hn⟩ : ∃ n, bs.length = n := ⟨_, rfl⟩
  obtain ⟨n2, hn2⟩ : ∃ n2, ps.length = n2 := ⟨_, rfl⟩
  obtain ⟨hA, _, hz1, hz2, _⟩ := hs
  dsimp only at hA hz1 hz2 hk hb
  subst hk
  have HEV := Lib.hid (show syncDirE s = ev ∧ syncDirS s = sv from ⟨by rw [← hev]; rfl, by rw [← hsv]; rfl⟩)
  simp only [SC.cells, hn, hn2] at HCH ⊢
  rw [hn] at hb
  have H := Lib.hid (And.intro h.lv.2.2.2 (And.intro hN (And.intro hfm (And.intro hz1 (And.intro hz2 (And.intro hn hA))))))
  have M0 := Lib.hid (Bs.start h #[.int .i64 5, .string nm, .string nt, .int .i64 x, .int .i64 y, .slice A n c, .slice A2 n2 c2])
  have hxc := M0.out.bx.cell
  clear h hN hfm hz1 hz2 hn hn2 hev hsv hA
  go_enter Try.func18, Try.ntmps18
  go_upto_region 9 with fail
  have hs0 := cell_nine M0.out
  have M0d := Lib.hid (M0.out.next (below_drew (Below.refl _ _)))
  have hs1 := cell_nine M0d.out
  go_region_held3 (fun w' => w'.cell? ⟨bb, 0, none⟩ = some (.pointer (some ⟨d, 0, none⟩)) ∧ w'.cell? ⟨bb, 1, none⟩ = some (.pointer (some ⟨rb, 0, none⟩)) ∧ w'.cell? ⟨w.heap.size, 0, none⟩ = some (.int .i64 5) ∧ w'.cell? ⟨w.heap.size, 1, none⟩ = some (.string nm) ∧ w'.cell? ⟨w.heap.size, 2, none⟩ = some (.string nt) ∧ w'.cell? ⟨w.heap.size, 3, none⟩ = some (.int .i64 x) ∧ w'.cell? ⟨w.heap.size, 4, none⟩ = some (.int .i64 y) ∧ w'.cell? ⟨w.heap.size, 5, none⟩ = some (.slice A n c) ∧ w'.cell? ⟨w.heap.size, 6, none⟩ = some (.slice A2 n2 c2))
    (first | with_reducible exact hs0 | with_reducible exact hs1 | with_reducible exact hs2)
    (first
      | (go_at_call 59
         refine (HCH.out _ S M0d.out.bo.lv).mono ?_
         rintro e w1 ⟨rfl, h1⟩
         obtain ⟨S1, hM1⟩ := M0d.out.a h1
         have M1 := Lib.hid hM1
         have hs2 := cell_nine M1.out
         clear h1 hM1))
  clear hs0 hs1 hxc
  have hxc := M1.out.bx.cell
  go_upto_region 10 with fail
  have M1d := Lib.hid (M1.out.next (below_drew (Below.refl _ _)))
  have hs3 := cell_nine M1d.out
  go_region_held3 (fun w' => w'.cell? ⟨bb, 0, none⟩ = some (.pointer (some ⟨d, 0, none⟩)) ∧ w'.cell? ⟨bb, 1, none⟩ = some (.pointer (some ⟨rb, 0, none⟩)) ∧ w'.cell? ⟨w.heap.size, 0, none⟩ = some (.int .i64 5) ∧ w'.cell? ⟨w.heap.size, 1, none⟩ = some (.string nm) ∧ w'.cell? ⟨w.heap.size, 2, none⟩ = some (.string nt) ∧ w'.cell? ⟨w.heap.size, 3, none⟩ = some (.int .i64 x) ∧ w'.cell? ⟨w.heap.size, 4, none⟩ = some (.int .i64 y) ∧ w'.cell? ⟨w.heap.size, 5, none⟩ = some (.slice A n c) ∧ w'.cell? ⟨w.heap.size, 6, none⟩ = some (.slice A2 n2 c2))
    (first | with_reducible exact hs2 | with_reducible exact hs3 | with_reducible exact hs4)
    (first
      | (go_at_call 60
         refine (do5 rb L s N n c nm nt x y A bs _ M1d.out.bo.rd H.out.1 (by have := H.out.2.1; omega) (by have := H.out.2.2.1; omega) H.out.2.2.2.1 H.out.2.2.2.2.1 H.out.2.2.2.2.2.1 (by omega)).mono ?_
         rintro e w2 ⟨rfl, L2, h1, h2⟩
         rw [HEV.out.1]
         rw [HEV.out.2] at h1
         have M2 := Lib.hid (M1d.out.b h1 h2)
         have hs4 := cell_nine M2.out
         clear h1 h2))
  go_wp2
  go_ret
  exact ⟨rfl, S1, L2, M2.out.bo⟩
set_option maxRecDepth 100000 in
set_option maxHeartbeats 8000000 in
theorem step6 (W : World) (S : Nat → Prop) (d : Nat) (s : Dk) (N : Nat) (L : Nat → Nat) (rb bb : Nat) (st : SC) (w : World) (h : Bo W w S d s N L rb s bb) (hN : N ≤ 999999) (hfm : s.files.length ≤ 999999) (hk : st.kind = 6) (hs : st.Ok W W.heap.size) (hb : st.bs.length ≤ 1048576) :
    Calls Try.prog 18 #[.pointer (some ⟨bb, 0, none⟩), .agg st.cells.toArray] w fun e w' => e = .returned (.bool true) ∧ ∃ S' L', Bo W w' S' d (chS st s) (N + 1) L' rb (chS st s) bb := by
  obtain ⟨ev, hev⟩ : ∃ ev, chE st s = ev := ⟨_, rfl⟩
  obtain ⟨sv, hsv⟩ : ∃ sv, chS st s = sv := ⟨_, rfl⟩
  have HCH := Lib.hid (fun w1 (S1 : Nat → Prop) (h1 : Lv W w1 S1 d s N) => change_any W w1 S1 d s N st h1 (by omega) hs (by omega) (by omega))
  rw [hev, hsv] at HCH
  rw [hsv]
  obtain ⟨k, nm, nt, x, y, A, bs, c, A2, ps, c2⟩ := st
  obtain ⟨n, hn⟩ : ∃ n, bs.length = n := ⟨_, rfl⟩
  obtain ⟨n2, hn2⟩ : ∃ n2, ps.length = n2 := ⟨_, rfl⟩
  obtain ⟨hA, _, hz1, hz2, _⟩ := hs
  dsimp only at hA hz1 hz2 hk hb
  subst hk
  have HEV := Lib.hid (show renameE nm nt s = ev ∧ renameS nm nt s = sv from ⟨by rw [← hev]; rfl, by rw [← hsv]; rfl⟩)
  simp only [SC.cells, hn, hn2] at HCH ⊢
  rw [hn] at hb
  have H := Lib.hid (And.intro h.lv.2.2.2 (And.intro hN (And.intro hfm (And.intro hz1 (And.intro hz2 (And.intro hn hA))))))
  have M0 := Lib.hid (Bs.start h #[.int .i64 6, .string nm, .string nt, .int .i64 x, .int .i64 y, .slice A n c, .slice A2 n2 c2])
  have hxc := M0.out.bx.cell
  clear h hN hfm hz1 hz2 hn hn2 hev hsv hA
  go_enter Try.func18, Try.ntmps18
  go_upto_region 9 with fail
  have hs0 := cell_nine M0.out
  have M0d := Lib.hid (M0.out.next (below_drew (Below.refl _ _)))
  have hs1 := cell_nine M0d.out
  go_region_held3 (fun w' => w'.cell? ⟨bb, 0, none⟩ = some (.pointer (some ⟨d, 0, none⟩)) ∧ w'.cell? ⟨bb, 1, none⟩ = some (.pointer (some ⟨rb, 0, none⟩)) ∧ w'.cell? ⟨w.heap.size, 0, none⟩ = some (.int .i64 6) ∧ w'.cell? ⟨w.heap.size, 1, none⟩ = some (.string nm) ∧ w'.cell? ⟨w.heap.size, 2, none⟩ = some (.string nt) ∧ w'.cell? ⟨w.heap.size, 3, none⟩ = some (.int .i64 x) ∧ w'.cell? ⟨w.heap.size, 4, none⟩ = some (.int .i64 y) ∧ w'.cell? ⟨w.heap.size, 5, none⟩ = some (.slice A n c) ∧ w'.cell? ⟨w.heap.size, 6, none⟩ = some (.slice A2 n2 c2))
    (first | with_reducible exact hs0 | with_reducible exact hs1 | with_reducible exact hs2)
    (first
      | (go_at_call 59
         refine (HCH.out _ S M0d.out.bo.lv).mono ?_
         rintro e w1 ⟨rfl, h1⟩
         obtain ⟨S1, hM1⟩ := M0d.out.a h1
         have M1 := Lib.hid hM1
         have hs2 := cell_nine M1.out
         clear h1 hM1))
  clear hs0 hs1 hxc
  have hxc := M1.out.bx.cell
  go_upto_region 10 with fail
  have M1d := Lib.hid (M1.out.next (below_drew (Below.refl _ _)))
  have hs3 := cell_nine M1d.out
  go_region_held3 (fun w' => w'.cell? ⟨bb, 0, none⟩ = some (.pointer (some ⟨d, 0, none⟩)) ∧ w'.cell? ⟨bb, 1, none⟩ = some (.pointer (some ⟨rb, 0, none⟩)) ∧ w'.cell? ⟨w.heap.size, 0, none⟩ = some (.int .i64 6) ∧ w'.cell? ⟨w.heap.size, 1, none⟩ = some (.string nm) ∧ w'.cell? ⟨w.heap.size, 2, none⟩ = some (.string nt) ∧ w'.cell? ⟨w.heap.size, 3, none⟩ = some (.int .i64 x) ∧ w'.cell? ⟨w.heap.size, 4, none⟩ = some (.int .i64 y) ∧ w'.cell? ⟨w.heap.size, 5, none⟩ = some (.slice A n c) ∧ w'.cell? ⟨w.heap.size, 6, none⟩ = some (.slice A2 n2 c2))
    (first | with_reducible exact hs2 | with_reducible exact hs3 | with_reducible exact hs4)
    (first
      | (go_at_call 60
         refine (do6 rb L s N n c nm nt x y A bs _ M1d.out.bo.rd H.out.1 (by have := H.out.2.1; omega) (by have := H.out.2.2.1; omega) H.out.2.2.2.1 H.out.2.2.2.2.1 H.out.2.2.2.2.2.1 (by omega)).mono ?_
         rintro e w2 ⟨rfl, L2, h1, h2⟩
         rw [HEV.out.1]
         rw [HEV.out.2] at h1
         have M2 := Lib.hid (M1d.out.b h1 h2)
         have hs4 := cell_nine M2.out
         clear h1 h2))
  go_wp2
  go_ret
  exact ⟨rfl, S1, L2, M2.out.bo⟩
set_option maxRecDepth 100000 in
set_option maxHeartbeats 8000000 in
theorem step7 (W : World) (S : Nat → Prop) (d : Nat) (s : Dk) (N : Nat) (L : Nat → Nat) (rb bb : Nat) (st : SC) (w : World) (h : Bo W w S d s N L rb s bb) (hN : N ≤ 999999) (hfm : s.files.length ≤ 999999) (hk : st.kind = 7) (hs : st.Ok W W.heap.size) (hb : st.bs.length ≤ 1048576) :
    Calls Try.prog 18 #[.pointer (some ⟨bb, 0, none⟩), .agg st.cells.toArray] w fun e w' => e = .returned (.bool true) ∧ ∃ S' L', Bo W w' S' d (chS st s) (N + 1) L' rb (chS st s) bb := by
  obtain ⟨ev, hev⟩ : ∃ ev, chE st s = ev := ⟨_, rfl⟩
  obtain ⟨sv, hsv⟩ : ∃ sv, chS st s = sv := ⟨_, rfl⟩
  have HCH := Lib.hid (fun w1 (S1 : Nat → Prop) (h1 : Lv W w1 S1 d s N) => change_any W w1 S1 d s N st h1 (by omega) hs (by omega) (by omega))
  rw [hev, hsv] at HCH
  rw [hsv]
  obtain ⟨k, nm, nt, x, y, A, bs, c, A2, ps, c2⟩ := st
  obtain ⟨n, hn⟩ : ∃ n, bs.length = n := ⟨_, rfl⟩
  obtain ⟨n2, hn2⟩ : ∃ n2, ps.length = n2 := ⟨_, rfl⟩
  obtain ⟨hA, _, hz1, hz2, _⟩ := hs
  dsimp only at hA hz1 hz2 hk hb
  subst hk
  have HEV := Lib.hid (show removeE nm s = ev ∧ removeS nm s = sv from ⟨by rw [← hev]; rfl, by rw [← hsv]; rfl⟩)
  simp only [SC.cells, hn, hn2] at HCH ⊢
  rw [hn] at hb
  have H := Lib.hid (And.intro h.lv.2.2.2 (And.intro hN (And.intro hfm (And.intro hz1 (And.intro hz2 (And.intro hn hA))))))
  have M0 := Lib.hid (Bs.start h #[.int .i64 7, .string nm, .string nt, .int .i64 x, .int .i64 y, .slice A n c, .slice A2 n2 c2])
  have hxc := M0.out.bx.cell
  clear h hN hfm hz1 hz2 hn hn2 hev hsv hA
  go_enter Try.func18, Try.ntmps18
  go_upto_region 9 with fail
  have hs0 := cell_nine M0.out
  have M0d := Lib.hid (M0.out.next (below_drew (Below.refl _ _)))
  have hs1 := cell_nine M0d.out
  go_region_held3 (fun w' => w'.cell? ⟨bb, 0, none⟩ = some (.pointer (some ⟨d, 0, none⟩)) ∧ w'.cell? ⟨bb, 1, none⟩ = some (.pointer (some ⟨rb, 0, none⟩)) ∧ w'.cell? ⟨w.heap.size, 0, none⟩ = some (.int .i64 7) ∧ w'.cell? ⟨w.heap.size, 1, none⟩ = some (.string nm) ∧ w'.cell? ⟨w.heap.size, 2, none⟩ = some (.string nt) ∧ w'.cell? ⟨w.heap.size, 3, none⟩ = some (.int .i64 x) ∧ w'.cell? ⟨w.heap.size, 4, none⟩ = some (.int .i64 y) ∧ w'.cell? ⟨w.heap.size, 5, none⟩ = some (.slice A n c) ∧ w'.cell? ⟨w.heap.size, 6, none⟩ = some (.slice A2 n2 c2))
    (first | with_reducible exact hs0 | with_reducible exact hs1 | with_reducible exact hs2)
    (first
      | (go_at_call 59
         refine (HCH.out _ S M0d.out.bo.lv).mono ?_
         rintro e w1 ⟨rfl, h1⟩
         obtain ⟨S1, hM1⟩ := M0d.out.a h1
         have M1 := Lib.hid hM1
         have hs2 := cell_nine M1.out
         clear h1 hM1))
  clear hs0 hs1 hxc
  have hxc := M1.out.bx.cell
  go_upto_region 10 with fail
  have M1d := Lib.hid (M1.out.next (below_drew (Below.refl _ _)))
  have hs3 := cell_nine M1d.out
  go_region_held3 (fun w' => w'.cell? ⟨bb, 0, none⟩ = some (.pointer (some ⟨d, 0, none⟩)) ∧ w'.cell? ⟨bb, 1, none⟩ = some (.pointer (some ⟨rb, 0, none⟩)) ∧ w'.cell? ⟨w.heap.size, 0, none⟩ = some (.int .i64 7) ∧ w'.cell? ⟨w.heap.size, 1, none⟩ = some (.string nm) ∧ w'.cell? ⟨w.heap.size, 2, none⟩ = some (.string nt) ∧ w'.cell? ⟨w.heap.size, 3, none⟩ = some (.int .i64 x) ∧ w'.cell? ⟨w.heap.size, 4, none⟩ = some (.int .i64 y) ∧ w'.cell? ⟨w.heap.size, 5, none⟩ = some (.slice A n c) ∧ w'.cell? ⟨w.heap.size, 6, none⟩ = some (.slice A2 n2 c2))
    (first | with_reducible exact hs2 | with_reducible exact hs3 | with_reducible exact hs4)
    (first
      | (go_at_call 60
         refine (do7 rb L s N n c nm nt x y A bs _ M1d.out.bo.rd H.out.1 (by have := H.out.2.1; omega) (by have := H.out.2.2.1; omega) H.out.2.2.2.1 H.out.2.2.2.2.1 H.out.2.2.2.2.2.1 (by omega)).mono ?_
         rintro e w2 ⟨rfl, L2, h1, h2⟩
         rw [HEV.out.1]
         rw [HEV.out.2] at h1
         have M2 := Lib.hid (M1d.out.b h1 h2)
         have hs4 := cell_nine M2.out
         clear h1 h2))
  go_wp2
  go_ret
  exact ⟨rfl, S1, L2, M2.out.bo⟩
end Go.Proofs.Ytebeefkibbbkdaa
/- SimfsScripts: questions. -/
namespace Go.Proofs.Ytebeefkibbbkdaa
open Go.RowKit Go.Maps

set_option maxRecDepth 100000 in
set_option maxHeartbeats 4000000 in
/-- List, of any disk. -/
theorem lv_listE {W w : World} {S : Nat → Prop} {d N : Nat} {s : Dk} (h : Lv W w S d s N) (hN : N ≤ 999999) : Calls Try.prog 100 #[.pointer (some ⟨d, 0, none⟩)] w fun e w' => ∃ bb cap, e = .returned (.tuple #[.slice bb (listV s).length cap, .int .i64 (listE s)]) ∧ w'.ownsRow w.heap.size 9 1 (.slice bb (listV s).length cap) (listV s).length ((listV s).map fun p => .string p.1) ∧ Below w.heap.size w w' := by
  cases hd : s.dead with
  | false =>
    have e1 : listV s = s.seen := by simp [listV, hd]
    have e2 : listE s = 0 := by simp [listE, hd]
    rw [e1, e2]
    exact list_any S d N s w h.1 h.2.2.2.sz.wide (by omega) hd
  | true =>
    have e1 : listV s = [] := by simp [listV, hd]
    have e2 : listE s = 34 := by simp [listE, hd]
    rw [e1, e2]
    have H := Lib.hid (And.intro h hd)
    clear h hN e1 e2 hd
    go_enter Try.func100, Try.ntmps100
    go_wp2_with (first
      | (go_at_call 81
         refine (ready_any S d s _ H.out.1.1).mono ?_
         rintro e w1 ⟨rfl, hw⟩
         have hw1 := hw.symm
         subst hw1
         rw [if_pos H.out.2]))
    go_ret2
    exact ⟨none, 0, rfl, nil_own _ _ _ _, Below.refl _ _⟩
set_option maxRecDepth 100000 in
set_option maxHeartbeats 4000000 in
/-- The same texts twice. -/
theorem sameTexts_any (A A' : Option Addr) (n c c' : Nat) (l : List KE) (w : World) (hn : l.length = n) (hA : Rd w w.heap.size A (l.map fun p => .string p.1)) (hA' : Rd w w.heap.size A' (l.map fun p => .string p.1)) (hm : n ≤ 99999999) :
    Calls Try.prog 102 #[.slice A n c, .slice A' n c'] w fun e w' => e = .returned (.bool true) ∧ ∃ k, w' = w.drewN k := by
  have H := Lib.hid (And.intro hn (And.intro hA hA'))
  clear hn hA hA'
  go_enter Try.func102, Try.ntmps102
  go_wp2
  go_loopw [5] (fun v5 wr => ∃ (j q : Nat), j ≤ n ∧ v5 = .int .i64 j ∧ wr = w.drewN q) (fun v5 _ => n - (intOf v5).toNat)
  case atStart => exact ⟨0, 0, Nat.zero_le _, rfl, rfl⟩
  case round =>
    obtain ⟨j, q, hj, rfl, hw⟩ := hrel
    by_cases hlt : j < n
    · have hj0 : (0 : Int) ≤ j := by omega
      have hj1 : (j : Int) < n := by omega
      obtain ⟨p, hp⟩ : ∃ p, l[j]? = some p := ⟨_, List.getElem?_eq_getElem (by rw [H.out.1]; exact hlt)⟩
      obtain ⟨ad, rfl, _, c0⟩ := H.out.2.1 j (.string p.1) (by rw [List.getElem?_map, hp]; rfl)
      obtain ⟨ad', rfl, _, c1⟩ := H.out.2.2 j (.string p.1) (by rw [List.getElem?_map, hp]; rfl)
      have d0 : wr.cell? (ad.add j) = some (.string p.1) := by rw [hw]; exact c0
      have d1 : wr.cell? (ad'.add j) = some (.string p.1) := by rw [hw]; exact c1
      have hself : (p.1.toList == p.1.toList) = true := by simp
      have HW := Lib.hid hw
      clear hp c0 c1 hw
      go_wp2
      go_quiet (fail)
      go_wp2
      go_roundw
      case rel => exact ⟨j + 1, _, by omega, by go_num, by rw [HW.out]; first | rfl | exact World.drewN_drewN ..⟩
      case measure => simp [intOf]; omega
    · have HW := Lib.hid hw
      clear hw
      go_wp2
      go_ret
      exact ⟨rfl, q, HW.out⟩
set_option maxRecDepth 100000 in
set_option maxHeartbeats 16000000 in
theorem asked8 (W : World) (S : Nat → Prop) (d : Nat) (s : Dk) (N : Nat) (L : Nat → Nat) (rb bb : Nat) (st : SC) (w : World) (h : Bo W w S d s N L rb s bb) (hN : N ≤ 999999) (hfm : s.files.length ≤ 999999) (hk : st.kind = 8) (hs : st.Ok W W.heap.size) :
    Calls Try.prog 61 #[.pointer (some ⟨bb, 0, none⟩), .agg st.cells.toArray] w fun e w' => e = .returned (.bool true) ∧ Below w.heap.size w w' := by
  obtain ⟨k, nm, nt, x, y, A, bs, c, A2, ps, c2⟩ := st
  obtain ⟨n, hn⟩ : ∃ n, bs.length = n := ⟨_, rfl⟩
  obtain ⟨n2, hn2⟩ : ∃ n2, ps.length = n2 := ⟨_, rfl⟩
  obtain ⟨hA, hP, hz1, hz2, hwf⟩ := hs
  dsimp only at hA hP hz1 hz2 hwf hk
  subst hk
  simp only [SC.cells, hn, hn2]
  have H := Lib.hid (And.intro h.lv.2.2.2 (And.intro hN (And.intro hfm (And.intro hz1 (And.intro hz2 (And.intro hn2 (And.intro hP (And.intro hwf trivial))))))))
  have M0 := Lib.hid (Bs.start h #[.int .i64 8, .string nm, .string nt, .int .i64 x, .int .i64 y, .slice A n c, .slice A2 n2 c2])
  have B0 := Lib.hid (And.intro (Below.al w (.cells #[.int .i64 8, .string nm, .string nt, .int .i64 x, .int .i64 y, .slice A n c, .slice A2 n2 c2] 52)) (show W.heap.size ≤ w.heap.size from h.bel.size))
  have hxc := M0.out.bx.cell
  clear h hN hfm hz1 hz2 hn hn2 hA hP hwf
  go_enter Try.func61, Try.ntmps61
  go_upto_region 3 with fail
  have hs := cell_nine M0.out
  have M := Lib.hid (M0.out.next (below_drew (Below.refl _ _)))
  have BL := Lib.hid (below_drew B0.out.1)
  have hsd := cell_nine M.out
  clear M0
  go_region_held3 (fun w' => w'.cell? ⟨bb, 0, none⟩ = some (.pointer (some ⟨d, 0, none⟩)) ∧ w'.cell? ⟨bb, 1, none⟩ = some (.pointer (some ⟨rb, 0, none⟩)) ∧ w'.cell? ⟨w.heap.size, 0, none⟩ = some (.int .i64 8) ∧ w'.cell? ⟨w.heap.size, 1, none⟩ = some (.string nm) ∧ w'.cell? ⟨w.heap.size, 2, none⟩ = some (.string nt) ∧ w'.cell? ⟨w.heap.size, 3, none⟩ = some (.int .i64 x) ∧ w'.cell? ⟨w.heap.size, 4, none⟩ = some (.int .i64 y) ∧ w'.cell? ⟨w.heap.size, 5, none⟩ = some (.slice A n c) ∧ w'.cell? ⟨w.heap.size, 6, none⟩ = some (.slice A2 n2 c2))
    (first | with_reducible exact hs | with_reducible exact hsd)
    (first
      | (go_at_call 97
         refine (lv_read nm x y M.out.bo.lv H.out.2.2.2.1).mono ?_
         rintro e w1 ⟨x1, c1, rfl, hr1, hb1⟩
         obtain ⟨lr, hlr⟩ : ∃ lr, (readV nm x y s).length = lr := ⟨_, rfl⟩
         rw [hlr] at hr1 ⊢
         have hr1r := Lib.hid (And.intro hr1 hlr)
         have hE1 := Lib.hid (show w.heap.size ≤ _ from BL.out.size)
         have tM := Lib.hid (M.out.next hb1)
         have tB := Lib.hid (bel_next BL.out hb1)
         clear M BL hs hsd
         have M := tM
         have BL := tB
         have hs := cell_nine M.out
         have hsd := hs
         clear tM tB
         clear hb1 hr1 hlr))
  go_upto_region 4 with fail
  have hb2 : Below w1.heap.size w1 w1.drew := below_drew (Below.refl _ _)
  have tM := Lib.hid (M.out.next hb2)
  have tB := Lib.hid (bel_next BL.out hb2)
  clear M BL hs hsd
  have M := tM
  have BL := tB
  have hs := cell_nine M.out
  have hsd := hs
  clear tM tB
  clear hb2
  go_region_held3 (fun w' => w'.cell? ⟨bb, 0, none⟩ = some (.pointer (some ⟨d, 0, none⟩)) ∧ w'.cell? ⟨bb, 1, none⟩ = some (.pointer (some ⟨rb, 0, none⟩)) ∧ w'.cell? ⟨w.heap.size, 0, none⟩ = some (.int .i64 8) ∧ w'.cell? ⟨w.heap.size, 1, none⟩ = some (.string nm) ∧ w'.cell? ⟨w.heap.size, 2, none⟩ = some (.string nt) ∧ w'.cell? ⟨w.heap.size, 3, none⟩ = some (.int .i64 x) ∧ w'.cell? ⟨w.heap.size, 4, none⟩ = some (.int .i64 y) ∧ w'.cell? ⟨w.heap.size, 5, none⟩ = some (.slice A n c) ∧ w'.cell? ⟨w.heap.size, 6, none⟩ = some (.slice A2 n2 c2))
    (first | with_reducible exact hs | with_reducible exact hsd)
    (first
      | (go_at_call 98
         refine (readR_any rb L s N nm x y _ M.out.bo.rd H.out.1 (by have := H.out.2.1; omega) (by have := H.out.2.2.1; omega) H.out.2.2.2.1).mono ?_
         rintro e w2 ⟨x2, c2', rfl, hr2, hb2⟩
         rw [hr1r.out.2] at hr2 ⊢
         have hr1b := Lib.hid (row_next (w' := w2) hr1r.out.1 ((below_drew (Below.refl _ _)).trans hb2))
         have hr2r := Lib.hid hr2
         have tM := Lib.hid (M.out.next hb2)
         have tB := Lib.hid (bel_next BL.out hb2)
         clear M BL hs hsd
         have M := tM
         have BL := tB
         have hs := cell_nine M.out
         have hsd := hs
         clear tM tB
         clear hb2 hr2))
  have hlrm : lr ≤ 1073741824 := by
    rw [← hr1r.out.2]
    unfold readV
    split
    · simp
    · rw [List.length_take, List.length_drop]
      have h1 := short_fl H.out.1 (s.num nm) (s.fl (s.num nm)).chs.length
      rw [List.take_length] at h1
      have h2 : (s.fl (s.num nm)).seen.length ≤ 1073741824 := h1
      omega
  go_wp2_with (first
    | (go_at_call 48
       refine (sameBytes_any x1 x2 lr c1 lr c2' (readV nm x y s) (readV nm x y s) _ hr1r.out.2 hr1r.out.2 (row_rd hr1b.out) (row_rd hr2r.out) (by omega) (by omega)).mono ?_
       rintro e w3 ⟨rfl, k3, hw3⟩
       rw [show decide (readV nm x y s = readV nm x y s) = true from decide_eq_true rfl]
       have hb3 : Below w2.heap.size w2 w3 := by rw [hw3]; exact below_drewN (Below.refl _ _) k3
       have hr1c := Lib.hid (row_next hr1b.out hb3)
       have tM := Lib.hid (M.out.next hb3)
       have tB := Lib.hid (bel_next BL.out hb3)
       clear M BL hs hsd
       have M := tM
       have BL := tB
       have hs := cell_nine M.out
       have hsd := hs
       clear tM tB
       clear hb3 hw3))
  go_loopw [10] (fun v10 wr => ∃ (j : Nat) (xs : List Value), j ≤ lr ∧ v10 = .int .i64 j ∧ wr.ownsRow w.heap.size 5 1 (.slice x1 lr c1) lr xs ∧ Below w.heap.size w wr) (fun v10 _ => lr - (intOf v10).toNat)
  case atStart => exact ⟨0, _, Nat.zero_le _, rfl, row_le hr1c.out (by first | exact hE1.out | omega), BL.out⟩
  case round =>
    obtain ⟨j, xs, hj, rfl, hr, hb⟩ := hrel
    by_cases hlt : j < lr
    · have hj0 : (0 : Int) ≤ j := by omega
      have hj1 : (j : Int) < lr := by omega
      obtain ⟨g, cg, e, _, _, ho⟩ := Own.of_row hr (by omega)
      injection e with e1 _ e2
      subst e1 e2
      have hxl : xs.length = lr := by have := hr.1; simpa using this
      obtain ⟨x0, hx0⟩ : ∃ x0, wr.cell? ⟨g, j, none⟩ = some x0 := ⟨_, ho.cell (i := j) (by omega)⟩
      have hxf := ho.free j
      have hgl := ho.lt
      have hgB := ho.1
      have HW := Lib.hid (And.intro hr (And.intro hb hgB))
      clear hr hb ho hxl
      go_wp2
      go_roundw
      case rel => exact ⟨j + 1, _, by omega, by go_num, row_put HW.out.1 _, HW.out.2.1.setCell (p := ⟨g, j, none⟩) HW.out.2.2 _⟩
      case measure => simp [intOf]; omega
    · have HW := Lib.hid hb
      clear hr hb
      go_wp2
      go_ret
      exact ⟨rfl, HW.out⟩
set_option maxRecDepth 100000 in
set_option maxHeartbeats 16000000 in
theorem asked9 (W : World) (S : Nat → Prop) (d : Nat) (s : Dk) (N : Nat) (L : Nat → Nat) (rb bb : Nat) (st : SC) (w : World) (h : Bo W w S d s N L rb s bb) (hN : N ≤ 999999) (hfm : s.files.length ≤ 999999) (hk : st.kind = 9) (hs : st.Ok W W.heap.size) :
    Calls Try.prog 61 #[.pointer (some ⟨bb, 0, none⟩), .agg st.cells.toArray] w fun e w' => e = .returned (.bool true) ∧ Below w.heap.size w w' := by
  obtain ⟨k, nm, nt, x, y, A, bs, c, A2, ps, c2⟩ := st
  obtain ⟨n, hn⟩ : ∃ n, bs.length = n := ⟨_, rfl⟩
  obtain ⟨n2, hn2⟩ : ∃ n2, ps.length = n2 := ⟨_, rfl⟩
  obtain ⟨hA, hP, hz1, hz2, hwf⟩ := hs
  dsimp only at hA hP hz1 hz2 hwf hk
  subst hk
  simp only [SC.cells, hn, hn2]
  have H := Lib.hid (And.intro h.lv.2.2.2 (And.intro hN (And.intro hfm (And.intro hz1 (And.intro hz2 (And.intro hn2 (And.intro hP (And.intro hwf trivial))))))))
  have M0 := Lib.hid (Bs.start h #[.int .i64 9, .string nm, .string nt, .int .i64 x, .int .i64 y, .slice A n c, .slice A2 n2 c2])
  have B0 := Lib.hid (And.intro (Below.al w (.cells #[.int .i64 9, .string nm, .string nt, .int .i64 x, .int .i64 y, .slice A n c, .slice A2 n2 c2] 52)) (show W.heap.size ≤ w.heap.size from h.bel.size))
  have hxc := M0.out.bx.cell
  clear h hN hfm hz1 hz2 hn hn2 hA hP hwf
  go_enter Try.func61, Try.ntmps61
  go_upto_region 12 with fail
  have hs := cell_nine M0.out
  have M := Lib.hid (M0.out.next (below_drew (Below.refl _ _)))
  have BL := Lib.hid (below_drew B0.out.1)
  have hsd := cell_nine M.out
  clear M0
  obtain ⟨zv, hzv⟩ : ∃ zv, sizeV nm s = zv := ⟨_, rfl⟩
  obtain ⟨ze, hze⟩ : ∃ ze, atE nm s = ze := ⟨_, rfl⟩
  have HZ := Lib.hid (And.intro hzv hze)
  clear hzv hze
  go_region_held3 (fun w' => w'.cell? ⟨bb, 0, none⟩ = some (.pointer (some ⟨d, 0, none⟩)) ∧ w'.cell? ⟨bb, 1, none⟩ = some (.pointer (some ⟨rb, 0, none⟩)) ∧ w'.cell? ⟨w.heap.size, 0, none⟩ = some (.int .i64 9) ∧ w'.cell? ⟨w.heap.size, 1, none⟩ = some (.string nm) ∧ w'.cell? ⟨w.heap.size, 2, none⟩ = some (.string nt) ∧ w'.cell? ⟨w.heap.size, 3, none⟩ = some (.int .i64 x) ∧ w'.cell? ⟨w.heap.size, 4, none⟩ = some (.int .i64 y) ∧ w'.cell? ⟨w.heap.size, 5, none⟩ = some (.slice A n c) ∧ w'.cell? ⟨w.heap.size, 6, none⟩ = some (.slice A2 n2 c2))
    (first | with_reducible exact hs | with_reducible exact hsd)
    (first
      | (go_at_call 25
         refine (lv_size nm M.out.bo.lv H.out.2.2.2.1).mono ?_
         rintro e w1 ⟨rfl, hb1⟩
         rw [HZ.out.1, HZ.out.2]
         have tM := Lib.hid (M.out.next hb1)
         have tB := Lib.hid (bel_next BL.out hb1)
         clear M BL hs hsd
         have M := tM
         have BL := tB
         have hs := cell_nine M.out
         have hsd := hs
         clear tM tB
         clear hb1))
  go_upto_region 13 with fail
  have hb2 : Below w1.heap.size w1 w1.drew := below_drew (Below.refl _ _)
  have tM := Lib.hid (M.out.next hb2)
  have tB := Lib.hid (bel_next BL.out hb2)
  clear M BL hs hsd
  have M := tM
  have BL := tB
  have hs := cell_nine M.out
  have hsd := hs
  clear tM tB
  clear hb2
  go_region_held3 (fun w' => w'.cell? ⟨bb, 0, none⟩ = some (.pointer (some ⟨d, 0, none⟩)) ∧ w'.cell? ⟨bb, 1, none⟩ = some (.pointer (some ⟨rb, 0, none⟩)) ∧ w'.cell? ⟨w.heap.size, 0, none⟩ = some (.int .i64 9) ∧ w'.cell? ⟨w.heap.size, 1, none⟩ = some (.string nm) ∧ w'.cell? ⟨w.heap.size, 2, none⟩ = some (.string nt) ∧ w'.cell? ⟨w.heap.size, 3, none⟩ = some (.int .i64 x) ∧ w'.cell? ⟨w.heap.size, 4, none⟩ = some (.int .i64 y) ∧ w'.cell? ⟨w.heap.size, 5, none⟩ = some (.slice A n c) ∧ w'.cell? ⟨w.heap.size, 6, none⟩ = some (.slice A2 n2 c2))
    (first | with_reducible exact hs | with_reducible exact hsd)
    (first
      | (go_at_call 99
         refine (sizeR_any rb L s N nm _ M.out.bo.rd H.out.1 (by have := H.out.2.1; omega) (by have := H.out.2.2.1; omega) H.out.2.2.2.1).mono ?_
         rintro e w2 ⟨rfl, hb2⟩
         rw [HZ.out.1, HZ.out.2]
         have tM := Lib.hid (M.out.next hb2)
         have tB := Lib.hid (bel_next BL.out hb2)
         clear M BL hs hsd
         have M := tM
         have BL := tB
         have hs := cell_nine M.out
         have hsd := hs
         clear tM tB
         clear hb2))
  go_wp2
  go_ret
  exact ⟨rfl, BL.out⟩
set_option maxRecDepth 100000 in
set_option maxHeartbeats 16000000 in
theorem asked10 (W : World) (S : Nat → Prop) (d : Nat) (s : Dk) (N : Nat) (L : Nat → Nat) (rb bb : Nat) (st : SC) (w : World) (h : Bo W w S d s N L rb s bb) (hN : N ≤ 999999) (hfm : s.files.length ≤ 999999) (hk : st.kind = 10) (hs : st.Ok W W.heap.size) :
    Calls Try.prog 61 #[.pointer (some ⟨bb, 0, none⟩), .agg st.cells.toArray] w fun e w' => e = .returned (.bool true) ∧ Below w.heap.size w w' := by
  obtain ⟨k, nm, nt, x, y, A, bs, c, A2, ps, c2⟩ := st
  obtain ⟨n, hn⟩ : ∃ n, bs.length = n := ⟨_, rfl⟩
  obtain ⟨n2, hn2⟩ : ∃ n2, ps.length = n2 := ⟨_, rfl⟩
  obtain ⟨hA, hP, hz1, hz2, hwf⟩ := hs
  dsimp only at hA hP hz1 hz2 hwf hk
  subst hk
  simp only [SC.cells, hn, hn2]
  have H := Lib.hid (And.intro h.lv.2.2.2 (And.intro hN (And.intro hfm (And.intro hz1 (And.intro hz2 (And.intro hn2 (And.intro hP (And.intro hwf trivial))))))))
  have M0 := Lib.hid (Bs.start h #[.int .i64 10, .string nm, .string nt, .int .i64 x, .int .i64 y, .slice A n c, .slice A2 n2 c2])
  have B0 := Lib.hid (And.intro (Below.al w (.cells #[.int .i64 10, .string nm, .string nt, .int .i64 x, .int .i64 y, .slice A n c, .slice A2 n2 c2] 52)) (show W.heap.size ≤ w.heap.size from h.bel.size))
  have hxc := M0.out.bx.cell
  clear h hN hfm hz1 hz2 hn hn2 hA hP hwf
  have hbc0 := M0.out.bo.bx.cell
  go_enter Try.func61, Try.ntmps61
  go_upto_region 18 with (first
    | (go_at_call 100
       refine (lv_listE M0.out.bo.lv H.out.2.1).mono ?_
       rintro e w1 ⟨x1, c1, rfl, hr1, hb1⟩
       obtain ⟨lr, hlr⟩ : ∃ lr, (listV s).length = lr := ⟨_, rfl⟩
       obtain ⟨le, hle⟩ : ∃ le, listE s = le := ⟨_, rfl⟩
       rw [hlr] at hr1 ⊢
       rw [hle]
       have hr1r := Lib.hid (And.intro hr1 (And.intro hlr hle))
       have M1 := Lib.hid (M0.out.next hb1)
       have B1 := Lib.hid (bel_next B0.out.1 hb1)
       have hE1 := Lib.hid (show w.heap.size ≤ (w.alloc (.cells #[.int .i64 10, .string nm, .string nt, .int .i64 x, .int .i64 y, .slice A n c, .slice A2 n2 c2] 52)).heap.size from B0.out.1.size)
       have hbc := M1.out.bo.bx.cell
       clear hb1 hr1 hlr hle hbc0 hxc)
    | (go_at_call 101
       refine (listR_any rb L s N _ M1.out.bo.rd H.out.1 (by have := H.out.2.1; omega)).mono ?_
       rintro e w2 ⟨x2, c2', rfl, hr2, hb2⟩
       rw [hr1r.out.2.1] at hr2 ⊢
       rw [hr1r.out.2.2]
       have hr1b := Lib.hid (row_next (w' := w2) hr1r.out.1 hb2)
       have hr2r := Lib.hid hr2
       have B2 := Lib.hid (bel_next B1.out hb2)
       clear hb2 hr2 hbc))
  have hlm := Lib.hid (show lr ≤ 99999999 by
    rw [← hr1r.out.2.1]
    unfold listV
    split
    · simp
    · have := seen_lenq H.out.1; have := H.out.2.1; omega)
  go_wp2_with (first
    | (go_at_call 102
       refine (sameTexts_any x1 x2 lr c1 c2' (listV s) _ hr1r.out.2.1 (row_rd hr1b.out) (row_rd hr2r.out) hlm.out).mono ?_
       rintro e w3 ⟨rfl, k3, hw3⟩
       have hb3 : Below w2.heap.size w2 w3 := by rw [hw3]; exact below_drewN (Below.refl _ _) k3
       have hr1c := Lib.hid (row_next hr1b.out hb3)
       have B3 := Lib.hid (bel_next B2.out hb3)
       clear hb3 hw3))
  have hlmm := hlm.out
  go_loopw [20] (fun v20 wr => ∃ (j : Nat) (xs : List Value), j ≤ lr ∧ v20 = .int .i64 j ∧ wr.ownsRow w.heap.size 9 1 (.slice x1 lr c1) lr xs ∧ Below w.heap.size w wr) (fun v20 _ => lr - (intOf v20).toNat)
  case atStart => exact ⟨0, _, Nat.zero_le _, rfl, row_le hr1c.out hE1.out, B3.out⟩
  case round =>
    obtain ⟨j, xs, hj, rfl, hr, hb⟩ := hrel
    by_cases hlt : j < lr
    · have hj0 : (0 : Int) ≤ j := by omega
      have hj1 : (j : Int) < lr := by omega
      obtain ⟨g, cg, e, _, _, ho⟩ := Own.of_row hr (by omega)
      injection e with e1 _ e2
      subst e1 e2
      have hxl : xs.length = lr := by have := hr.1; simpa using this
      obtain ⟨x0, hx0⟩ : ∃ x0, wr.cell? ⟨g, j, none⟩ = some x0 := ⟨_, ho.cell (i := j) (by omega)⟩
      have hxf := ho.free j
      have hgl := ho.lt
      have hgB := ho.1
      have HW := Lib.hid (And.intro hr (And.intro hb hgB))
      clear hr hb ho hxl
      go_wp2
      go_roundw
      case rel => exact ⟨j + 1, _, by omega, by go_num, row_put HW.out.1 _, HW.out.2.1.setCell (p := ⟨g, j, none⟩) HW.out.2.2 _⟩
      case measure => simp [intOf]; omega
    · have HW := Lib.hid hb
      clear hr hb
      go_wp2
      go_ret
      exact ⟨rfl, HW.out⟩
end Go.Proofs.Ytebeefkibbbkdaa
/- SimfsScripts: the question what a crash leaves: images that are kept apart. -/
namespace Go.Proofs.Ytebeefkibbbkdaa
open Go.RowKit Go.Maps

/-- An image that was told, all of it between B and E. -/
structure FLq (w : World) (B E : Nat) (fs : List FE) (us : List Value) (b : Option Addr) (n c : Nat) : Prop where
  f : FLs w B fs us (.slice b n c)
  e1 : ∀ k, (Value.slice b n c).ownBlock = some k → k < E
  e2 : ∀ (i : Nat) (u : Value), us[i]? = some u → ∀ k, u.ownBlock = some k → k < E
  ez : E ≤ w.heap.size
section
variable {w w' : World} {B E B' E' n c : Nat} {fs : List FE} {us : List Value} {b : Option Addr}
theorem FLs.flq (h : FLs w B fs us (.slice b n c)) : FLq w B w.heap.size fs us b n c :=
  ⟨h, fun k hk => (h.2.1.lt k hk).2, fun i u hu k hk => by
    have hi : i < fs.length := by have := (List.getElem?_eq_some_iff.1 hu).1; rw [h.1] at this; exact this
    obtain ⟨_, _, _, hr⟩ := h.2.2 i _ u (List.getElem?_eq_getElem hi) hu
    exact (hr.lt k hk).2, Nat.le_refl _⟩
theorem FLq.keep (h : FLq w B E fs us b n c) (hz : w.heap.size ≤ w'.heap.size) (hk : ∀ j, B ≤ j → j < E → w'.heap[j]? = w.heap[j]?) : FLq w' B E fs us b n c :=
  ⟨⟨h.f.1, row_block h.f.2.1 fun j hj => hk j (h.f.2.1.lt j hj).1 (h.e1 j hj), fun i p u hp hu => by
    obtain ⟨x, y, e, hr⟩ := h.f.2.2 i p u hp hu
    exact ⟨x, y, e, row_block hr fun j hj => hk j (hr.lt j hj).1 (h.e2 i u hu j hj)⟩⟩, h.e1, h.e2, Nat.le_trans h.ez hz⟩
theorem FLq.next (h : FLq w B E fs us b n c) (hb : Below w.heap.size w w') : FLq w' B E fs us b n c := h.keep hb.size fun j _ hj => hb.block j (Nat.lt_of_lt_of_le hj h.ez)
theorem FLq.chg (h : FLq w B E fs us b n c) (hc : Chg (fun j => B' ≤ j ∧ j < E') w w') (hd : E' ≤ B ∨ E ≤ B') : FLq w' B E fs us b n c :=
  h.keep hc.size fun j h1 h2 => hc.block j (Nat.lt_of_lt_of_le h2 h.ez) fun ⟨h3, h4⟩ => by omega
theorem FLq.im (h : FLq w B E fs us b n c) : IM w w.heap.size b fs := h.f.im
end
set_option maxRecDepth 100000 in
set_option maxHeartbeats 16000000 in
theorem asked13 (W : World) (S : Nat → Prop) (d : Nat) (s : Dk) (N : Nat) (L : Nat → Nat) (rb bb : Nat) (st : SC) (w : World) (h : Bo W w S d s N L rb s bb) (hN : N ≤ 999999) (hfm : s.files.length ≤ 999999) (hk : st.kind = 13) (hs : st.Ok W W.heap.size) (hc2 : st.ps.length ≤ st.c2) (hps : st.ps.length ≤ 1048576) :
    Calls Try.prog 61 #[.pointer (some ⟨bb, 0, none⟩), .agg st.cells.toArray] w fun e w' => e = .returned (.bool true) ∧ Below w.heap.size w w' := by
  obtain ⟨k, nm, nt, x, y, A, bs, c, A2, ps, c2⟩ := st
  obtain ⟨n, hn⟩ : ∃ n, bs.length = n := ⟨_, rfl⟩
  obtain ⟨n2, hn2⟩ : ∃ n2, ps.length = n2 := ⟨_, rfl⟩
  obtain ⟨hA, hP, hz1, hz2, hwf⟩ := hs
  dsimp only at hA hP hz1 hz2 hwf hk hc2 hps
  subst hk
  simp only [SC.cells, hn, hn2] at hc2 hps ⊢
  have H := Lib.hid (And.intro h.lv.2.2.2 (And.intro hN (And.intro hfm (And.intro hz1 (And.intro hz2 (And.intro hn2 (And.intro hP (And.intro hwf (And.intro hc2 hps)))))))))
  have M0 := Lib.hid (Bs.start h #[.int .i64 13, .string nm, .string nt, .int .i64 x, .int .i64 y, .slice A n c, .slice A2 n2 c2])
  have B0 := Lib.hid (And.intro (Below.al w (.cells #[.int .i64 13, .string nm, .string nt, .int .i64 x, .int .i64 y, .slice A n c, .slice A2 n2 c2] 52)) (show W.heap.size ≤ w.heap.size from h.bel.size))
  have hxc := M0.out.bx.cell
  clear h hN hfm hz1 hz2 hn hn2 hA hP hwf hc2 hps
  obtain ⟨cl, hcl⟩ : ∃ cl, crashL s ps = cl := ⟨_, rfl⟩
  obtain ⟨zl, hzl⟩ : ∃ zl, crashL s [] = zl := ⟨_, rfl⟩
  obtain ⟨il, hil⟩ : ∃ il, imageL s = il := ⟨_, rfl⟩
  obtain ⟨cn, hcn⟩ : ∃ cn, cl.length = cn := ⟨_, rfl⟩
  obtain ⟨zn, hzn⟩ : ∃ zn, zl.length = zn := ⟨_, rfl⟩
  obtain ⟨iln, hiln⟩ : ∃ iln, il.length = iln := ⟨_, rfl⟩
  have hcnm : cn ≤ 999999 := by rw [← hcn, ← hcl]; have := crash_len H.out.1 ps; have := H.out.2.1; omega
  have hznm : zn ≤ 999999 := by rw [← hzn, ← hzl]; have := crash_len H.out.1 []; have := H.out.2.1; omega
  have hilm : iln ≤ 999999 := by rw [← hiln, ← hil]; have := image_len H.out.1; have := H.out.2.1; omega
  have HE := Lib.hid (And.intro hcl (And.intro hzl (And.intro hil (And.intro hcn (And.intro hzn hiln)))))
  have HSM := Lib.hid (And.intro (show ∀ p ∈ cl, p.2.length ≤ 140737488351232 by rw [← hcl]; exact crash_small H.out.1 ps) (And.intro (show ∀ p ∈ zl, p.2.length ≤ 140737488351232 by rw [← hzl]; exact crash_small H.out.1 []) (show ∀ p ∈ il, p.2.length ≤ 140737488351232 by rw [← hil]; exact image_small H.out.1)))
  have HGM := Lib.hid (And.intro (show ∀ p ∈ cl, p.2.length ≤ 1073741824 by rw [← hcl]; exact fun p hp => tornAll_small (short_fl H.out.1) _ _ p hp) (show ∀ p ∈ il, p.2.length ≤ 1073741824 by
    rw [← hil]
    intro p hp
    obtain ⟨q, _, rfl⟩ := List.mem_map.1 hp
    have := short_fl H.out.1 q.2 (s.fl q.2).chs.length
    rw [List.take_length] at this
    exact this))
  clear hcl hzl hil hcn hzn hiln
  go_enter Try.func61, Try.ntmps61
  go_upto_region 24 with fail
  have hs := cell_nine M0.out
  have M := Lib.hid (M0.out.next (below_drew (Below.refl _ _)))
  have BL := Lib.hid (below_drew (Below.refl (w.alloc (.cells #[.int .i64 13, .string nm, .string nt, .int .i64 x, .int .i64 y, .slice A n c, .slice A2 n2 c2] 52)).heap.size (w.alloc (.cells #[.int .i64 13, .string nm, .string nt, .int .i64 x, .int .i64 y, .slice A n c, .slice A2 n2 c2] 52))))
  have hsd := cell_nine M.out
  go_region_held3 (fun w' => w'.cell? ⟨bb, 0, none⟩ = some (.pointer (some ⟨d, 0, none⟩)) ∧ w'.cell? ⟨bb, 1, none⟩ = some (.pointer (some ⟨rb, 0, none⟩)) ∧ w'.cell? ⟨w.heap.size, 0, none⟩ = some (.int .i64 13) ∧ w'.cell? ⟨w.heap.size, 1, none⟩ = some (.string nm) ∧ w'.cell? ⟨w.heap.size, 2, none⟩ = some (.string nt) ∧ w'.cell? ⟨w.heap.size, 3, none⟩ = some (.int .i64 x) ∧ w'.cell? ⟨w.heap.size, 4, none⟩ = some (.int .i64 y) ∧ w'.cell? ⟨w.heap.size, 5, none⟩ = some (.slice A n c) ∧ w'.cell? ⟨w.heap.size, 6, none⟩ = some (.slice A2 n2 c2))
    (first | with_reducible exact hs | with_reducible exact hsd)
    (first
      | (go_at_call 10
         refine (lv_crash ps A2 n2 c2 M.out.bo.lv (by have := H.out.2.1; omega) (rd_low H.out.2.2.2.2.2.2.1 M.out.bo.bel) H.out.2.2.2.2.2.1 H.out.2.2.2.2.2.2.2.2.1 H.out.2.2.2.2.2.2.2.1 (by have := H.out.2.2.2.2.2.2.2.2.2; omega)).mono ?_
         rintro e w1 ⟨usX, bX, cX, rfl, hf, hb⟩
         rw [HE.out.1, HE.out.2.2.2.1] at hf
         rw [HE.out.1, HE.out.2.2.2.1]
         have qX := Lib.hid hf.flq
         have fX := Lib.hid hb.size
         have tM := Lib.hid (M.out.next hb)
         have tB := Lib.hid (bel_next BL.out hb)
         clear M BL hs hsd
         have M := tM
         have BL := tB
         have hs := cell_nine M.out
         have hsd := hs
         clear tM tB
         have hbc := M.out.bo.bx.cell
         have hxc := M.out.bx.cell
         clear hf hb))
  have U1 := trivial
  go_upto_region 27 with (first
    | (go_at_call 57
       have z := U1
       clear z
       refine (lv_image M.out.bo.lv (by have := H.out.2.1; omega)).mono ?_
       rintro e w2 ⟨usU, bU, cU, rfl, hf, hb⟩
       rw [HE.out.2.2.1, HE.out.2.2.2.2.2] at hf
       rw [HE.out.2.2.1, HE.out.2.2.2.2.2]
       have qU := Lib.hid hf.flq
       have fU := Lib.hid hb.size
       have tM := Lib.hid (M.out.next hb)
       have tB := Lib.hid (bel_next BL.out hb)
       clear M BL hs hsd
       have M := tM
       have BL := tB
       have hs := cell_nine M.out
       have hsd := hs
       clear tM tB
       have tqX := Lib.hid (qX.out.next hb)
       clear qX
       have qX := tqX
       clear tqX
       have U2 := trivial
       have hbc := M.out.bo.bx.cell
       have hxc := M.out.bx.cell
       clear hf hb U1)
    | (go_at_call 10
       have z := U2
       clear z
       refine (lv_crash [] none 0 0 M.out.bo.lv (by have := H.out.2.1; omega) (Rd.nil _ _ _) rfl (Nat.le_refl _) (by simp) (by omega)).mono ?_
       rintro e w3 ⟨usZ, bZ, cZ, rfl, hf, hb⟩
       rw [HE.out.2.1, HE.out.2.2.2.2.1] at hf
       rw [HE.out.2.1, HE.out.2.2.2.2.1]
       have qZ := Lib.hid hf.flq
       have fZ := Lib.hid hb.size
       have tM := Lib.hid (M.out.next hb)
       have tB := Lib.hid (bel_next BL.out hb)
       clear M BL hs hsd
       have M := tM
       have BL := tB
       have hs := cell_nine M.out
       have hsd := hs
       clear tM tB
       have tqX := Lib.hid (qX.out.next hb)
       clear qX
       have qX := tqX
       clear tqX
       have tqU := Lib.hid (qU.out.next hb)
       clear qU
       have qU := tqU
       clear tqU
       have U3 := trivial
       have hbc := M.out.bo.bx.cell
       have hxc := M.out.bx.cell
       clear hf hb U2))
  have hbd : Below w3.heap.size w3 w3.drew := below_drew (Below.refl _ _)
  have tM := Lib.hid (M.out.next hbd)
  have tB := Lib.hid (bel_next BL.out hbd)
  clear M BL hs hsd
  have M := tM
  have BL := tB
  have hs := cell_nine M.out
  have hsd := hs
  clear tM tB
  have tqX := Lib.hid (qX.out.next hbd)
  clear qX
  have qX := tqX
  clear tqX
  have tqU := Lib.hid (qU.out.next hbd)
  clear qU
  have qU := tqU
  clear tqU
  have tqZ := Lib.hid (qZ.out.next hbd)
  clear qZ
  have qZ := tqZ
  clear tqZ
  clear hbd
  go_region_held3 (fun w' => w'.cell? ⟨bb, 0, none⟩ = some (.pointer (some ⟨d, 0, none⟩)) ∧ w'.cell? ⟨bb, 1, none⟩ = some (.pointer (some ⟨rb, 0, none⟩)) ∧ w'.cell? ⟨w.heap.size, 0, none⟩ = some (.int .i64 13) ∧ w'.cell? ⟨w.heap.size, 1, none⟩ = some (.string nm) ∧ w'.cell? ⟨w.heap.size, 2, none⟩ = some (.string nt) ∧ w'.cell? ⟨w.heap.size, 3, none⟩ = some (.int .i64 x) ∧ w'.cell? ⟨w.heap.size, 4, none⟩ = some (.int .i64 y) ∧ w'.cell? ⟨w.heap.size, 5, none⟩ = some (.slice A n c) ∧ w'.cell? ⟨w.heap.size, 6, none⟩ = some (.slice A2 n2 c2))
    (first | with_reducible exact hs | with_reducible exact hsd)
    (first
      | (go_at_call 10
         refine (lv_crash ps A2 n2 c2 M.out.bo.lv (by have := H.out.2.1; omega) (rd_low H.out.2.2.2.2.2.2.1 M.out.bo.bel) H.out.2.2.2.2.2.1 H.out.2.2.2.2.2.2.2.2.1 H.out.2.2.2.2.2.2.2.1 (by have := H.out.2.2.2.2.2.2.2.2.2; omega)).mono ?_
         rintro e w4 ⟨usW, bW, cW, rfl, hf, hb⟩
         rw [HE.out.1, HE.out.2.2.2.1] at hf
         rw [HE.out.1, HE.out.2.2.2.1]
         have qW := Lib.hid hf.flq
         have fW := Lib.hid hb.size
         have tM := Lib.hid (M.out.next hb)
         have tB := Lib.hid (bel_next BL.out hb)
         clear M BL hs hsd
         have M := tM
         have BL := tB
         have hs := cell_nine M.out
         have hsd := hs
         clear tM tB
         have tqX := Lib.hid (qX.out.next hb)
         clear qX
         have qX := tqX
         clear tqX
         have tqU := Lib.hid (qU.out.next hb)
         clear qU
         have qU := tqU
         clear tqU
         have tqZ := Lib.hid (qZ.out.next hb)
         clear qZ
         have qZ := tqZ
         clear tqZ
         have hbc := M.out.bo.bx.cell
         have hxc := M.out.bx.cell
         clear hf hb))
  go_upto_region 29 with (first
    | (go_at_call 57
       have z := U3
       clear z
       refine (lv_image M.out.bo.lv (by have := H.out.2.1; omega)).mono ?_
       rintro e w5 ⟨usV, bV, cV, rfl, hf, hb⟩
       rw [HE.out.2.2.1, HE.out.2.2.2.2.2] at hf
       rw [HE.out.2.2.1, HE.out.2.2.2.2.2]
       have qV := Lib.hid hf.flq
       have fV := Lib.hid hb.size
       have tM := Lib.hid (M.out.next hb)
       have tB := Lib.hid (bel_next BL.out hb)
       clear M BL hs hsd
       have M := tM
       have BL := tB
       have hs := cell_nine M.out
       have hsd := hs
       clear tM tB
       have tqX := Lib.hid (qX.out.next hb)
       clear qX
       have qX := tqX
       clear tqX
       have tqU := Lib.hid (qU.out.next hb)
       clear qU
       have qU := tqU
       clear tqU
       have tqZ := Lib.hid (qZ.out.next hb)
       clear qZ
       have qZ := tqZ
       clear tqZ
       have tqW := Lib.hid (qW.out.next hb)
       clear qW
       have qW := tqW
       clear tqW
       have U4 := trivial
       have hbc := M.out.bo.bx.cell
       have hxc := M.out.bx.cell
       clear hf hb U3))
  have hbd : Below w5.heap.size w5 w5.drew := below_drew (Below.refl _ _)
  have tM := Lib.hid (M.out.next hbd)
  have tB := Lib.hid (bel_next BL.out hbd)
  clear M BL hs hsd
  have M := tM
  have BL := tB
  have hs := cell_nine M.out
  have hsd := hs
  clear tM tB
  have tqX := Lib.hid (qX.out.next hbd)
  clear qX
  have qX := tqX
  clear tqX
  have tqU := Lib.hid (qU.out.next hbd)
  clear qU
  have qU := tqU
  clear tqU
  have tqZ := Lib.hid (qZ.out.next hbd)
  clear qZ
  have qZ := tqZ
  clear tqZ
  have tqW := Lib.hid (qW.out.next hbd)
  clear qW
  have qW := tqW
  clear tqW
  have tqV := Lib.hid (qV.out.next hbd)
  clear qV
  have qV := tqV
  clear tqV
  clear hbd
  go_region_held3 (fun w' => w'.cell? ⟨bb, 0, none⟩ = some (.pointer (some ⟨d, 0, none⟩)) ∧ w'.cell? ⟨bb, 1, none⟩ = some (.pointer (some ⟨rb, 0, none⟩)) ∧ w'.cell? ⟨w.heap.size, 0, none⟩ = some (.int .i64 13) ∧ w'.cell? ⟨w.heap.size, 1, none⟩ = some (.string nm) ∧ w'.cell? ⟨w.heap.size, 2, none⟩ = some (.string nt) ∧ w'.cell? ⟨w.heap.size, 3, none⟩ = some (.int .i64 x) ∧ w'.cell? ⟨w.heap.size, 4, none⟩ = some (.int .i64 y) ∧ w'.cell? ⟨w.heap.size, 5, none⟩ = some (.slice A n c) ∧ w'.cell? ⟨w.heap.size, 6, none⟩ = some (.slice A2 n2 c2))
    (first | with_reducible exact hs | with_reducible exact hsd)
    (first
      | (go_at_call 65
         refine (crashR_any rb L s N c2 n2 ps A2 _ M.out.bo.rd H.out.1 (by have := H.out.2.1; omega) (rd_low H.out.2.2.2.2.2.2.1 M.out.bo.bel) H.out.2.2.2.2.2.1 H.out.2.2.2.2.2.2.2.1 (by have := H.out.2.2.2.2.2.2.2.2.2; omega)).mono ?_
         rintro e w6 ⟨usY, bY, cY, rfl, hf, hb⟩
         rw [HE.out.1, HE.out.2.2.2.1] at hf
         rw [HE.out.1, HE.out.2.2.2.1]
         have qY := Lib.hid hf.flq
         have fY := Lib.hid hb.size
         have tM := Lib.hid (M.out.next hb)
         have tB := Lib.hid (bel_next BL.out hb)
         clear M BL hs hsd
         have M := tM
         have BL := tB
         have hs := cell_nine M.out
         have hsd := hs
         clear tM tB
         have tqX := Lib.hid (qX.out.next hb)
         clear qX
         have qX := tqX
         clear tqX
         have tqU := Lib.hid (qU.out.next hb)
         clear qU
         have qU := tqU
         clear tqU
         have tqZ := Lib.hid (qZ.out.next hb)
         clear qZ
         have qZ := tqZ
         clear tqZ
         have tqW := Lib.hid (qW.out.next hb)
         clear qW
         have qW := tqW
         clear tqW
         have tqV := Lib.hid (qV.out.next hb)
         clear qV
         have qV := tqV
         clear tqV
         have hbc := M.out.bo.bx.cell
         have hxc := M.out.bx.cell
         clear hf hb))
  go_upto_region 32 with (first
    | (go_at_call 58
       have z := U4
       clear z
       refine (imageR_any rb L s N _ M.out.bo.rd H.out.1 (by have := H.out.2.1; omega) (by have := H.out.2.2.1; omega)).mono ?_
       rintro e w7 ⟨usI, bI, cI, rfl, hf, hb⟩
       rw [HE.out.2.2.1, HE.out.2.2.2.2.2] at hf
       rw [HE.out.2.2.1, HE.out.2.2.2.2.2]
       have qI := Lib.hid hf.flq
       have fI := Lib.hid hb.size
       have tM := Lib.hid (M.out.next hb)
       have tB := Lib.hid (bel_next BL.out hb)
       clear M BL hs hsd
       have M := tM
       have BL := tB
       have hs := cell_nine M.out
       have hsd := hs
       clear tM tB
       have tqX := Lib.hid (qX.out.next hb)
       clear qX
       have qX := tqX
       clear tqX
       have tqU := Lib.hid (qU.out.next hb)
       clear qU
       have qU := tqU
       clear tqU
       have tqZ := Lib.hid (qZ.out.next hb)
       clear qZ
       have qZ := tqZ
       clear tqZ
       have tqW := Lib.hid (qW.out.next hb)
       clear qW
       have qW := tqW
       clear tqW
       have tqV := Lib.hid (qV.out.next hb)
       clear qV
       have qV := tqV
       clear tqV
       have tqY := Lib.hid (qY.out.next hb)
       clear qY
       have qY := tqY
       clear tqY
       have U5 := trivial
       have hbc := M.out.bo.bx.cell
       have hxc := M.out.bx.cell
       clear hf hb U4)
    | (go_at_call 65
       have z := U5
       clear z
       refine (crashR_any rb L s N 0 0 [] none _ M.out.bo.rd H.out.1 (by have := H.out.2.1; omega) (Rd.nil _ _ _) rfl (by simp) (by omega)).mono ?_
       rintro e w8 ⟨usN, bN, cN, rfl, hf, hb⟩
       rw [HE.out.2.1, HE.out.2.2.2.2.1] at hf
       rw [HE.out.2.1, HE.out.2.2.2.2.1]
       have qN := Lib.hid hf.flq
       have fN := Lib.hid hb.size
       have tM := Lib.hid (M.out.next hb)
       have tB := Lib.hid (bel_next BL.out hb)
       clear M BL hs hsd
       have M := tM
       have BL := tB
       have hs := cell_nine M.out
       have hsd := hs
       clear tM tB
       have tqX := Lib.hid (qX.out.next hb)
       clear qX
       have qX := tqX
       clear tqX
       have tqU := Lib.hid (qU.out.next hb)
       clear qU
       have qU := tqU
       clear tqU
       have tqZ := Lib.hid (qZ.out.next hb)
       clear qZ
       have qZ := tqZ
       clear tqZ
       have tqW := Lib.hid (qW.out.next hb)
       clear qW
       have qW := tqW
       clear tqW
       have tqV := Lib.hid (qV.out.next hb)
       clear qV
       have qV := tqV
       clear tqV
       have tqY := Lib.hid (qY.out.next hb)
       clear qY
       have qY := tqY
       clear tqY
       have tqI := Lib.hid (qI.out.next hb)
       clear qI
       have qI := tqI
       clear tqI
       have U6 := trivial
       have hbc := M.out.bo.bx.cell
       have hxc := M.out.bx.cell
       clear hf hb U5))
  have MM := Lib.hid (fun v (hv : Below (w.alloc (.cells #[.int .i64 13, .string nm, .string nt, .int .i64 x, .int .i64 y, .slice A n c, .slice A2 n2 c2] 52)).heap.size (w.alloc (.cells #[.int .i64 13, .string nm, .string nt, .int .i64 x, .int .i64 y, .slice A n c, .slice A2 n2 c2] 52)) v) => M0.out.next hv)
  have pX := Lib.hid (show (w.alloc (.cells #[.int .i64 13, .string nm, .string nt, .int .i64 x, .int .i64 y, .slice A n c, .slice A2 n2 c2] 52)).heap.size ≤ (w.alloc (.cells #[.int .i64 13, .string nm, .string nt, .int .i64 x, .int .i64 y, .slice A n c, .slice A2 n2 c2] 52)).drew.heap.size from Nat.le_refl _)
  have pU := Lib.hid (show (w.alloc (.cells #[.int .i64 13, .string nm, .string nt, .int .i64 x, .int .i64 y, .slice A n c, .slice A2 n2 c2] 52)).heap.size ≤ w1.heap.size from fX.out)
  have g12 := fU.out
  have g13 : w1.heap.size ≤ w3.drew.heap.size := Nat.le_trans g12 fZ.out
  have g14 : w1.heap.size ≤ w4.heap.size := Nat.le_trans g13 fW.out
  have g15 : w1.heap.size ≤ w5.drew.heap.size := Nat.le_trans g14 fV.out
  have g16 : w1.heap.size ≤ w6.heap.size := Nat.le_trans g15 fY.out
  have g17 : w1.heap.size ≤ w7.heap.size := Nat.le_trans g16 fI.out
  have g23 : w2.heap.size ≤ w3.drew.heap.size := fZ.out
  have g24 : w2.heap.size ≤ w4.heap.size := Nat.le_trans g23 fW.out
  have g25 : w2.heap.size ≤ w5.drew.heap.size := Nat.le_trans g24 fV.out
  have g26 : w2.heap.size ≤ w6.heap.size := Nat.le_trans g25 fY.out
  have g27 : w2.heap.size ≤ w7.heap.size := Nat.le_trans g26 fI.out
  have djXU := Lib.hid (Nat.le_refl w1.heap.size)
  have djXZ := Lib.hid g12
  have djXW := Lib.hid g13
  have djXV := Lib.hid g14
  have djXY := Lib.hid g15
  have djXI := Lib.hid g16
  have djXN := Lib.hid g17
  have djUZ := Lib.hid (Nat.le_refl w2.heap.size)
  have djUW := Lib.hid g23
  have djUV := Lib.hid g24
  have djUY := Lib.hid g25
  have djUI := Lib.hid g26
  have djUN := Lib.hid g27
  clear g12 g13 g14 g15 g16 g17 g23 g24 g25 g26 g27
  go_wp2_with (first
    | (go_at_call 16
       have z := U6
       clear z
       refine (sameImage_any bX bY cn cX cn cY cl cl _ HE.out.2.2.2.1 HE.out.2.2.2.1 qX.out.im qY.out.im (by omega) (by omega) HSM.out.1 HSM.out.1).mono ?_
       rintro e w9 ⟨rfl, kq, hwq⟩
       rw [show decide (cl = cl) = true from decide_eq_true rfl]
       have hb : Below w8.heap.size w8 w9 := by rw [hwq]; exact below_drewN (Below.refl _ _) kq
       have tM := Lib.hid (M.out.next hb)
       have tB := Lib.hid (bel_next BL.out hb)
       clear M BL hs hsd
       have M := tM
       have BL := tB
       have hs := cell_nine M.out
       have hsd := hs
       clear tM tB
       have tqX := Lib.hid (qX.out.next hb)
       clear qX
       have qX := tqX
       clear tqX
       have tqU := Lib.hid (qU.out.next hb)
       clear qU
       have qU := tqU
       clear tqU
       have tqZ := Lib.hid (qZ.out.next hb)
       clear qZ
       have qZ := tqZ
       clear tqZ
       have tqW := Lib.hid (qW.out.next hb)
       clear qW
       have qW := tqW
       clear tqW
       have tqV := Lib.hid (qV.out.next hb)
       clear qV
       have qV := tqV
       clear tqV
       have tqY := Lib.hid (qY.out.next hb)
       clear qY
       have qY := tqY
       clear tqY
       have tqI := Lib.hid (qI.out.next hb)
       clear qI
       have qI := tqI
       clear tqI
       have tqN := Lib.hid (qN.out.next hb)
       clear qN
       have qN := tqN
       clear tqN
       have S1 := trivial
       have hbc := M.out.bo.bx.cell
       have hxc := M.out.bx.cell
       clear hwq hb U6)
    | (go_at_call 16
       have z := S1
       clear z
       refine (sameImage_any bW bY cn cW cn cY cl cl _ HE.out.2.2.2.1 HE.out.2.2.2.1 qW.out.im qY.out.im (by omega) (by omega) HSM.out.1 HSM.out.1).mono ?_
       rintro e w10 ⟨rfl, kq, hwq⟩
       rw [show decide (cl = cl) = true from decide_eq_true rfl]
       have hb : Below w9.heap.size w9 w10 := by rw [hwq]; exact below_drewN (Below.refl _ _) kq
       have tM := Lib.hid (M.out.next hb)
       have tB := Lib.hid (bel_next BL.out hb)
       clear M BL hs hsd
       have M := tM
       have BL := tB
       have hs := cell_nine M.out
       have hsd := hs
       clear tM tB
       have tqX := Lib.hid (qX.out.next hb)
       clear qX
       have qX := tqX
       clear tqX
       have tqU := Lib.hid (qU.out.next hb)
       clear qU
       have qU := tqU
       clear tqU
       have tqZ := Lib.hid (qZ.out.next hb)
       clear qZ
       have qZ := tqZ
       clear tqZ
       have tqW := Lib.hid (qW.out.next hb)
       clear qW
       have qW := tqW
       clear tqW
       have tqV := Lib.hid (qV.out.next hb)
       clear qV
       have qV := tqV
       clear tqV
       have tqY := Lib.hid (qY.out.next hb)
       clear qY
       have qY := tqY
       clear tqY
       have tqI := Lib.hid (qI.out.next hb)
       clear qI
       have qI := tqI
       clear tqI
       have tqN := Lib.hid (qN.out.next hb)
       clear qN
       have qN := tqN
       clear tqN
       have S2 := trivial
       have hbc := M.out.bo.bx.cell
       have hxc := M.out.bx.cell
       clear hwq hb S1)
    | (go_at_call 16
       have z := S2
       clear z
       refine (sameImage_any bU bI iln cU iln cI il il _ HE.out.2.2.2.2.2 HE.out.2.2.2.2.2 qU.out.im qI.out.im (by omega) (by omega) HSM.out.2.2 HSM.out.2.2).mono ?_
       rintro e w11 ⟨rfl, kq, hwq⟩
       rw [show decide (il = il) = true from decide_eq_true rfl]
       have hb : Below w10.heap.size w10 w11 := by rw [hwq]; exact below_drewN (Below.refl _ _) kq
       have tM := Lib.hid (M.out.next hb)
       have tB := Lib.hid (bel_next BL.out hb)
       clear M BL hs hsd
       have M := tM
       have BL := tB
       have hs := cell_nine M.out
       have hsd := hs
       clear tM tB
       have tqX := Lib.hid (qX.out.next hb)
       clear qX
       have qX := tqX
       clear tqX
       have tqU := Lib.hid (qU.out.next hb)
       clear qU
       have qU := tqU
       clear tqU
       have tqZ := Lib.hid (qZ.out.next hb)
       clear qZ
       have qZ := tqZ
       clear tqZ
       have tqW := Lib.hid (qW.out.next hb)
       clear qW
       have qW := tqW
       clear tqW
       have tqV := Lib.hid (qV.out.next hb)
       clear qV
       have qV := tqV
       clear tqV
       have tqY := Lib.hid (qY.out.next hb)
       clear qY
       have qY := tqY
       clear tqY
       have tqI := Lib.hid (qI.out.next hb)
       clear qI
       have qI := tqI
       clear tqI
       have tqN := Lib.hid (qN.out.next hb)
       clear qN
       have qN := tqN
       clear tqN
       have S3 := trivial
       have hbc := M.out.bo.bx.cell
       have hxc := M.out.bx.cell
       clear hwq hb S2)
    | (go_at_call 16
       have z := S3
       clear z
       refine (sameImage_any bV bI iln cV iln cI il il _ HE.out.2.2.2.2.2 HE.out.2.2.2.2.2 qV.out.im qI.out.im (by omega) (by omega) HSM.out.2.2 HSM.out.2.2).mono ?_
       rintro e w12 ⟨rfl, kq, hwq⟩
       rw [show decide (il = il) = true from decide_eq_true rfl]
       have hb : Below w11.heap.size w11 w12 := by rw [hwq]; exact below_drewN (Below.refl _ _) kq
       have tM := Lib.hid (M.out.next hb)
       have tB := Lib.hid (bel_next BL.out hb)
       clear M BL hs hsd
       have M := tM
       have BL := tB
       have hs := cell_nine M.out
       have hsd := hs
       clear tM tB
       have tqX := Lib.hid (qX.out.next hb)
       clear qX
       have qX := tqX
       clear tqX
       have tqU := Lib.hid (qU.out.next hb)
       clear qU
       have qU := tqU
       clear tqU
       have tqZ := Lib.hid (qZ.out.next hb)
       clear qZ
       have qZ := tqZ
       clear tqZ
       have tqW := Lib.hid (qW.out.next hb)
       clear qW
       have qW := tqW
       clear tqW
       have tqV := Lib.hid (qV.out.next hb)
       clear qV
       have qV := tqV
       clear tqV
       have tqY := Lib.hid (qY.out.next hb)
       clear qY
       have qY := tqY
       clear tqY
       have tqI := Lib.hid (qI.out.next hb)
       clear qI
       have qI := tqI
       clear tqI
       have tqN := Lib.hid (qN.out.next hb)
       clear qN
       have qN := tqN
       clear tqN
       have S4 := trivial
       have hbc := M.out.bo.bx.cell
       have hxc := M.out.bx.cell
       clear hwq hb S3)
    | (go_at_call 16
       have z := S4
       clear z
       refine (sameImage_any bZ bN zn cZ zn cN zl zl _ HE.out.2.2.2.2.1 HE.out.2.2.2.2.1 qZ.out.im qN.out.im (by omega) (by omega) HSM.out.2.1 HSM.out.2.1).mono ?_
       rintro e w13 ⟨rfl, kq, hwq⟩
       rw [show decide (zl = zl) = true from decide_eq_true rfl]
       have hb : Below w12.heap.size w12 w13 := by rw [hwq]; exact below_drewN (Below.refl _ _) kq
       have tM := Lib.hid (M.out.next hb)
       have tB := Lib.hid (bel_next BL.out hb)
       clear M BL hs hsd
       have M := tM
       have BL := tB
       have hs := cell_nine M.out
       have hsd := hs
       clear tM tB
       have tqX := Lib.hid (qX.out.next hb)
       clear qX
       have qX := tqX
       clear tqX
       have tqU := Lib.hid (qU.out.next hb)
       clear qU
       have qU := tqU
       clear tqU
       have tqZ := Lib.hid (qZ.out.next hb)
       clear qZ
       have qZ := tqZ
       clear tqZ
       have tqW := Lib.hid (qW.out.next hb)
       clear qW
       have qW := tqW
       clear tqW
       have tqV := Lib.hid (qV.out.next hb)
       clear qV
       have qV := tqV
       clear tqV
       have tqY := Lib.hid (qY.out.next hb)
       clear qY
       have qY := tqY
       clear tqY
       have tqI := Lib.hid (qI.out.next hb)
       clear qI
       have qI := tqI
       clear tqI
       have tqN := Lib.hid (qN.out.next hb)
       clear qN
       have qN := tqN
       clear tqN
       have S5 := trivial
       have hbc := M.out.bo.bx.cell
       have hxc := M.out.bx.cell
       clear hwq hb S4)
    | (go_at_call 103
       have z := S5
       clear z
       refine (gone_any _ _ cn cX bX cl usX _ qX.out.f HE.out.2.2.2.1 qX.out.e1 qX.out.e2 (by have h1 := fX.out; have h2 := qX.out.ez; exact Nat.le_trans h1 h2) (by omega) HGM.out.1).mono ?_
       rintro e w14 ⟨rfl, hc⟩
       have hbw := hc.below BL.out.size fun j hj => Nat.le_trans pX.out hj.1
       have tM := Lib.hid (MM.out w14 (BL.out.trans hbw))
       have tB := Lib.hid (BL.out.trans hbw)
       clear M BL hs hsd
       have M := tM
       have BL := tB
       clear tM tB
       have tU := Lib.hid (qU.out.chg hc (.inl djXU.out))
       clear qU
       have qU := tU
       clear tU
       have tZ := Lib.hid (qZ.out.chg hc (.inl djXZ.out))
       clear qZ
       have qZ := tZ
       clear tZ
       have tW := Lib.hid (qW.out.chg hc (.inl djXW.out))
       clear qW
       have qW := tW
       clear tW
       have tV := Lib.hid (qV.out.chg hc (.inl djXV.out))
       clear qV
       have qV := tV
       clear tV
       have tY := Lib.hid (qY.out.chg hc (.inl djXY.out))
       clear qY
       have qY := tY
       clear tY
       have tI := Lib.hid (qI.out.chg hc (.inl djXI.out))
       clear qI
       have qI := tI
       clear tI
       have tN := Lib.hid (qN.out.chg hc (.inl djXN.out))
       clear qN
       have qN := tN
       clear tN
       have hs := cell_nine M.out
       have hsd := hs
       have S6 := trivial
       have hbc := M.out.bo.bx.cell
       have hxc := M.out.bx.cell
       clear hc hbw qX S5)
    | (go_at_call 103
       have z := S6
       clear z
       refine (gone_any _ _ iln cU bU il usU _ qU.out.f HE.out.2.2.2.2.2 qU.out.e1 qU.out.e2 (by have h1 := fU.out; have h2 := qU.out.ez; exact Nat.le_trans h1 h2) (by omega) HGM.out.2).mono ?_
       rintro e w15 ⟨rfl, hc⟩
       have hbw := hc.below BL.out.size fun j hj => Nat.le_trans pU.out hj.1
       have tM := Lib.hid (MM.out w15 (BL.out.trans hbw))
       have tB := Lib.hid (BL.out.trans hbw)
       clear M BL hs hsd
       have M := tM
       have BL := tB
       clear tM tB
       have tZ := Lib.hid (qZ.out.chg hc (.inl djUZ.out))
       clear qZ
       have qZ := tZ
       clear tZ
       have tW := Lib.hid (qW.out.chg hc (.inl djUW.out))
       clear qW
       have qW := tW
       clear tW
       have tV := Lib.hid (qV.out.chg hc (.inl djUV.out))
       clear qV
       have qV := tV
       clear tV
       have tY := Lib.hid (qY.out.chg hc (.inl djUY.out))
       clear qY
       have qY := tY
       clear tY
       have tI := Lib.hid (qI.out.chg hc (.inl djUI.out))
       clear qI
       have qI := tI
       clear tI
       have tN := Lib.hid (qN.out.chg hc (.inl djUN.out))
       clear qN
       have qN := tN
       clear tN
       have hs := cell_nine M.out
       have hsd := hs
       have S7 := trivial
       have hbc := M.out.bo.bx.cell
       have hxc := M.out.bx.cell
       clear hc hbw qU S6)
    | (go_at_call 16
       have z := S7
       clear z
       refine (sameImage_any bW bY cn cW cn cY cl cl _ HE.out.2.2.2.1 HE.out.2.2.2.1 qW.out.im qY.out.im (by omega) (by omega) HSM.out.1 HSM.out.1).mono ?_
       rintro e w16 ⟨rfl, kq, hwq⟩
       rw [show decide (cl = cl) = true from decide_eq_true rfl]
       have hb : Below w15.heap.size w15 w16 := by rw [hwq]; exact below_drewN (Below.refl _ _) kq
       have tM := Lib.hid (M.out.next hb)
       have tB := Lib.hid (bel_next BL.out hb)
       clear M BL hs hsd
       have M := tM
       have BL := tB
       have hs := cell_nine M.out
       have hsd := hs
       clear tM tB
       have tqZ := Lib.hid (qZ.out.next hb)
       clear qZ
       have qZ := tqZ
       clear tqZ
       have tqW := Lib.hid (qW.out.next hb)
       clear qW
       have qW := tqW
       clear tqW
       have tqV := Lib.hid (qV.out.next hb)
       clear qV
       have qV := tqV
       clear tqV
       have tqY := Lib.hid (qY.out.next hb)
       clear qY
       have qY := tqY
       clear tqY
       have tqI := Lib.hid (qI.out.next hb)
       clear qI
       have qI := tqI
       clear tqI
       have tqN := Lib.hid (qN.out.next hb)
       clear qN
       have qN := tqN
       clear tqN
       have S8 := trivial
       have hbc := M.out.bo.bx.cell
       have hxc := M.out.bx.cell
       clear hwq hb S7)
    | (go_at_call 16
       have z := S8
       clear z
       refine (sameImage_any bV bI iln cV iln cI il il _ HE.out.2.2.2.2.2 HE.out.2.2.2.2.2 qV.out.im qI.out.im (by omega) (by omega) HSM.out.2.2 HSM.out.2.2).mono ?_
       rintro e w17 ⟨rfl, kq, hwq⟩
       rw [show decide (il = il) = true from decide_eq_true rfl]
       have hb : Below w16.heap.size w16 w17 := by rw [hwq]; exact below_drewN (Below.refl _ _) kq
       have tM := Lib.hid (M.out.next hb)
       have tB := Lib.hid (bel_next BL.out hb)
       clear M BL hs hsd
       have M := tM
       have BL := tB
       have hs := cell_nine M.out
       have hsd := hs
       clear tM tB
       have tqZ := Lib.hid (qZ.out.next hb)
       clear qZ
       have qZ := tqZ
       clear tqZ
       have tqW := Lib.hid (qW.out.next hb)
       clear qW
       have qW := tqW
       clear tqW
       have tqV := Lib.hid (qV.out.next hb)
       clear qV
       have qV := tqV
       clear tqV
       have tqY := Lib.hid (qY.out.next hb)
       clear qY
       have qY := tqY
       clear tqY
       have tqI := Lib.hid (qI.out.next hb)
       clear qI
       have qI := tqI
       clear tqI
       have tqN := Lib.hid (qN.out.next hb)
       clear qN
       have qN := tqN
       clear tqN
       have S9 := trivial
       have hbc := M.out.bo.bx.cell
       have hxc := M.out.bx.cell
       clear hwq hb S8)
    | (go_at_call 16
       have z := S9
       clear z
       refine (sameImage_any bZ bN zn cZ zn cN zl zl _ HE.out.2.2.2.2.1 HE.out.2.2.2.2.1 qZ.out.im qN.out.im (by omega) (by omega) HSM.out.2.1 HSM.out.2.1).mono ?_
       rintro e w18 ⟨rfl, kq, hwq⟩
       rw [show decide (zl = zl) = true from decide_eq_true rfl]
       have hb : Below w17.heap.size w17 w18 := by rw [hwq]; exact below_drewN (Below.refl _ _) kq
       have tM := Lib.hid (M.out.next hb)
       have tB := Lib.hid (bel_next BL.out hb)
       clear M BL hs hsd
       have M := tM
       have BL := tB
       have hs := cell_nine M.out
       have hsd := hs
       clear tM tB
       have tqZ := Lib.hid (qZ.out.next hb)
       clear qZ
       have qZ := tqZ
       clear tqZ
       have tqW := Lib.hid (qW.out.next hb)
       clear qW
       have qW := tqW
       clear tqW
       have tqV := Lib.hid (qV.out.next hb)
       clear qV
       have qV := tqV
       clear tqV
       have tqY := Lib.hid (qY.out.next hb)
       clear qY
       have qY := tqY
       clear tqY
       have tqI := Lib.hid (qI.out.next hb)
       clear qI
       have qI := tqI
       clear tqI
       have tqN := Lib.hid (qN.out.next hb)
       clear qN
       have qN := tqN
       clear tqN
       have S10 := trivial
       have hbc := M.out.bo.bx.cell
       have hxc := M.out.bx.cell
       clear hwq hb S9)
    | (go_at_call 57
       have z := S10
       clear z
       refine (lv_image M.out.bo.lv (by have := H.out.2.1; omega)).mono ?_
       rintro e w19 ⟨usT, bT, cT, rfl, hf, hb⟩
       rw [HE.out.2.2.1, HE.out.2.2.2.2.2] at hf
       rw [HE.out.2.2.1, HE.out.2.2.2.2.2]
       have qT := Lib.hid hf.flq
       have fT := Lib.hid hb.size
       have tM := Lib.hid (M.out.next hb)
       have tB := Lib.hid (bel_next BL.out hb)
       clear M BL hs hsd
       have M := tM
       have BL := tB
       have hs := cell_nine M.out
       have hsd := hs
       clear tM tB
       have tqZ := Lib.hid (qZ.out.next hb)
       clear qZ
       have qZ := tqZ
       clear tqZ
       have tqW := Lib.hid (qW.out.next hb)
       clear qW
       have qW := tqW
       clear tqW
       have tqV := Lib.hid (qV.out.next hb)
       clear qV
       have qV := tqV
       clear tqV
       have tqY := Lib.hid (qY.out.next hb)
       clear qY
       have qY := tqY
       clear tqY
       have tqI := Lib.hid (qI.out.next hb)
       clear qI
       have qI := tqI
       clear tqI
       have tqN := Lib.hid (qN.out.next hb)
       clear qN
       have qN := tqN
       clear tqN
       have S11 := trivial
       have hbc := M.out.bo.bx.cell
       have hxc := M.out.bx.cell
       clear hf hb S10)
    | (go_at_call 16
       have z := S11
       clear z
       refine (sameImage_any bT bI iln cT iln cI il il _ HE.out.2.2.2.2.2 HE.out.2.2.2.2.2 qT.out.im qI.out.im (by omega) (by omega) HSM.out.2.2 HSM.out.2.2).mono ?_
       rintro e w20 ⟨rfl, kq, hwq⟩
       rw [show decide (il = il) = true from decide_eq_true rfl]
       have hb : Below w19.heap.size w19 w20 := by rw [hwq]; exact below_drewN (Below.refl _ _) kq
       have tM := Lib.hid (M.out.next hb)
       have tB := Lib.hid (bel_next BL.out hb)
       clear M BL hs hsd
       have M := tM
       have BL := tB
       have hs := cell_nine M.out
       have hsd := hs
       clear tM tB
       have tqZ := Lib.hid (qZ.out.next hb)
       clear qZ
       have qZ := tqZ
       clear tqZ
       have tqW := Lib.hid (qW.out.next hb)
       clear qW
       have qW := tqW
       clear tqW
       have tqV := Lib.hid (qV.out.next hb)
       clear qV
       have qV := tqV
       clear tqV
       have tqY := Lib.hid (qY.out.next hb)
       clear qY
       have qY := tqY
       clear tqY
       have tqI := Lib.hid (qI.out.next hb)
       clear qI
       have qI := tqI
       clear tqI
       have tqN := Lib.hid (qN.out.next hb)
       clear qN
       have qN := tqN
       clear tqN
       have tqT := Lib.hid (qT.out.next hb)
       clear qT
       have qT := tqT
       clear tqT
       have S12 := trivial
       have hbc := M.out.bo.bx.cell
       have hxc := M.out.bx.cell
       clear hwq hb S11))
  go_ret
  exact ⟨rfl, bel_next B0.out.1 BL.out⟩
end Go.Proofs.Ytebeefkibbbkdaa
