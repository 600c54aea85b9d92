import Derived.Test.YtglmhpmjebjcgaaKj
/- KeydirMoves: the lists that were handed out: keep. -/
namespace Go.Proofs.Ytglmhpmjebjcgaa
open Go.RowKit Go.Maps

theorem row_keep {B : Nat} {e : TypeId} {size n : Nat} {v : Value} {xs : List Value} {w w' : World} (h : w.ownsRow B e size v n xs) (hk : ∀ g, v.ownBlock = some g → w'.heap[g]? = w.heap[g]?) : w'.ownsRow B e size v n xs := by
  refine ⟨h.1, ?_⟩
  rcases h.2 with h | ⟨g, cap, cur, rfl, h1, h2, h3⟩
  · exact .inl h
  · exact .inr ⟨g, cap, cur, rfl, h1, (hk g rfl).trans h2, h3⟩
section
variable {P : Program} (w : World)
/-- An append onto a row of the call's own: another header onto that row that ends no later reads as it did. -/
theorem run_app_keepN (base : Nat) (t ty e : TypeId) (i : TypeInfo) (z : Value) (size bytes : Nat) (ht : P.underlying t = some (.slice e)) (hi : P.info? e = some i) (hz : i.zero = some z)
    (hsize : i.size = size) (hby : i.bytes = bytes) (hzs : z.cells.size = size) (hsz : 0 < size) (hbp : 0 < bytes) (v : Value) (n : Nat) (xs : List Value) (hown : w.ownsRow base e size v n xs)
    (B : Nat) (ad : Addr) (m c : Nat) (news : List Value) (hl : news.length = m * size) (hr : Rd w B (some ad) news) (h1 : ∀ u ∈ news, u.oneCell' = true)
    (h63 : n + m ≤ maxLen) (hbytes : (n + m) * bytes ≤ 140737488355328) (hbase : base ≤ w.heap.size) :
    ∃ v' w', (Builtin.append_ #[t, t] ty #[v, .slice (some ad) m c]).run P w = .ok v' w' ∧ w'.ownsRow base e size v' (n + m) (xs ++ news) ∧ w.grownBy w' v.ownBlock ∧
      (v'.ownBlock = v.ownBlock ∨ v'.ownBlock = some w.heap.size) ∧ ∀ (b0 : Nat) (u : Value) (k : Nat) (ys : List Value), w.ownsRow b0 e size u k ys → u.ownBlock = v.ownBlock → k ≤ n → w'.ownsRow b0 e size u k ys := by
  obtain ⟨v', w', r1, r2, r3, r4⟩ := run_app (P := P) w base t ty e i z size bytes ht hi hz hsize hby hzs hsz v n xs hown B (some ad) m c news hl hr h1 h63 hbytes hbase
  refine ⟨v', w', r1, r2, r3, r4, fun b0 u k ys hu hug hkn => ?_⟩
  have hnews : ∀ j u, news[j]? = some u → w.cell? (ad.add j) = some u := fun j u hj => by
    obtain ⟨a', ea, _, hc⟩ := hr j u hj
    cases ea
    exact hc
  rcases hown.2 with ⟨rfl, _⟩ | ⟨g, cap, cur, rfl, hg, hh, hnc, hcm, hcs, htk⟩
  · exact row_keep hu fun j hj => by rw [hug] at hj; cases hj
  · rcases hu.2 with ⟨rfl, _⟩ | ⟨g', cap', cur', rfl, hg', hh', hnc', hcm', hcs', htk'⟩
    · cases hug
    · obtain rfl : g' = g := by simpa [Value.ownBlock] using hug
      rw [hh] at hh'
      injection hh' with hh'
      injection hh' with q1 q2 _
      subst q1
      have hcc : cap' = cap := Nat.eq_of_mul_eq_mul_right hsz (hcs'.symm.trans hcs)
      subst hcc
      by_cases hroom : n + m ≤ cap'
      · have hrun := run_append_room (P := P) w t ty e i ht hi g' n cap' cur hh ad m c news (by rw [hl, hsize]) hnews h1 hroom (by rw [hsize, hcs, hl, ← Nat.add_mul]; exact Nat.mul_le_mul_right _ hroom)
        rw [r1] at hrun
        injection hrun with _ hw
        have hnm : n * size ≤ cap' * size := Nat.mul_le_mul_right _ hnc
        have hnm2 : (n + m) * size ≤ cap' * size := Nat.mul_le_mul_right _ hroom
        have hks : k * size ≤ n * size := Nat.mul_le_mul_right _ hkn
        have hcl : cur.toList.length = cap' * size := by rw [Array.length_toList, hcs]
        refine ⟨hu.1, .inr ⟨g', cap', (cur.toList.take (n * size) ++ news ++ cur.toList.drop (n * size + news.length)).toArray, rfl, hg', ?_, hnc', hcm', ?_, ?_⟩⟩
        · rw [hw, hsize]
          simp [World.setRow, Array.getElem?_modify, hh]
        · simp only [List.size_toArray, List.length_append, List.length_take, List.length_drop, hcl]
          rw [Nat.add_mul] at hnm2
          omega
        · rw [List.toList_toArray, List.append_assoc, List.take_append_of_le_length (by rw [List.length_take, hcl]; omega), List.take_take, Nat.min_eq_left hks]
          exact htk'
      · have hrun := run_append_grow (P := P) w t ty e i z ht hi hz ⟨g', 0, none⟩ n cap' xs (by rw [hown.1, hsize]) (fun j u hj => hown.cells rfl j u hj) ad m c news (by rw [hl, hsize]) hnews (by omega) (by unfold maxLen at h63; omega) (by rw [hby]; exact growslice_fits (by omega) hbytes)
        rw [r1] at hrun
        injection hrun with _ hw
        rw [hw]
        exact row_below (row_below hu (Below.refl _ w).drew) (bal _ _)
theorem wpList_app_keepN {ops : Array Oper} {rest : List Oper} {o : Oper} {a : Act} {Q : Exit → Act → World → Prop} (hgd : o.guard = none) (s x : Operand) (t : TypeId)
    (ho : o.op = .call { callee := .builtin .append, args := #[s, x], argTypes := #[t, t] })
    (base : Nat) (e : TypeId) (i : TypeInfo) (z : Value) (size bytes : Nat) (ht : P.underlying t = some (.slice e)) (hi : P.info? e = some i) (hz : i.zero = some z)
    (hsize : i.size = size) (hby : i.bytes = bytes) (hzs : z.cells.size = size) (hsz : 0 < size) (hbp : 0 < bytes)
    (v : Value) (n : Nat) (xs : List Value) (hs : a.eval s = v) (hown : w.ownsRow base e size v n xs)
    (B : Nat) (ad : Addr) (m c : Nat) (news : List Value) (hx : a.eval x = .slice (some ad) m c) (hl : news.length = m * size) (hr : Rd w B (some ad) news) (h1 : ∀ u ∈ news, u.oneCell' = true)
    (h63 : n + m ≤ maxLen) (hbytes : (n + m) * bytes ≤ 140737488355328) (hbase : base ≤ w.heap.size)
    (h : ∀ v' w', w'.ownsRow base e size v' (n + m) (xs ++ news) → w.grownBy w' v.ownBlock → (v'.ownBlock = v.ownBlock ∨ v'.ownBlock = some w.heap.size) → (∀ (b0 : Nat) (u : Value) (k : Nat) (ys : List Value), w.ownsRow b0 e size u k ys → u.ownBlock = v.ownBlock → k ≤ n → w'.ownsRow b0 e size u k ys) → wpList P ops Q rest (a.put o.dst v') w') :
    wpList P ops Q (o :: rest) a w :=
  wpList_plain hgd fun K hK => by
    obtain ⟨v', w', hrun, h2, h3, h4, h5⟩ := run_app_keepN (P := P) w base t o.type e i z size bytes ht hi hz hsize hby hzs hsz hbp v n xs hown B ad m c news hl hr h1 h63 hbytes hbase
    unfold Oper.wp execOp
    simp only [ho, resolve, invoke, builtin, Sem.run_bind, Sem.run_pure, Result.andThen_ok, List.map_toArray, List.map_cons, List.map_nil, hs, hx, hrun]
    exact hK _ _ (h v' w' h2 h3 h4 h5)
end

theorem flat_setA (l : List KE) (i : Nat) (hi : i < l.length) (x : KE) :
    (l.set i x).flatMap keC = (((((((l.flatMap keC).set (i * 7) (.string x.1)).set (i * 7 + 1) (.int .i64 x.2.seg)).set (i * 7 + 2) (.int .i64 x.2.at_)).set (i * 7 + 3) (.int .i64 x.2.size)).set (i * 7 + 4) (.int .i64 x.2.off)).set (i * 7 + 5) (.int .i64 x.2.time)).set (i * 7 + 6) (.bool x.2.tomb) := by
  induction l generalizing i with
  | nil => simp at hi
  | cons q l ih =>
    cases i with
    | zero => simp [keC, En.cells]
    | succ i =>
      have e7 : (i + 1) * 7 = i * 7 + 7 := by omega
      have hl : (keC q).length = 7 := rfl
      have h2 : i < l.length := by simpa using hi
      have := ih i h2
      simp only [List.set_cons_succ, List.flatMap_cons, this, e7]
      rw [List.set_append_right _ _ (by omega), List.set_append_right _ _ (by omega), List.set_append_right _ _ (by omega), List.set_append_right _ _ (by omega), List.set_append_right _ _ (by omega), List.set_append_right _ _ (by omega), List.set_append_right _ _ (by omega), hl,
        show i * 7 + 7 - 7 = i * 7 by omega, show i * 7 + 7 + 1 - 7 = i * 7 + 1 by omega, show i * 7 + 7 + 2 - 7 = i * 7 + 2 by omega, show i * 7 + 7 + 3 - 7 = i * 7 + 3 by omega, show i * 7 + 7 + 4 - 7 = i * 7 + 4 by omega, show i * 7 + 7 + 5 - 7 = i * 7 + 5 by omega, show i * 7 + 7 + 6 - 7 = i * 7 + 6 by omega]
/-- The seven cells of an entry of a row written anew. -/
def set7 (w : World) (g i : Nat) (x : KE) : World := ((((((w.setCell ⟨g, i * 7, none⟩ (.string x.1)).setCell ⟨g, i * 7 + 1, none⟩ (.int .i64 x.2.seg)).setCell ⟨g, i * 7 + 2, none⟩ (.int .i64 x.2.at_)).setCell ⟨g, i * 7 + 3, none⟩ (.int .i64 x.2.size)).setCell ⟨g, i * 7 + 4, none⟩ (.int .i64 x.2.off)).setCell ⟨g, i * 7 + 5, none⟩ (.int .i64 x.2.time)).setCell ⟨g, i * 7 + 6, none⟩ (.bool x.2.tomb)
theorem row_setA {w : World} {B g c i n : Nat} {xs : List KE} (x : KE) (h : w.ownsRow B 58 7 (.slice (some ⟨g, 0, none⟩) n c) n (xs.flatMap keC)) (hi : i < xs.length) :
    (set7 w g i x).ownsRow B 58 7 (.slice (some ⟨g, 0, none⟩) n c) n ((xs.set i x).flatMap keC) := by
  refine ⟨by rw [keC_len, List.length_set, ← keC_len, h.1], .inr ?_⟩
  rcases h.2 with ⟨hv, _⟩ | ⟨g', c', cur, hv, hg, hh, hnc, hcm, hsz, htk⟩
  · cases hv
  · injection hv with e1 _ e2
    injection e1 with e1
    injection e1 with e1
    subst e1 e2
    refine ⟨g, c, ((((((cur.setIfInBounds (i * 7) (.string x.1)).setIfInBounds (i * 7 + 1) (.int .i64 x.2.seg)).setIfInBounds (i * 7 + 2) (.int .i64 x.2.at_)).setIfInBounds (i * 7 + 3) (.int .i64 x.2.size)).setIfInBounds (i * 7 + 4) (.int .i64 x.2.off)).setIfInBounds (i * 7 + 5) (.int .i64 x.2.time)).setIfInBounds (i * 7 + 6) (.bool x.2.tomb), by simp, hg, ?_, by simpa using hnc, hcm, by simpa using hsz, ?_⟩
    · simp [set7, World.setCell, Array.getElem?_modify, hh]
    · rw [flat_setA xs i hi x]
      simp only [Array.toList_setIfInBounds, List.take_set, htk]
theorem chg_set7 {S : Nat → Prop} {a w : World} {g : Nat} (h : Chg S a w) (hg : S g) (i : Nat) (x : KE) : Chg S a (set7 w g i x) := by
  unfold set7
  iterate 7 refine Chg.setCell ?_ (.inl hg) _
  exact h

/-- The mark of the list number k. -/
def markK (k : Nat) : KE := (⟨#[109, 97, 114, 107, 101, 100]⟩, ⟨k, 0, 0, 0, 0, false⟩)
def marks (k n : Nat) : List KE := List.replicate n (markK k)
theorem marks_step (k : Nat) (ys : List KE) (i : Nat) (hi : i < ys.length) : (marks k i ++ ys.drop i).set i (markK k) = marks k (i + 1) ++ ys.drop (i + 1) := by
  have hl : (marks k i).length = i := by simp [marks]
  rw [List.drop_eq_getElem_cons hi, List.set_append_right _ _ (by omega), hl, Nat.sub_self, List.set_cons_zero, marks, marks, List.replicate_succ', List.append_assoc]
  rfl
/-- The lists that were handed out, each in a block of its own, full of its mark. -/
structure LW (B : Nat) (Lv : Value) (us : List Value) (M : Nat) (w : World) : Prop where
  row : w.ownsRow B 43 1 Lv us.length us
  each : ∀ (k : Nat) (u : Value), us[k]? = some u → ∃ n, n ≤ M ∧ w.ownsRow B 58 7 u n ((marks k n).flatMap keC)
  ne : ∀ (i j b : Nat) (u v : Value), us[i]? = some u → us[j]? = some v → u.ownBlock = some b → v.ownBlock = some b → i = j
def LF (Lv : Value) (us : List Value) (k : Nat) : Prop := Lv.ownBlock = some k ∨ ∃ u ∈ us, u.ownBlock = some k
theorem LW.keep {B M : Nat} {Lv : Value} {us : List Value} {w w' : World} {S : Nat → Prop} (h : LW B Lv us M w) (hc : Chg S w w') (hn : ∀ k, LF Lv us k → ¬ S k) : LW B Lv us M w' :=
  ⟨row_chg h.row hc fun k hk => hn k (.inl hk), fun k u hu => let ⟨n, h1, h2⟩ := h.each k u hu; ⟨n, h1, row_chg h2 hc fun b hb => hn b (.inr ⟨u, List.mem_of_getElem? hu, hb⟩)⟩, h.ne⟩
theorem LW.next {B M : Nat} {Lv : Value} {us : List Value} {w w' : World} (h : LW B Lv us M w) (hb : Below w.heap.size w w') : LW B Lv us M w' := h.keep (Chg.of_below hb (fun _ => False)) fun _ _ h => h
theorem LW.lt {B M : Nat} {Lv : Value} {us : List Value} {w : World} (h : LW B Lv us M w) {k : Nat} (hk : LF Lv us k) : k < w.heap.size := by
  rcases hk with hk | ⟨u, hu, hk⟩
  · exact row_lt h.row hk
  · obtain ⟨i, hi⟩ := List.mem_iff_getElem?.1 hu
    obtain ⟨n, _, h2⟩ := h.each i u hi
    exact row_lt h2 hk
end Go.Proofs.Ytglmhpmjebjcgaa
/- KeydirMoves: keep, stands. -/
namespace Go.Proofs.Ytglmhpmjebjcgaa
open Go.RowKit Go.Maps

theorem infoLs : (Try.prog.info? 43).map (fun i => (i.zero, i.size, i.bytes)) = some (some (.slice none 0 0), 1, 24) := by kernel_rfl
def behK (k : Nat) : KE := (⟨#[98, 101, 104, 105, 110, 100]⟩, ⟨-(k : Int) - 1, 0, 0, 0, 0, false⟩)

set_option maxRecDepth 100000 in
set_option maxHeartbeats 8000000 in
theorem keep_any (B wb n M m : Nat) (D R Lv l : Value) (us : List Value) (ys : List KE) (w : World) (hx : Box w wb 35 #[D, R, Lv]) (h : LW B Lv us M w) (hl : w.ownsRow B 58 7 l n (ys.flatMap keC)) (hn : n ≤ M) (hM : M ≤ 4000000) (hm : us.length = m) (hus : m ≤ 4000000) (hB : B ≤ w.heap.size)
    (hd : ∀ k, l.ownBlock = some k → ¬ LF Lv us k) :
    Calls Try.prog 30 #[.pointer (some ⟨wb, 0, none⟩), l] w fun e w' => (∃ v, e = .returned v) ∧ ∃ Lv', Box w' wb 35 #[D, R, Lv'] ∧ LW B Lv' (us ++ [l]) M w' ∧
      Chg (fun k => k = wb ∨ Lv.ownBlock = some k ∨ l.ownBlock = some k) w w' ∧ ∀ k, Lv'.ownBlock = some k → Lv.ownBlock = some k ∨ w.heap.size ≤ k := by
  obtain ⟨i1, hi1, hz1, hs1, hy1⟩ := info_parts infoKE
  obtain ⟨i2, hi2, hz2, hs2, hy2⟩ := info_parts infoLs
  obtain ⟨A, c, rfl⟩ := row_slice hl
  obtain ⟨AL, cL, hLv⟩ := row_slice h.row
  rw [hm] at hLv
  subst hLv
  have hyl : ys.length = n := by have := hl.1; rw [keC_len] at this; omega
  have hbc := hx.cell
  have hcap := row_cap hl
  have H := Lib.hid (And.intro hx (And.intro h (And.intro hl (And.intro hd (And.intro hyl hm)))))
  clear hx h hl hd hyl hm
  go_enter Try.func30, Try.ntmps30
  go_wp2
  go_loopw [5] (fun t wr => ∃ k, k ≤ n ∧ t = .int .i64 (k : Nat) ∧ wr.ownsRow B 58 7 (.slice A n c) n ((marks m k ++ ys.drop k).flatMap keC) ∧ Chg (fun b => (Value.slice A n c).ownBlock = some b) w wr) (fun t _ => n - (intOf t).toNat)
  case atStart => exact ⟨0, Nat.zero_le _, rfl, by simpa [marks] using H.out.2.2.1, Chg.refl _ _⟩
  case round =>
    obtain ⟨k, hk, rfl, hrow, hch⟩ := hrel
    by_cases hlt : k < n
    · have hki : (k : Int) < n := by omega
      have hk0 : (0 : Int) ≤ k := by omega
      obtain ⟨g, rfl, ho⟩ := own_g hrow (by omega)
      have hfr := ho.free
      have hgl := ho.lt
      have hcl : ∀ i, i < n * 7 → ∃ u, wr.cell? ⟨g, i, none⟩ = some u := fun i hi => ⟨_, ho.cell (by rw [hrow.1]; exact hi)⟩
      obtain ⟨u0, hc0⟩ := hcl (k * 7) (by omega)
      obtain ⟨u1, hc1⟩ := hcl (k * 7 + 1) (by omega)
      obtain ⟨u2, hc2⟩ := hcl (k * 7 + 2) (by omega)
      obtain ⟨u3, hc3⟩ := hcl (k * 7 + 3) (by omega)
      obtain ⟨u4, hc4⟩ := hcl (k * 7 + 4) (by omega)
      obtain ⟨u5, hc5⟩ := hcl (k * 7 + 5) (by omega)
      obtain ⟨u6, hc6⟩ := hcl (k * 7 + 6) (by omega)
      have HR := Lib.hid (And.intro hrow hch)
      clear hrow hch ho hcl
      go_wp2
      go_roundw
      case rel =>
        have h7 := row_setA (markK m) HR.out.1 (show k < (marks m k ++ ys.drop k).length by rw [List.length_append, List.length_drop, H.out.2.2.2.2.1]; simp [marks]; omega)
        rw [marks_step m ys k (by rw [H.out.2.2.2.2.1]; omega)] at h7
        exact ⟨k + 1, by omega, by go_num, h7, chg_set7 HR.out.2 rfl k (markK m)⟩
      case measure => simp [intOf]; omega
    · obtain rfl : k = n := by omega
      have hrow2 : wr.ownsRow B 58 7 (.slice A k c) k ((marks m k).flatMap keC) := by
        have e : ys.drop k = [] := List.drop_of_length_le (by rw [H.out.2.2.2.2.1]; omega)
        rw [e, List.append_nil] at hrow
        exact hrow
      have hnl : ∀ q, LF (.slice AL m cL) us q → ¬ (Value.slice A k c).ownBlock = some q := fun q hq e => H.out.2.2.2.1 q e hq
      have hLr := H.out.2.1.keep hch hnl
      have hxr := H.out.1.chg hch (fun e => box_row H.out.1 H.out.2.2.1 (by decide) e)
      have hxrc := hxr.cell
      have hsz := hch.size
      have HR := Lib.hid (And.intro hrow2 (And.intro hLr (And.intro hxr hch)))
      clear hrow hrow2 hLr hxr hch hnl
      go_wp2_with (first
        | (at_builtin
           refine wpList_app _ rfl (.tmp 28) (.tmp 30) _ rfl B 43 i2 _ 1 24 Try.underlying33 hi2 hz2 hs2 hy2 rfl (by decide) (.slice AL m cL) m us rfl (by have := (HR.out.2.1.next (bal wr (.cells #[.slice A k c] 43))).row; rw [H.out.2.2.2.2.2] at this; exact this) _ _ 1 1 [.slice A k c] rfl rfl (rd_new _ _ _) (by simp [Value.oneCell']) (by unfold maxLen; omega) (by omega) (by simp; omega) ?_
           intro v4 w4 hown hg4 hor
           obtain ⟨b4, c4, rfl⟩ := row_slice hown
           have hx3 := HR.out.2.2.1.alloc (.cells #[.slice A k c] 43)
           have hL3 := HR.out.2.1.next (bal wr (.cells #[.slice A k c] 43))
           have hx4 := hx3.grown hg4 (fun e => box_row hx3 hL3.row (by decide) e.symm)
           have hc4 : Chg (fun q => (Value.slice AL m cL).ownBlock = some q) wr w4 := ((Chg.refl _ wr).alloc _).grown hg4 (fun q e => .inl e)
           have hx4c := hx4.cell
           have hx4f := hx4.free
           have hx4l := hx4.lt
           have H4 := Lib.hid (And.intro hown (And.intro hx4 (And.intro hc4 hor)))
           clear hown hg4 hor hx3 hL3 hx4 hc4))
      have hx5 : Box (w4.setCell ⟨wb, 2, none⟩ (.slice b4 (m + 1) c4)) wb 35 #[D, R, .slice b4 (m + 1) c4] := by simpa using H4.out.2.1.set_ 2 (.slice b4 (m + 1) c4)
      have hc5 : Chg (fun q => q = wb ∨ (Value.slice AL m cL).ownBlock = some q) wr (w4.setCell ⟨wb, 2, none⟩ (.slice b4 (m + 1) c4)) := Chg.setCell (p := ⟨wb, 2, none⟩) (H4.out.2.2.1.mono fun q _ h => .inr h) (.inl (.inl rfl)) _
      have hr5 := row_far H4.out.1 (p := ⟨wb, 2, none⟩) (fun q hq e => by subst e; exact box_row H4.out.2.1 H4.out.1 (by decide) hq) (.slice b4 (m + 1) c4)
      generalize hW5 : w4.setCell ⟨wb, 2, none⟩ (.slice b4 (m + 1) c4) = W5 at hx5 hc5 hr5 ⊢
      clear hW5 hx4c hx4f hx4l
      have hl5 : W5.ownsRow B 58 7 (.slice A k c) k ((marks m k).flatMap keC) := row_chg HR.out.1 hc5 fun q hq e => by
        rcases e with rfl | e
        · exact box_row HR.out.2.2.1 HR.out.1 (by decide) hq
        · exact row_row HR.out.2.1.row HR.out.1 (by decide) e hq
      have hs5 := hc5.size
      have H5 := Lib.hid (And.intro hx5 (And.intro hc5 (And.intro hr5 hl5)))
      clear hx5 hc5 hr5 hl5
      go_loopw [1, 6] (fun t q wq => ∃ (j : Nat) (b : Option Addr) (cb : Nat) (zs : List Value), j ≤ 64 ∧ q = .int .i64 (j : Nat) ∧ t = .slice b (k + j) cb ∧ wq.ownsRow B 58 7 (.slice b (k + j) cb) (k + j) zs ∧ wq.ownsRow B 58 7 (.slice A k c) k ((marks m k).flatMap keC) ∧ Chg (fun g => (Value.slice A k c).ownBlock = some g) W5 wq ∧ ((Value.slice b (k + j) cb).ownBlock = (Value.slice A k c).ownBlock ∨ ∀ g, (Value.slice b (k + j) cb).ownBlock = some g → W5.heap.size ≤ g)) (fun _ q _ => 64 - (intOf q).toNat)
      case atStart => exact ⟨0, A, c, _, by omega, rfl, rfl, H5.out.2.2.2, H5.out.2.2.2, Chg.refl _ _, .inl rfl⟩
      case round =>
        obtain ⟨j, b, cb, zs, hj, rfl, rfl, hrq, hlq, hcq, hoq⟩ := hrel
        have hqs := hcq.size
        have HJ := Lib.hid (And.intro hrq (And.intro hlq (And.intro hcq hoq)))
        clear hrq hlq hcq hoq
        by_cases hj64 : j < 64
        · have hj0 : (j : Int) < 64 := by omega
          go_wp2_with (first
            | (at_builtin
               refine wpList_app_keepN _ rfl (.tmp 38) (.tmp 44) _ rfl B 58 i1 _ 7 64 Try.underlying43 hi1 hz1 hs1 hy1 rfl (by decide) (by decide) (.slice b (k + j) cb) (k + j) zs rfl (HJ.out.1.alloc _) _ _ 1 1 (keC (behK m)) rfl rfl (rd_new _ _ _) (by simpa using one_ke [behK m]) (by unfold maxLen; omega) (by omega) (by simp; omega) ?_
               intro v6 w6 hown hg6 hor hkp
               obtain ⟨b6, c6, rfl⟩ := row_slice hown
               have hkl : w6.ownsRow B 58 7 (.slice A k c) k ((marks m k).flatMap keC) := by
                 rcases HJ.out.2.2.2 with e | e
                 · exact hkp B _ k _ (row_below HJ.out.2.1 (bal _ _)) e.symm (by omega)
                 · refine row_keep (row_below HJ.out.2.1 (bal _ _)) fun q hq => hg6.block q (Nat.lt_of_lt_of_le (row_lt HJ.out.2.1 hq) (by simp)) fun e2 => ?_
                   have := e q e2.symm
                   have := row_lt H5.out.2.2.2 hq
                   omega
               have hc6 : Chg (fun g => (Value.slice A k c).ownBlock = some g) W5 w6 := (HJ.out.2.2.1.alloc _).grown hg6 fun q e => by
                 rcases HJ.out.2.2.2 with e2 | e2
                 · exact .inl (e2 ▸ e)
                 · exact .inr (e2 q e)
               have ho6 : (Value.slice b6 (k + j + 1) c6).ownBlock = (Value.slice A k c).ownBlock ∨ ∀ g, (Value.slice b6 (k + j + 1) c6).ownBlock = some g → W5.heap.size ≤ g := by
                 rcases hor with e | e
                 · rcases HJ.out.2.2.2 with e2 | e2
                   · exact .inl (e.trans e2)
                   · exact .inr fun g hg => e2 g (e ▸ hg)
                 · exact .inr fun g hg => by rw [hg] at e; injection e with e; rw [e]; simp; omega
               have H6 := Lib.hid (And.intro hown (And.intro hkl (And.intro hc6 ho6)))
               clear hown hg6 hor hkp hkl hc6 ho6))
          go_roundw
          case rel => exact ⟨j + 1, b6, c6, _, by omega, by go_num, rfl, H6.out.1, H6.out.2.1, H6.out.2.2.1, H6.out.2.2.2⟩
          case measure => simp [intOf]; omega
        · have hj0 : ¬ (j : Int) < 64 := by omega
          go_wp2
          go_end0
          have hcF := HJ.out.2.2.1
          have hnW : ∀ q, (Value.slice A k c).ownBlock = some q → ¬ q = wb := fun q hq e => by subst e; exact box_row H.out.1 H.out.2.2.1 (by decide) hq
          have hcall : Chg (fun q => q = wb ∨ (Value.slice AL m cL).ownBlock = some q ∨ (Value.slice A k c).ownBlock = some q) w wr :=
            ((HR.out.2.2.2.mono fun q _ h => .inr (.inr h)).trans ⟨H5.out.2.1.os, H5.out.2.1.tape, H5.out.2.1.output, H5.out.2.1.size, fun q hq hn' => H5.out.2.1.block q hq fun e => hn' (e.elim .inl fun e => .inr (.inl e))⟩).trans ⟨hcF.os, hcF.tape, hcF.output, hcF.size, fun q hq hn' => hcF.block q hq fun e => hn' (.inr (.inr e))⟩
          refine ⟨⟨_, rfl⟩, .slice b4 (m + 1) c4, H5.out.1.chg hcF (fun e => hnW _ e rfl), ⟨?_, ?_, ?_⟩, hcall, ?_⟩
          · have := row_chg H5.out.2.2.1 hcF fun q hq e => row_row H5.out.2.2.1 H5.out.2.2.2 (by decide) hq e
            rw [List.length_append, H.out.2.2.2.2.2]
            exact this
          · intro i u hu
            by_cases hi : i < us.length
            · rw [List.getElem?_append_left hi] at hu
              obtain ⟨n', h1, h2⟩ := HR.out.2.1.each i u hu
              refine ⟨n', h1, ?_⟩
              have hmu : LF (.slice AL m cL) us = LF (.slice AL m cL) us := rfl
              have hne : ∀ q, u.ownBlock = some q → ¬ (Value.slice A k c).ownBlock = some q := fun q hq e => H.out.2.2.2.1 q e (.inr ⟨u, List.mem_of_getElem? hu, hq⟩)
              have h3 := row_chg h2 H5.out.2.1 fun q hq e => by
                rcases e with rfl | e
                · exact box_row HR.out.2.2.1 h2 (by decide) hq
                · exact row_row HR.out.2.1.row h2 (by decide) e hq
              exact row_chg h3 hcF hne
            · rw [List.getElem?_append_right (by omega)] at hu
              have hi0 : i - us.length = 0 := by
                have := (List.getElem?_eq_some_iff.1 hu).1
                simp at this
                omega
              rw [hi0] at hu
              injection hu with hu
              subst hu
              have him : i = m := by have := H.out.2.2.2.2.2; omega
              exact ⟨k, hn, by rw [him]; exact HJ.out.2.1⟩
          · intro i j' q u v hu hv hq hq'
            have hold : ∀ (a : Nat) (u : Value), us[a]? = some u → u.ownBlock = some q → (Value.slice A k c).ownBlock = some q → False := fun a u hu hq e => H.out.2.2.2.1 q e (.inr ⟨u, List.mem_of_getElem? hu, hq⟩)
            have hlast : ∀ (a : Nat) (u : Value), ¬ a < us.length → (us ++ [Value.slice A k c])[a]? = some u → a = us.length ∧ u = Value.slice A k c := fun a u ha hu => by
              rw [List.getElem?_append_right (by omega)] at hu
              have h0 : a - us.length = 0 := by
                have := (List.getElem?_eq_some_iff.1 hu).1
                simp at this
                omega
              rw [h0] at hu
              injection hu with hu
              exact ⟨by omega, hu.symm⟩
            by_cases hi : i < us.length <;> by_cases hj' : j' < us.length
            · rw [List.getElem?_append_left hi] at hu
              rw [List.getElem?_append_left hj'] at hv
              exact H.out.2.1.ne i j' q u v hu hv hq hq'
            · rw [List.getElem?_append_left hi] at hu
              obtain ⟨_, rfl⟩ := hlast j' v hj' hv
              exact (hold i u hu hq hq').elim
            · rw [List.getElem?_append_left hj'] at hv
              obtain ⟨_, rfl⟩ := hlast i u hi hu
              exact (hold j' v hv hq' hq).elim
            · rw [(hlast i u hi hu).1, (hlast j' v hj' hv).1]
          · intro q hq
            rcases H4.out.2.2.2 with e | e
            · exact .inl (e ▸ hq)
            · rw [hq] at e; injection e with e; exact .inr (by rw [e]; simp; omega)

theorem LW.cell {B M m cL k : Nat} {AL : Option Addr} {us : List Value} {w : World} {u : Value} (h : LW B (.slice AL m cL) us M w) (hm : us.length = m) (hu : us[k]? = some u) : ∃ g, AL = some ⟨g, 0, none⟩ ∧ w.cell? ⟨g, k, none⟩ = some u ∧ m ≤ cL := by
  have hk := (List.getElem?_eq_some_iff.1 hu).1
  have hr := h.row
  rw [hm] at hr
  obtain ⟨g, rfl, ho⟩ := own_g hr (by omega)
  refine ⟨g, rfl, ?_, row_cap hr⟩
  rw [ho.cell (by simpa using hk)]
  rw [List.getElem?_eq_getElem hk] at hu
  exact hu

set_option maxRecDepth 100000 in
set_option maxHeartbeats 8000000 in
theorem stands_any (B wb M m : Nat) (D R Lv : Value) (us : List Value) (w : World) (hx : Box w wb 35 #[D, R, Lv]) (h : LW B Lv us M w) (hM : M ≤ 4000000) (hm : us.length = m) (hus : m ≤ 4000000) :
    Calls Try.prog 7 #[.pointer (some ⟨wb, 0, none⟩)] w fun e w' => e = .returned (.bool true) ∧ w' = w := by
  obtain ⟨AL, cL, hLv⟩ := row_slice h.row
  rw [hm] at hLv
  subst hLv
  have hbc := hx.cell
  have H := Lib.hid (And.intro h hm)
  clear hx h hm
  go_enter Try.func7, Try.ntmps7
  go_wp2
  go_loopw [3] (fun t wr => ∃ k, k ≤ m ∧ t = .int .i64 (k : Nat) ∧ w = wr) (fun t _ => m - (intOf t).toNat)
  case atStart => exact ⟨0, Nat.zero_le _, rfl, rfl⟩
  case round =>
    obtain ⟨k, hk, rfl, rfl⟩ := hrel
    by_cases hlt : k < m
    · have hki : (k : Int) < m := by omega
      have hk0 : (0 : Int) ≤ k := by omega
      obtain ⟨u, hu⟩ : ∃ u, us[k]? = some u := ⟨_, List.getElem?_eq_getElem (by rw [H.out.2]; exact hlt)⟩
      obtain ⟨g, rfl, hgc, hcc⟩ := H.out.1.cell H.out.2 hu
      obtain ⟨n, hn, hrow⟩ := H.out.1.each k u hu
      obtain ⟨A, c, rfl⟩ := row_slice hrow
      have hrd := row_rd' hrow
      have hcap := row_cap hrow
      have HD := Lib.hid (And.intro hrd hu)
      clear hrd hu hrow
      go_wp2
      go_loopw [4] (fun t wr => ∃ i, i ≤ n ∧ t = .int .i64 (i : Nat) ∧ w = wr) (fun t _ => n - (intOf t).toNat)
      case atStart => exact ⟨0, Nat.zero_le _, rfl, rfl⟩
      case round =>
        obtain ⟨i, hi, rfl, rfl⟩ := hrel
        by_cases hil : i < n
        · have hii : (i : Int) < n := by omega
          have hi0 : (0 : Int) ≤ i := by omega
          have hml : i < (marks k n).length := by simp [marks]; exact hil
          obtain ⟨ad, rfl, _, a0, a1, a2, a3, a4, a5, a6⟩ := HD.out.1.ke hml
          have hmk : (marks k n)[i] = markK k := by simp [marks]
          rw [hmk] at a0 a1 a2 a3 a4 a5 a6
          simp only [markK] at a0 a1 a2 a3 a4 a5 a6
          clear hmk hml
          go_wp2
          go_roundw
          case rel => exact ⟨i + 1, by omega, by go_num, by first | rfl | trivial⟩
          case measure => simp [intOf]; omega
        · have hii : ¬ (i : Int) < n := by omega
          go_wp2
          go_roundw
          case rel => exact ⟨k + 1, by omega, by go_num, by first | rfl | trivial⟩
          case measure => simp [intOf]; omega
    · have hki : ¬ (k : Int) < m := by omega
      go_wp2
      go_ret
      exact ⟨rfl, rfl⟩
end Go.Proofs.Ytglmhpmjebjcgaa
/- KeydirMoves: told: Range; all kinds together. -/
namespace Go.Proofs.Ytglmhpmjebjcgaa
open Go.RowKit Go.Maps

/-- The law's world whole: the dirs, and the lists that were handed out. -/
structure WW (B wb : Nat) (N M : Nat) (Lv : Value) (us : List Value) (s : St) (w : World) : Prop where
  dirs : DW B wb Lv N s w
  lists : LW B Lv us M w
  far : ∀ k, LF Lv us k → ¬ Foot wb s k
theorem WW.turn {B wb N N' M : Nat} {Lv : Value} {us : List Value} {s s' : St} {w w' : World} (h : WW B wb N M Lv us s w) (hd : DW B wb Lv N' s' w') (ht : Turn wb s s' w w') : WW B wb N' M Lv us s' w' :=
  ⟨hd, h.lists.keep ht.chg h.far, fun k hk hf => by
    rcases ht.foot k hf with h1 | h1
    · exact h.far k hk h1
    · have := h.lists.lt hk
      omega⟩
theorem WW.next {B wb N M : Nat} {Lv : Value} {us : List Value} {s : St} {w w' : World} (h : WW B wb N M Lv us s w) (hb : Below w.heap.size w w') : WW B wb N M Lv us s w' := h.turn (h.dirs.next hb) (Turn.of_below hb)
/-- A list is kept: the dirs are as they were. -/
theorem WW.kept {B wb N M : Nat} {Lv Lv' : Value} {us us' : List Value} {s : St} {w w' : World} {l : Value} {n : Nat} {ys : List Value} (h : WW B wb N M Lv us s w) (hlr : w.ownsRow B 58 7 l n ys) (hx : Box w' wb 35 #[s.Dv, s.Rv, Lv']) (hl : LW B Lv' us' M w')
    (hc : Chg (fun k => k = wb ∨ Lv.ownBlock = some k ∨ l.ownBlock = some k) w w') (hln : ∀ k, l.ownBlock = some k → ¬ Foot wb s k) (hu : us' = us ++ [l]) (hv : ∀ k, Lv'.ownBlock = some k → Lv.ownBlock = some k ∨ w.heap.size ≤ k) : WW B wb N M Lv' us' s w' := by
  have hS : ∀ k, (k = wb ∨ Lv.ownBlock = some k ∨ l.ownBlock = some k) → k = wb ∨ ¬ Foot wb s k := fun k hk => by
    rcases hk with e | e | e
    · exact .inl e
    · exact .inr (h.far k (.inl e))
    · exact .inr (hln k e)
  have hnd : ∀ k, Foot wb s k → k ≠ wb → ¬ (k = wb ∨ Lv.ownBlock = some k ∨ l.ownBlock = some k) := fun k hk hne hs => (hS k hs).elim hne fun h => h hk
  refine ⟨⟨hx, h.dirs.num, ?_, ?_, ?_, ?_, h.dirs.low, h.dirs.len, h.dirs.dne, h.dirs.rne, h.dirs.vne⟩, hl, ?_⟩
  · refine row_chg h.dirs.rowD hc fun k hk => hnd k (.inr (.inr (.inl hk))) fun e => ?_
    subst e
    exact box_row h.dirs.box h.dirs.rowD (by decide) hk
  · refine row_chg h.dirs.rowR hc fun k hk => hnd k (.inr (.inr (.inr hk))) fun e => ?_
    subst e
    exact box_row h.dirs.box h.dirs.rowR (by decide) hk
  · intro i hi
    obtain ⟨p, hb⟩ := (h.dirs.dir i hi).box
    refine (h.dirs.dir i hi).chg hc (fun k hk cs => ?_) (hnd _ (.inr (.inl ⟨i, hi, .inl rfl⟩)) fun e => ?_)
    · rcases hk with rfl | e | e
      · exact box_not h.dirs.box (by decide) cs
      · obtain ⟨cur, hcur⟩ := row_obj h.lists.row e
        rw [hcur]
        intro e
        injection e with e
        injection e with _ e
        exact absurd e (by decide)
      · obtain ⟨cur, hcur⟩ := row_obj hlr e
        rw [hcur]
        intro e
        injection e with e
        injection e with _ e
        exact absurd e (by decide)
    · subst e
      exact box_box hb h.dirs.box (by decide) rfl
  · intro i hi
    refine (h.dirs.ref i hi).chg hc (hnd _ (.inr (.inl ⟨i, hi, .inr (.inl rfl)⟩)) fun e => ?_) fun k hk => hnd k (.inr (.inl ⟨i, hi, .inr (.inr hk)⟩)) fun e => ?_
    · exact box_box (h.dirs.ref i hi).1 (e ▸ h.dirs.box) (by decide) rfl
    · subst e
      exact box_row h.dirs.box (h.dirs.ref i hi).2.1 (by decide) hk
  · intro k hk hf
    have hklt := h.dirs.foot_lt hf
    rcases hk with e | ⟨u, hmu, e⟩
    · rcases hv k e with e | e
      · exact h.far k (.inl e) hf
      · omega
    · rw [hu] at hmu
      rcases List.mem_append.1 hmu with hm | hm
      · exact h.far k (.inr ⟨u, hm, e⟩) hf
      · rcases List.mem_singleton.1 hm with rfl
        exact hln k e hf
set_option maxRecDepth 100000 in
set_option maxHeartbeats 8000000 in
theorem told_range (B wb N M ns : Nat) (Lv : Value) (us : List Value) (ds rs : Nat → Nat) (vs : Nat → Value) (ls : Nat → List KE) (g c g' c' : Nat) (dir : Int) (key hi : ByteArray) (en : En) (n : Int) (w : World) (hW : WW B wb N M Lv us (St.at ns ds rs vs ls g c g' c') w) (hNM : N ≤ M) (hM : M ≤ 4000000) (hus : us.length ≤ 3000000) (hN : N ≤ 2000000) (hz1 : key.size ≤ maxLen) (hz2 : hi.size ≤ maxLen) (hz3 : n ≤ 9223372036854775807) :
    Calls Try.prog 6 #[.pointer (some ⟨wb, 0, none⟩), Mv.v ⟨dir, 7, key, hi, en, n⟩] w (fun e w' => e = .returned (.bool true) ∧ ∃ Lv' l, WW B wb N M Lv' (us ++ [l]) (St.at ns ds rs vs ls g c g' c') w' ∧ Below B w w') := by
  have h := hW.dirs
  have HW := Lib.hid hW
  obtain ⟨mu, hmu⟩ : ∃ mu, us.length = mu := ⟨_, rfl⟩
  have HU := Lib.hid hmu
  clear hW hmu
  obtain ⟨hn0, hc1, hc2⟩ := h.caps
  have hi0 : modK dir ns < ns := modK_lt dir (by omega)
  obtain ⟨i, hie⟩ : ∃ i, i = modK dir ns := ⟨_, rfl⟩
  have hmod := fun W => mod_is dir ns (by omega) (by omega) W
  rw [← hie] at hi0
  simp only [← hie] at hmod
  have hb0 := bal w (.cells #[.int .i64 dir, .int .i64 7, .string key, .string hi, .int .i64 en.seg, .int .i64 en.at_, .int .i64 en.size, .int .i64 en.off, .int .i64 en.time, .bool en.tomb, .int .i64 n] 40)
  have hX0 := Box.new w 40 #[.int .i64 dir, .int .i64 7, .string key, .string hi, .int .i64 en.seg, .int .i64 en.at_, .int .i64 en.size, .int .i64 en.off, .int .i64 en.time, .bool en.tomb, .int .i64 n]
  have hD0 := h.next hb0
  have hbc := (hD0.look hi0).2
  have HM := Lib.hid hmod
  have H := Lib.hid (And.intro h (And.intro hD0 (And.intro hX0 hb0)))
  have hxc := hX0.cell
  have hi1 : (0 : Int) ≤ i := by omega
  have hi2 : (i : Int) < ns := by omega
  have hsx := hb0.size
  clear h hmod hb0 hX0 hD0 hie
  go_enter Try.func6, Try.ntmps6
  go_wp2
  go_quiet ((go_at_call 10; exact Calls.quiet_of_same (HM.out _)))
  clear hbc hxc
  have hb1 := below_drewN H.out.2.2.2 nq
  have hX1 := H.out.2.2.1.drewN nq
  have hD1 := H.out.2.1.next (below_drewN (Below.refl _ _) nq)
  generalize hW1 : (w.alloc (.cells #[.int .i64 dir, .int .i64 7, .string key, .string hi, .int .i64 en.seg, .int .i64 en.at_, .int .i64 en.size, .int .i64 en.off, .int .i64 en.time, .bool en.tomb, .int .i64 n] 40)).drewN nq = W1 at hb1 hX1 hD1 ⊢
  clear hW1
  obtain ⟨⟨hcD, hcR⟩, hbc⟩ := hD1.look hi0
  have hxc := hX1.cell
  have hnl : (ls i).length ≤ N := hD1.len i hi0
  have hs1 := hb1.size
  have H1 := Lib.hid (And.intro hD1 (And.intro hX1 hb1))
  clear hb1 hX1 hD1
  obtain ⟨q, hq⟩ : ∃ q, q = (sel key hi (ls i)).take n.toNat := ⟨_, rfl⟩
  have hql : q.length ≤ N := by rw [hq, List.length_take]; exact Nat.le_trans (Nat.min_le_right _ _) (Nat.le_trans (List.length_filter_le _ _) hnl)
  obtain ⟨nq2, hnq2⟩ : ∃ m, q.length = m := ⟨_, rfl⟩
  have HQ := Lib.hid (And.intro hq (And.intro hql hnq2))
  clear hq hql hnq2
  have HW1 := Lib.hid (HW.out.next H1.out.2.2)
  have hxc1 := hxc
  go_wp2_with (first
    | (go_at_call 27
       refine (range_all (ds i) (ls i) key hi n _ (H1.out.1.dir i hi0) hz1 hz2 (by have := H1.out.1.len i hi0; simp only at this; omega) hz3).mono ?_
       rintro e w2 ⟨v2, rfl, hr2, hb2⟩
       rw [← HQ.out.1, HQ.out.2.2] at hr2
       obtain ⟨A2, c2, rfl⟩ := row_slice hr2
       have hs2 := hb2.size
       have hX2 := H1.out.2.1.below hb2 H1.out.2.1.lt
       have hxc2 := hX2.cell
       have H2 := Lib.hid (And.intro hr2 (And.intro hb2 (And.intro (H1.out.1.next hb2) hX2)))
       clear hr2 hb2 hX2 hxc)
    | (go_at_call 29
       refine (range8 B (rs i) (vs i) key hi n (ls i) _ (H2.out.2.2.1.ref i hi0) hz1 hz2 (by have := H1.out.1.len i hi0; simp only at this; omega)).mono ?_
       rintro e w3 ⟨v3, rfl, hr3, hb3⟩
       rw [← HQ.out.1, HQ.out.2.2] at hr3
       obtain ⟨A3, c3, rfl⟩ := row_slice hr3
       have hs3 := hb3.size
       have H3 := Lib.hid (And.intro hr3 hb3)
       clear hr3 hb3)
    | (go_at_call 28
       refine (sameItems_eq A2 A3 nq2 c2 c3 q _ ((row_rd' (row_below H2.out.1 H3.out.2))) (row_rd' H3.out.1) HQ.out.2.2 (by have := HQ.out.2.1; have := HQ.out.2.2; omega)).mono ?_
       rintro e w4 ⟨rfl, hb4⟩
       have hs4 := hb4.size
       have H4 := Lib.hid hb4
       clear hb4)
    | (go_at_call 30
       have hB14 : Below W1.heap.size W1 w4 := (H2.out.2.1.trans (H3.out.2.mono hs2)).trans (H4.out.mono (by omega))
       have hw4 := HW1.out.next hB14
       have hl4 := row_le (row_below (row_below H2.out.1 H3.out.2) H4.out) (HW1.out.dirs.size)
       have hnew : ∀ k, (Value.slice A2 nq2 c2).ownBlock = some k → W1.heap.size ≤ k := fun k hk => row_ge H2.out.1 hk
       have hlf : ∀ k, (Value.slice A2 nq2 c2).ownBlock = some k → ¬ LF Lv us k := fun k hk hf => by have := HW1.out.lists.lt hf; have := hnew k hk; omega
       have hfo : ∀ k, (Value.slice A2 nq2 c2).ownBlock = some k → ¬ Foot wb (St.at ns ds rs vs ls g c g' c') k := fun k hk hf => by have := HW1.out.dirs.foot_lt hf; have := hnew k hk; omega
       refine (keep_any B wb nq2 M mu _ _ Lv (.slice A2 nq2 c2) us q w4 hw4.dirs.box hw4.lists hl4 (by have := HQ.out.2.1; have := HQ.out.2.2; omega) hM HU.out (by have := HU.out; omega) hw4.dirs.size hlf).mono ?_
       rintro e w5 ⟨⟨ve, rfl⟩, Lv', hx5, hL5, hc5, hv5⟩
       have hbl : Below B w4 w5 := hc5.below hw4.dirs.size (fun k hk => by
         rcases hk with rfl | e | e
         · exact hw4.dirs.low.1
         · exact row_ge hw4.lists.row e
         · exact row_ge hl4 e)
       have hbB : Below B w w5 := ((H1.out.2.2.mono H.out.1.size).trans (hB14.mono H1.out.1.size)).trans hbl
       have H5 := Lib.hid (And.intro (hw4.kept hl4 hx5 hL5 hc5 hfo rfl hv5) hbB)
       clear hB14 hw4 hl4 hnew hlf hfo hx5 hL5 hc5 hv5 hbl hbB))
  go_ret
  exact ⟨rfl, Lv', _, H5.out⟩
end Go.Proofs.Ytglmhpmjebjcgaa
/- KeydirMoves: erode: what is kept while All is gone through and both dirs turn. -/
namespace Go.Proofs.Ytglmhpmjebjcgaa
open Go.RowKit Go.Maps Go.Shelf

/-- One round of erode. -/
def estep (E : En) (xs : List KE) (k : ByteArray) : List KE := bstep (rstep xs k) (k ++ ⟨#[0]⟩, E)
def est (E : En) (xs : List KE) (pre : List KE) : List KE := pre.foldl (fun a x => estep E a x.1) xs
theorem est_snoc (E : En) (xs pre : List KE) (x : KE) : est E xs (pre ++ [x]) = estep E (est E xs pre) x.1 := by simp [est]
theorem del_one {xs : List KE} (hs : Sorted xs) {k : ByteArray} {o : En} (hg : getL k xs = some o) : (delL k xs).length + 1 = xs.length := by
  obtain ⟨hi, hx⟩ := getL_at hs hg
  have h := split_at xs (lo k xs).length hi
  rw [hx] at h
  have hs2 : Sorted (xs.take (lo k xs).length ++ (k, o) :: xs.drop ((lo k xs).length + 1)) := by rw [← h]; exact hs
  have h2 := del_same hs2
  rw [← h] at h2
  rw [h2]
  simp
  omega
theorem bstep_sorted {xs : List KE} (hs : Sorted xs) (it : KE) : Sorted (bstep xs it) := by
  unfold bstep
  split
  · exact hs.put _ _
  · exact hs
theorem est_spec (E : En) {xs zs : List KE} (hs : Sorted xs) (hz : Sorted zs) (hsub : ∀ y ∈ zs, y ∈ xs) : ∀ (n : Nat), n ≤ zs.length →
    Sorted (est E xs (zs.take n)) ∧ (est E xs (zs.take n)).length ≤ xs.length ∧ ∀ (j : Nat) (y : KE), n ≤ j → zs[j]? = some y → getL y.1 (est E xs (zs.take n)) ≠ none := by
  intro n
  induction n with
  | zero =>
    intro _
    refine ⟨hs, Nat.le_refl _, fun j y _ hy hn => ?_⟩
    exact get_none.1 hn y (hsub y (List.mem_of_getElem? hy)) rfl
  | succ n ih =>
    intro hn
    obtain ⟨h1, h2, h3⟩ := ih (by omega)
    have hlt : n < zs.length := by omega
    have hxe : zs[n]? = some zs[n] := List.getElem?_eq_getElem hlt
    rw [List.take_succ_eq_append_getElem hlt, est_snoc]
    generalize zs[n] = x at hxe
    have hx := h3 n x (Nat.le_refl _) hxe
    generalize est E xs (zs.take n) = L at h1 h2 h3 hx
    obtain ⟨o, ho⟩ := Option.ne_none_iff_exists'.1 hx
    have hr : rstep L x.1 = delL x.1 L := by unfold rstep; rw [if_neg hx]
    unfold estep
    rw [hr]
    have hd := del_one h1 ho
    refine ⟨bstep_sorted (h1.del _) _, ?_, fun j y hj hy => ?_⟩
    · have := bstep_len (delL x.1 L) (x.1 ++ ⟨#[0]⟩, E)
      omega
    · have hne : y.1 ≠ x.1 := fun e => by
        have hnj : n < j := by omega
        have hjl := (List.getElem?_eq_some_iff.1 hy).1
        have hp := List.pairwise_iff_getElem.1 hz n j hlt hjl hnj
        rw [List.getElem?_eq_getElem hlt] at hxe
        rw [List.getElem?_eq_getElem hjl] at hy
        injection hxe with hxe
        injection hy with hy
        rw [hxe, hy, e, kc_self] at hp
        omega
      have hg := h3 j y (by omega) hy
      have h4 : getL y.1 (delL x.1 L) ≠ none := by rw [get_del h1, if_neg hne]; exact hg
      unfold bstep
      split
      · rw [get_put (h1.del _)]
        split
        · simp
        · exact h4
      · exact h4
theorem est_pre (E : En) {xs zs pre : List KE} (hs : Sorted xs) (hz : Sorted zs) (hsub : ∀ y ∈ zs, y ∈ xs) (hp : pre <+: zs) : (est E xs pre).length ≤ xs.length := by
  obtain ⟨t, rfl⟩ := hp
  have := (est_spec E hs hz hsub pre.length (by simp)).2.1
  rwa [List.take_left] at this

/-- Of the blocks of cells, only dirs and rows of entries may turn. -/
def Soft (S : Nat → Prop) (V : World) : Prop := ∀ k, S k → ∀ cs t, V.heap[k]? = some (.cells cs t (0, 0)) → t = 28 ∨ t = 45 ∨ t = 58
theorem Box.soft {S : Nat → Prop} {V V' : World} {b : Nat} {t : TypeId} {ar : Array Value} (h : Box V b t ar) (hc : Chg S V V') (hs : Soft S V) (ht : ¬ (t = 28 ∨ t = 45 ∨ t = 58)) : Box V' b t ar :=
  h.chg hc fun hk => ht (hs b hk ar t h)
theorem soft_node {S : Nat → Prop} {V : World} (hs : Soft S V) : ∀ k, S k → ∀ cs, V.heap[k]? ≠ some (.cells cs 79 (0, 0)) := fun k hk cs e => by
  have := hs k hk cs _ e
  revert this
  decide
/-- What a turn of the round leaves for the iterator and for the loop's own record. -/
def GK (V V' : World) : Prop := KeepsFrom 0 V V' ∧ Kp V V'
theorem GK.refl (V : World) : GK V V := ⟨KeepsFrom.refl _ _, Kp.refl _⟩
theorem GK.trans {A B C : World} (h : GK A B) (k : GK B C) : GK A C := ⟨h.1.trans k.1, h.2.trans k.2⟩
theorem GK.of_chg {S : Nat → Prop} {V V' : World} (hc : Chg S V V') (hs : ∀ k, S k → k < V.heap.size → ∃ cs t, V.heap[k]? = some (.cells cs t (0, 0)) ∧ ¬ KpT t) : GK V V' := by
  refine ⟨⟨hc.size, fun k o _ hk ho => (hc.block k (Array.getElem?_eq_some_iff.1 hk).1 fun hS => ?_).trans hk⟩, ⟨hc.size, fun b cs t ht hb => (hc.block b (Array.getElem?_eq_some_iff.1 hb).1 fun hS => ?_).trans hb⟩⟩
  · obtain ⟨cs, t, h1, _⟩ := hs k hS (Array.getElem?_eq_some_iff.1 hk).1
    rw [h1] at hk
    injection hk with hk
    subst hk
    cases ho
  · obtain ⟨cs', t', h1, h2⟩ := hs b hS (Array.getElem?_eq_some_iff.1 hb).1
    rw [h1] at hb
    injection hb with hb
    injection hb with _ hb
    exact h2 (hb ▸ ht)
theorem GK.of_below {V V' : World} (hb : Below V.heap.size V V') : GK V V' := GK.of_chg (Chg.of_below hb (fun _ => False)) fun _ h => h.elim

/-- The law's variables, boxed. -/
structure EA where
  c3 : Nat
  c4 : Nat
  c5 : Nat
  c6 : Nat
  a7 : Nat
  p0 : Nat
  p1 : Nat
  p2 : Nat
  a9 : Nat
structure EB (A : EA) (d r : Nat) (m : Mv) (wv : Value) (nn : Int) (rb : Bool) (V : World) : Prop where
  b3 : Box V A.c3 23 #[.pointer (some ⟨d, 0, none⟩)]
  b4 : Box V A.c4 30 #[.pointer (some ⟨r, 0, none⟩)]
  b5 : Box V A.c5 40 m.cells
  b6 : Box V A.c6 4 #[.bool rb]
  b7 : Box V A.a7 43 #[wv]
  y0 : Box V A.p0 23 #[.pointer (some ⟨d, 0, none⟩)]
  y1 : Box V A.p1 9 #[.string m.key]
  y2 : Box V A.p2 9 #[.string m.hi]
  b9 : Box V A.a9 3 #[.int .i64 nn]
section
variable {A : EA} {d r B : Nat} {m : Mv} {v wv : Value} {nn : Int} {rb : Bool} {V V' w : World} {wl x1 x2 x1' x2' : List KE}
theorem EB.soft {S : Nat → Prop} (h : EB A d r m wv nn rb V) (hc : Chg S V V') (hs : Soft S V) : EB A d r m wv nn rb V' :=
  ⟨h.b3.soft hc hs (by decide), h.b4.soft hc hs (by decide), h.b5.soft hc hs (by decide), h.b6.soft hc hs (by decide), h.b7.soft hc hs (by decide), h.y0.soft hc hs (by decide), h.y1.soft hc hs (by decide), h.y2.soft hc hs (by decide), h.b9.soft hc hs (by decide)⟩
/-- Both dirs, in the round: the program's holds x1, the document's x2. -/
structure ER (w : World) (B : Nat) (A : EA) (d r : Nat) (v : Value) (m : Mv) (wv : Value) (wl : List KE) (nn : Int) (rb : Bool) (x1 x2 : List KE) (V : World) : Prop where
  eb : EB A d r m wv nn rb V
  dir : DR V d x1
  ref : ∃ v', RR V B r v' x2 ∧ (v'.ownBlock = v.ownBlock ∨ ∀ j, v'.ownBlock = some j → w.heap.size ≤ j) ∧ ∀ j, v'.ownBlock = some j → wv.ownBlock ≠ some j
  want : V.ownsRow w.heap.size 58 7 wv wl.length (wl.flatMap keC)
  chg : Chg (fun k => k = d ∨ k = r ∨ some k = v.ownBlock) w V
/-- A turn of something else. -/
theorem ER.other {S : Nat → Prop} (h : ER w B A d r v m wv wl nn rb x1 x2 V) (hc : Chg S V V') (hs : ∀ k, S k → ∀ cs t, V.heap[k]? ≠ some (.cells cs t (0, 0))) (hw : ∀ k, S k → w.heap.size ≤ k) : ER w B A d r v m wv wl nn rb x1 x2 V' := by
  have hss : Soft S V := fun k hk cs t e => absurd e (hs k hk cs t)
  obtain ⟨v', r1, r2, r3⟩ := h.ref
  obtain ⟨p, hb⟩ := h.dir.box
  refine ⟨h.eb.soft hc hss, h.dir.chg hc (fun k hk cs => hs k hk cs _) (fun hk => hs _ hk _ _ hb), ⟨v', r1.chg hc (fun hk => hs _ hk _ _ r1.1) (fun k e hk => by obtain ⟨cur, hcur⟩ := row_obj r1.2.1 e; exact hs k hk _ _ hcur), r2, r3⟩,
    row_chg h.want hc (fun k e hk => by obtain ⟨cur, hcur⟩ := row_obj h.want e; exact hs k hk _ _ hcur), ?_⟩
  refine ⟨hc.os.trans h.chg.os, hc.tape.trans h.chg.tape, hc.output.trans h.chg.output, Nat.le_trans h.chg.size hc.size, fun k hk hn => (hc.block k (Nat.lt_of_lt_of_le hk h.chg.size) fun hS => ?_).trans (h.chg.block k hk hn)⟩
  have := hw k hS
  omega
theorem ER.next (h : ER w B A d r v m wv wl nn rb x1 x2 V) (hb : Below V.heap.size V V') : ER w B A d r v m wv wl nn rb x1 x2 V' :=
  h.other (Chg.of_below hb (fun _ => False)) (fun _ h => h.elim) (fun _ h => h.elim)
theorem ER.drr (h : ER w B A d r v m wv wl nn rb x1 x2 V) : d ≠ r := by
  obtain ⟨p, hb⟩ := h.dir.box
  obtain ⟨v', r1, _⟩ := h.ref
  exact box_box hb r1.1 (by decide)
/-- The program's dir turns. -/
theorem ER.prog (h : ER w B A d r v m wv wl nn rb x1 x2 V) (hc : Dch d V V') (hd : DR V' d x1') : ER w B A d r v m wv wl nn rb x1' x2 V' ∧ GK V V' := by
  obtain ⟨p, hb⟩ := h.dir.box
  obtain ⟨v', r1, r2, r3⟩ := h.ref
  have hs : Soft (fun k => k = d) V := fun k hk cs t e => by
    subst hk
    unfold Box at hb
    rw [hb] at e
    injection e with e
    injection e with _ e
    exact .inl e.symm
  refine ⟨⟨h.eb.soft hc hs, hd, ⟨v', r1.chg hc (fun e => h.drr e.symm) (fun k e hk => by subst hk; exact box_row hb r1.2.1 (by decide) e), r2, r3⟩, row_chg h.want hc (fun k e hk => by subst hk; exact box_row hb h.want (by decide) e), ?_⟩, GK.of_chg hc fun k hk _ => ?_⟩
  · refine ⟨hc.os.trans h.chg.os, hc.tape.trans h.chg.tape, hc.output.trans h.chg.output, Nat.le_trans h.chg.size hc.size, fun k hk hn => (hc.block k (Nat.lt_of_lt_of_le hk h.chg.size) fun e => hn (.inl e)).trans (h.chg.block k hk hn)⟩
  · subst hk
    exact ⟨_, _, hb, by unfold KpT; decide⟩
/-- The document's dir turns. -/
theorem ER.doc (h : ER w B A d r v m wv wl nn rb x1 x2 V) : ∃ v', RR V B r v' x2 ∧ ∀ V' x2', RU V V' B r v' x2' → ER w B A d r v m wv wl nn rb x1 x2' V' ∧ GK V V' := by
  obtain ⟨v', r1, r2, r3⟩ := h.ref
  obtain ⟨p, hb⟩ := h.dir.box
  refine ⟨v', r1, fun V' x2' hu => ?_⟩
  obtain ⟨⟨v2, hr2, hv2⟩, hc⟩ := hu
  have hcell : ∀ k, (k = r ∨ some k = v'.ownBlock) → ∃ cs t, V.heap[k]? = some (.cells cs t (0, 0)) ∧ (t = 45 ∨ t = 58) := fun k hk => by
    rcases hk with rfl | hk
    · exact ⟨_, _, r1.1, .inl rfl⟩
    · obtain ⟨cur, hcur⟩ := row_obj r1.2.1 hk.symm
      exact ⟨_, _, hcur, .inr rfl⟩
  have hs : Soft (fun k => k = r ∨ some k = v'.ownBlock) V := fun k hk cs t e => by
    obtain ⟨cs', t', h1, h2⟩ := hcell k hk
    rw [h1] at e
    injection e with e
    injection e with _ e
    exact .inr (e ▸ h2)
  have hvs : ∀ j, wv.ownBlock = some j → j < V.heap.size := fun j hj => row_lt h.want hj
  refine ⟨⟨h.eb.soft hc hs, h.dir.chg hc (soft_node hs) ?_, ⟨v2, hr2, ?_, ?_⟩, row_chg h.want hc ?_, ?_⟩, GK.of_chg hc fun k hk _ => ?_⟩
  · rintro (e | e)
    · exact h.drr e
    · exact box_row hb r1.2.1 (by decide) e.symm
  · rcases hv2 with e | e
    · rw [e]; exact r2
    · exact .inr fun j hj => Nat.le_trans h.chg.size (e j hj)
  · intro j hj
    rcases hv2 with e | e
    · rw [e] at hj; exact r3 j hj
    · intro hw
      have := e j hj
      have := hvs j hw
      omega
  · intro k e hk
    rcases hk with rfl | hk
    · exact box_row r1.1 h.want (by decide) e
    · exact r3 k hk.symm e
  · refine ⟨hc.os.trans h.chg.os, hc.tape.trans h.chg.tape, hc.output.trans h.chg.output, Nat.le_trans h.chg.size hc.size, fun k hk hn => (hc.block k (Nat.lt_of_lt_of_le hk h.chg.size) fun e => ?_).trans (h.chg.block k hk hn)⟩
    rcases e with e | e
    · exact hn (.inr (.inl e))
    · rcases r2 with q | q
      · exact hn (.inr (.inr (q ▸ e)))
      · have := q k e.symm
        omega
  · obtain ⟨cs, t, h1, h2⟩ := hcell k hk
    refine ⟨cs, t, h1, ?_⟩
    rcases h2 with rfl | rfl <;> (unfold KpT; decide)
/-- A variable of the law is written. -/
theorem ER.cell (h : ER w B A d r v m wv wl nn rb x1 x2 V) {b : Nat} {t : TypeId} {ar : Array Value} (hb : Box V b t ar) (ht : ¬ (t = 28 ∨ t = 45 ∨ t = 58 ∨ KpT t)) (hw : w.heap.size ≤ b) (u : Value) {nn' : Int} {rb' : Bool} (he : EB A d r m wv nn' rb' (V.setCell ⟨b, 0, none⟩ u)) :
    ER w B A d r v m wv wl nn' rb' x1 x2 (V.setCell ⟨b, 0, none⟩ u) ∧ GK V (V.setCell ⟨b, 0, none⟩ u) := by
  have hc : Chg (fun k => k = b) V (V.setCell ⟨b, 0, none⟩ u) := Chg.setCell (p := ⟨b, 0, none⟩) (Chg.refl (fun k => k = b) V) (.inl rfl) u
  obtain ⟨v', r1, r2, r3⟩ := h.ref
  obtain ⟨p, hbd⟩ := h.dir.box
  have hnt : ∀ cs t', V.heap[b]? = some (.cells cs t' (0, 0)) → t' = t := fun cs t' e => by
    unfold Box at hb
    rw [hb] at e
    injection e with e
    injection e with _ e
    exact e.symm
  refine ⟨⟨he, h.dir.chg hc (fun k hk cs e => ?_) ?_, ⟨v', r1.chg hc ?_ ?_, r2, r3⟩, row_chg h.want hc ?_, ?_⟩, GK.of_chg hc fun k hk _ => ?_⟩
  · subst hk
    have := hnt cs _ e
    exact ht (.inr (.inr (.inr (.inl this.symm))))
  · intro e
    subst e
    exact ht (.inl (hnt _ _ hbd).symm)
  · intro e
    subst e
    exact ht (.inr (.inl (hnt _ _ r1.1).symm))
  · intro k e hk
    subst hk
    obtain ⟨cur, hcur⟩ := row_obj r1.2.1 e
    exact ht (.inr (.inr (.inl (hnt _ _ hcur).symm)))
  · intro k e hk
    subst hk
    obtain ⟨cur, hcur⟩ := row_obj h.want e
    exact ht (.inr (.inr (.inl (hnt _ _ hcur).symm)))
  · refine ⟨hc.os.trans h.chg.os, hc.tape.trans h.chg.tape, hc.output.trans h.chg.output, Nat.le_trans h.chg.size hc.size, fun k hk hn => (hc.block k (Nat.lt_of_lt_of_le hk h.chg.size) fun e => by omega).trans (h.chg.block k hk hn)⟩
  · subst hk
    exact ⟨_, _, hb, fun hk => ht (.inr (.inr (.inr hk)))⟩
end
section
variable {A : EA} {d r B : Nat} {m : Mv} {v wv : Value} {nn nn' : Int} {rb rb' : Bool} {V w : World} {wl x1 x2 : List KE}
theorem EB.nset (h : EB A d r m wv nn rb V) : EB A d r m wv nn' rb (V.setCell ⟨A.a9, 0, none⟩ (.int .i64 nn')) :=
  ⟨h.b3.far (box_box h.b3 h.b9 (by decide)) _, h.b4.far (box_box h.b4 h.b9 (by decide)) _, h.b5.far (box_box h.b5 h.b9 (by decide)) _, h.b6.far (box_box h.b6 h.b9 (by decide)) _, h.b7.far (box_box h.b7 h.b9 (by decide)) _, h.y0.far (box_box h.y0 h.b9 (by decide)) _, h.y1.far (box_box h.y1 h.b9 (by decide)) _, h.y2.far (box_box h.y2 h.b9 (by decide)) _, by simpa using h.b9.set_ 0 (.int .i64 nn')⟩
theorem EB.bset (h : EB A d r m wv nn rb V) : EB A d r m wv nn rb' (V.setCell ⟨A.c6, 0, none⟩ (.bool rb')) :=
  ⟨h.b3.far (box_box h.b3 h.b6 (by decide)) _, h.b4.far (box_box h.b4 h.b6 (by decide)) _, h.b5.far (box_box h.b5 h.b6 (by decide)) _, by simpa using h.b6.set_ 0 (.bool rb'), h.b7.far (box_box h.b7 h.b6 (by decide)) _, h.y0.far (box_box h.y0 h.b6 (by decide)) _, h.y1.far (box_box h.y1 h.b6 (by decide)) _, h.y2.far (box_box h.y2 h.b6 (by decide)) _, h.b9.far (box_box h.b9 h.b6 (by decide)) _⟩
theorem ER.nset (h : ER w B A d r v m wv wl nn rb x1 x2 V) (hw : w.heap.size ≤ A.a9) (nn' : Int) : ER w B A d r v m wv wl nn' rb x1 x2 (V.setCell ⟨A.a9, 0, none⟩ (.int .i64 nn')) ∧ GK V (V.setCell ⟨A.a9, 0, none⟩ (.int .i64 nn')) :=
  h.cell h.eb.b9 (by unfold KpT; decide) hw _ h.eb.nset
theorem ER.bset (h : ER w B A d r v m wv wl nn rb x1 x2 V) (hw : w.heap.size ≤ A.c6) (rb' : Bool) : ER w B A d r v m wv wl nn rb' x1 x2 (V.setCell ⟨A.c6, 0, none⟩ (.bool rb')) ∧ GK V (V.setCell ⟨A.c6, 0, none⟩ (.bool rb')) :=
  h.cell h.eb.b6 (by unfold KpT; decide) hw _ h.eb.bset
end
/-- The loop's own record turns: nothing of this does. -/
theorem er_own {α : Type} {w : World} {B d r B2 : Nat} {A : EA} {v : Value} {m : Mv} {wv : Value} {wl : List KE} {rb : Bool} (nn : α → Int) (x1 x2 : α → List KE) (hB : w.heap.size ≤ B2) : OwnFrom B2 (fun (s : α) V => ER w B A d r v m wv wl (nn s) rb (x1 s) (x2 s) V) := by
  intro s V V' row h hg hr
  refine h.other (S := fun k => row = some k) ⟨hg.os, hg.tape, hg.output, hg.size, fun k hk hn => hg.block k hk fun e => hn e.symm⟩ (fun k hk cs t e => ?_) fun k hk => Nat.le_trans hB (hr k hk).1
  obtain ⟨_, o, ho, hc⟩ := hr k hk
  rw [ho] at e
  injection e with e
  subst e
  cases hc

theorem below_to {B : Nat} {w0 W W' : World} {n : Nat} (h : Below B w0 W) (hw : W' = W.drewN n) : Below B w0 W' := by
  subst hw
  exact below_drewN h _
theorem prefix_snoc {pre l : List KE} {x : KE} (h : pre <+: l) (hl : pre.length < l.length) : (pre ++ [x] <+: l) ↔ l[pre.length] = x := by
  obtain ⟨r, rfl⟩ := h
  cases r with
  | nil => simp at hl
  | cons y r =>
    constructor
    · intro h
      rw [List.prefix_append_right_inj] at h
      have := (List.cons_prefix_cons.1 h).1
      simp [this]
    · intro h
      have h2 : y = x := by simpa using h
      subst h2
      exact ⟨r, by simp⟩
set_option maxRecDepth 100000 in
theorem ke_neq (y x : KE) (h : ¬ y = x) (W : World) : (binOp .neq 58 (keV y) (keV x)).run Try.prog W = .ok (.bool true) W := by
  go_simp
  intro h0 h1 h2 h3 h4 h5 h6
  refine h ?_
  obtain ⟨yk, y1, y2, y3, y4, y5, y6⟩ := y
  obtain ⟨xk, x1, x2, x3, x4, x5, x6⟩ := x
  simp only at h0 h1 h2 h3 h4 h5 h6
  rw [ByteArray.toList_eq, ByteArray.toList_eq] at h0
  have hk := WideShapes.bytes_inj h0
  subst hk h1 h2 h3 h4 h5 h6
  rfl
theorem one_ke1 (x : KE) : ∀ u ∈ keC x, u.oneCell' = true := by
  intro u hu
  exact one_ke [x] u (by simpa using hu)
/-- Both dirs of one number have turned, in one go. -/
theorem DW.step2 {B wb N N' : Nat} {Lv : Value} {s : St} {w w2 : World} (h : DW B wb Lv N s w) {i : Nat} (hi : i < s.n) {xs' : List KE} {v' : Value} (hc : Chg (fun k => k = s.ds i ∨ k = s.rs i ∨ some k = (s.vs i).ownBlock) w w2) (hd : DR w2 (s.ds i) xs') (hr2 : RR w2 B (s.rs i) v' xs')
    (hv' : v'.ownBlock = (s.vs i).ownBlock ∨ ∀ j, v'.ownBlock = some j → w.heap.size ≤ j) (hl : xs'.length ≤ N') (hN : N ≤ N') : ∃ s', s'.n = s.n ∧ DW B wb Lv N' s' w2 ∧ Turn wb s s' w w2 := by
  obtain ⟨p, hbd⟩ := (h.dir i hi).box
  have hri := h.ref i hi
  have hcell : ∀ k, (k = s.ds i ∨ k = s.rs i ∨ some k = (s.vs i).ownBlock) → ∃ cs t, w.heap[k]? = some (.cells cs t (0, 0)) ∧ (t = 28 ∨ t = 45 ∨ t = 58) := fun k hk => by
    rcases hk with rfl | rfl | hk
    · exact ⟨_, _, hbd, .inl rfl⟩
    · exact ⟨_, _, hri.1, .inr (.inl rfl)⟩
    · obtain ⟨cur, hcur⟩ := row_obj hri.2.1 hk.symm
      exact ⟨_, _, hcur, .inr (.inr rfl)⟩
  have hs : Soft (fun k => k = s.ds i ∨ k = s.rs i ∨ some k = (s.vs i).ownBlock) w := fun k hk cs t e => by
    obtain ⟨cs', t', h1, h2⟩ := hcell k hk
    rw [h1] at e
    injection e with e
    injection e with _ e
    exact e ▸ h2
  have hrow : ∀ {B0 : Nat} {e : TypeId} {size n : Nat} {u : Value} {ys : List Value}, w.ownsRow B0 e size u n ys → ¬ (e = 28 ∨ e = 45 ∨ e = 58) → w2.ownsRow B0 e size u n ys := fun hu he => row_chg hu hc fun k e hk => by
    obtain ⟨cur, hcur⟩ := row_obj hu e
    exact he (hs k hk _ _ hcur)
  refine ⟨{ s with vs := fun k => if k = i then v' else s.vs k, ls := fun k => if k = i then xs' else s.ls k }, rfl, ⟨h.box.soft hc hs (by decide), h.num, hrow h.rowD (by decide), hrow h.rowR (by decide), ?_, ?_, h.low, ?_, h.dne, h.rne, ?_⟩, ?_, ?_⟩
  · intro j hj
    by_cases e : j = i
    · subst e
      simp only [if_true]
      exact hd
    · simp only [if_neg e]
      obtain ⟨q, hbj⟩ := (h.dir j hj).box
      refine (h.dir j hj).chg hc (soft_node hs) ?_
      rintro (e2 | e2 | e2)
      · exact e (h.dne _ _ hj hi e2)
      · exact box_box hbj hri.1 (by decide) e2
      · exact box_row hbj hri.2.1 (by decide) e2.symm
  · intro j hj
    by_cases e : j = i
    · subst e
      simp only [if_true]
      exact hr2
    · simp only [if_neg e]
      have hrj := h.ref j hj
      refine hrj.chg hc ?_ fun k hk => ?_
      · rintro (e2 | e2 | e2)
        · exact box_box hbd hrj.1 (by decide) e2.symm
        · exact e (h.rne _ _ hj hi e2)
        · exact box_row hrj.1 hri.2.1 (by decide) e2.symm
      · rintro (e2 | e2 | e2)
        · subst e2
          exact box_row hbd hrj.2.1 (by decide) hk
        · subst e2
          exact box_row hri.1 hrj.2.1 (by decide) hk
        · exact e (h.vne _ _ _ hj hi hk e2.symm)
  · intro j hj
    by_cases e : j = i
    · subst e
      simp only [if_true]
      exact hl
    · simp only [if_neg e]
      exact Nat.le_trans (h.len j hj) hN
  · intro a b k ha hb hka hkb
    have hnew : ∀ j, j < s.n → j ≠ i → (s.vs j).ownBlock = some k → v'.ownBlock = some k → False := fun j hj hji h1 h2 => by
      rcases hv' with e | e
      · rw [e] at h2
        exact hji (h.vne _ _ _ hj hi h1 h2)
      · have := e k h2
        have := row_lt (h.ref j hj).2.1 h1
        omega
    by_cases ea : a = i
    · by_cases eb : b = i
      · rw [ea, eb]
      · simp only [if_pos ea] at hka
        simp only [if_neg eb] at hkb
        exact (hnew b hb eb hkb hka).elim
    · by_cases eb : b = i
      · simp only [if_neg ea] at hka
        simp only [if_pos eb] at hkb
        exact (hnew a ha ea hka hkb).elim
      · simp only [if_neg ea] at hka
        simp only [if_neg eb] at hkb
        exact h.vne _ _ _ ha hb hka hkb
  · refine hc.mono fun k _ hk => ?_
    rcases hk with e | e | e
    · exact .inr (.inl ⟨i, hi, .inl e⟩)
    · exact .inr (.inl ⟨i, hi, .inr (.inl e)⟩)
    · exact .inr (.inl ⟨i, hi, .inr (.inr e.symm)⟩)
  · intro k hk
    rcases hk with e | ⟨j, hj, e | e | e⟩ | e | e
    · exact .inl (.inl e)
    · exact .inl (.inr (.inl ⟨j, hj, .inl e⟩))
    · exact .inl (.inr (.inl ⟨j, hj, .inr (.inl e)⟩))
    · by_cases ej : j = i
      · simp only [if_pos ej] at e
        rcases hv' with e2 | e2
        · exact .inl (.inr (.inl ⟨i, hi, .inr (.inr (e2 ▸ e))⟩))
        · exact .inr (e2 k e)
      · simp only [if_neg ej] at e
        exact .inl (.inr (.inl ⟨j, hj, .inr (.inr e)⟩))
    · exact .inl (.inr (.inr (.inl e)))
    · exact .inl (.inr (.inr (.inr e)))
end Go.Proofs.Ytglmhpmjebjcgaa
