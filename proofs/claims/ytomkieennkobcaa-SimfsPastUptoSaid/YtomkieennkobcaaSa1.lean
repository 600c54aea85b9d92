import Derived.Test.YtomkieennkobcaaSf1
/- Rows in blocks of their own: what writing over and appending leaves. -/
namespace Go.Proofs.Ytomkieennkobcaa
open Go.RowKit Go.Maps

section
variable {P : Program} (w : World)
/-- An append of cells onto a row of bytes of the call's own: every other header onto such a row that ends no later reads as it did. -/
theorem run_app_keep (base : Nat) (t ty e : TypeId) (i : TypeInfo) (z : Value) (ht : P.underlying t = some (.slice e)) (hi : P.info? e = some i) (hz : i.zero = some z)
    (hsize : i.size = 1) (hby : i.bytes = 1) (hzs : z.cells.size = 1) (v : Value) (n : Nat) (xs : List Value) (hown : w.ownsRow base e 1 v n xs)
    (B : Nat) (ad : Addr) (m c : Nat) (news : List Value) (hl : news.length = m * 1) (hr : Rd w B (some ad) news) (h1 : ∀ u ∈ news, u.oneCell' = true)
    (h63 : n + m ≤ maxLen) (hbytes : (n + m) * 1 ≤ 140737488355328) (hbase : base ≤ w.heap.size) :
    ∃ v' w', (Builtin.append_ #[t, t] ty #[v, .slice (some ad) m c]).run P w = .ok v' w' ∧ w'.ownsRow base e 1 v' (n + m) (xs ++ news) ∧ w.grownBy w' v.ownBlock ∧
      (v'.ownBlock = v.ownBlock ∨ v'.ownBlock = some w.heap.size) ∧ ∀ (b0 : Nat) (e0 : TypeId) (u : Value) (k : Nat) (ys : List Value), w.ownsRow b0 e0 1 u k ys → (u.ownBlock = v.ownBlock → k ≤ n) → w'.ownsRow b0 e0 1 u k ys := by
  obtain ⟨v', w', r1, r2, r3, r4⟩ := run_app (P := P) w base t ty e i z 1 1 ht hi hz hsize hby hzs (by decide) v n xs hown B (some ad) m c news hl hr h1 h63 hbytes hbase
  refine ⟨v', w', r1, r2, r3, r4, fun b0 e0 u k ys hu hk => ?_⟩
  have hnews : ∀ j u, news[j]? = some u → w.cell? (ad.add j) = some u := fun j u hj => by
    obtain ⟨a', ea, _, hc⟩ := hr j u hj
    cases ea
    exact hc
  rcases hown.2 with ⟨rfl, _⟩ | ⟨g, cap, cur, rfl, hg, hh, hnc, hcm, hcs, htk⟩
  · exact row_block hu fun j hj => r3.block j (hu.lt j hj).2 (by simp [Value.ownBlock])
  · by_cases hug : u.ownBlock = some g
    · have hkn := hk hug
      rcases hu.2 with ⟨rfl, _⟩ | ⟨g', cap', cur', rfl, hg', hh', hnc', hcm', hcs', htk'⟩
      · cases hug
      · obtain rfl : g' = g := by simpa [Value.ownBlock] using hug
        rw [hh] at hh'
        injection hh' with hh'
        injection hh' with q1 q2 _
        subst q1 q2
        have hcc : cap' = cap := by omega
        subst hcc
        by_cases hroom : n + m ≤ cap'
        · have hrun := run_append_room (P := P) w t ty e i ht hi g' n cap' cur hh ad m c news (by rw [hl, hsize]) hnews h1 hroom (by rw [hsize]; omega)
          rw [r1] at hrun
          injection hrun with _ hw
          refine ⟨hu.1, .inr ⟨g', cap', (cur.toList.take (n * 1) ++ news ++ cur.toList.drop (n * 1 + news.length)).toArray, rfl, hg', ?_, hnc', hcm', ?_, ?_⟩⟩
          · rw [hw, hsize]
            simp [World.setRow, Array.getElem?_modify, hh]
          · have hcl : cur.toList.length = cap' := by rw [Array.length_toList, hcs]; omega
            simp only [List.size_toArray, List.length_append, List.length_take, List.length_drop, hcl]
            omega
          · rw [List.toList_toArray]
            have hcl : cur.toList.length = cap' := by rw [Array.length_toList, hcs]; omega
            rw [List.append_assoc, List.take_append_of_le_length (by rw [List.length_take, hcl]; omega), List.take_take, Nat.min_eq_left (by omega)]
            exact htk'
        · have hrun := run_append_grow (P := P) w t ty e i z ht hi hz ⟨g', 0, none⟩ n cap' xs (by rw [hown.1, hsize]) (fun j u hj => hown.cells rfl j u hj) ad m c news (by rw [hl, hsize]) hnews (by omega) (by unfold maxLen at h63; omega) (by rw [hby]; exact growslice_fits (by omega) (by omega))
          rw [r1] at hrun
          injection hrun with _ hw
          rw [hw]
          exact hu.alloc _
    · exact row_block hu fun j hj => r3.block j (hu.lt j hj).2 fun ej => hug (hj.trans (by rw [ej]; rfl))
end
theorem wpList_app_keep {P : Program} {w : World} {ops : Array Oper} {rest : List Oper} {o : Oper} {a : Act} {Q : Exit → Act → World → Prop} (hgd : o.guard = none) (s x : Operand) (t : TypeId)
    (ho : o.op = .call { callee := .builtin .append, args := #[s, x], argTypes := #[t, t] })
    (base : Nat) (e : TypeId) (i : TypeInfo) (z : Value) (ht : P.underlying t = some (.slice e)) (hi : P.info? e = some i) (hz : i.zero = some z)
    (hsize : i.size = 1) (hby : i.bytes = 1) (hzs : z.cells.size = 1)
    (v : Value) (n : Nat) (xs : List Value) (hs : a.eval s = v) (hown : w.ownsRow base e 1 v n xs)
    (B : Nat) (ad : Addr) (m c : Nat) (news : List Value) (hx : a.eval x = .slice (some ad) m c) (hl : news.length = m * 1) (hr : Rd w B (some ad) news) (h1 : ∀ u ∈ news, u.oneCell' = true)
    (h63 : n + m ≤ maxLen) (hbytes : (n + m) * 1 ≤ 140737488355328) (hbase : base ≤ w.heap.size)
    (h : ∀ v' w', w'.ownsRow base e 1 v' (n + m) (xs ++ news) → w.grownBy w' v.ownBlock → (v'.ownBlock = v.ownBlock ∨ v'.ownBlock = some w.heap.size) → (∀ (b0 : Nat) (e0 : TypeId) (u : Value) (k : Nat) (ys : List Value), w.ownsRow b0 e0 1 u k ys → (u.ownBlock = v.ownBlock → k ≤ n) → w'.ownsRow b0 e0 1 u k ys) → wpList P ops Q rest (a.put o.dst v') w') :
    wpList P ops Q (o :: rest) a w :=
  wpList_plain hgd fun K hK => by
    obtain ⟨v', w', hrun, h2, h3, h4, h5⟩ := run_app_keep (P := P) w base t o.type e i z ht hi hz hsize hby hzs v n xs hown B ad m c news hl hr h1 h63 hbytes hbase
    unfold Oper.wp execOp
    simp only [ho, resolve, invoke, builtin, Sem.run_bind, Sem.run_pure, Result.andThen_ok, List.map_toArray, List.map_cons, List.map_nil, hs, hx, hrun]
    exact hK _ _ (h v' w' h2 h3 h4 h5)
/-- The rows of files lie in blocks of their own. -/
def Apart (us : List Value) : Prop := ∀ (i j : Nat) (u v : Value), us[i]? = some u → us[j]? = some v → i ≠ j → ∀ k, u.ownBlock = some k → v.ownBlock ≠ some k
theorem Apart.nil : Apart [] := fun i j u v h => by cases h
theorem Apart.add {w w6 : World} {base : Nat} {fs : List (ByteArray × List UInt8)} {us : List Value} {v u : Value} {n : Nat} {xs : List Value} {e : TypeId} {z : Nat} (hA : Apart us) (h : FLs w base fs us v) (hr : w6.ownsRow w.heap.size e z u n xs) : Apart (us ++ [u]) := by
  have hnew : ∀ k, u.ownBlock = some k → w.heap.size ≤ k := fun k hk => (hr.lt k hk).1
  have hold : ∀ (i : Nat) (x : Value), us[i]? = some x → ∀ k, x.ownBlock = some k → k < w.heap.size := fun i x hx k hk => by
    have hi : i < fs.length := by rw [← h.1]; exact (List.getElem?_eq_some_iff.1 hx).1
    obtain ⟨b, c, _, hrow⟩ := h.2.2 i fs[i] x (List.getElem?_eq_getElem hi) hx
    exact (hrow.lt k hk).2
  intro i j x y hi hj hij k hk
  have hcase : ∀ (i : Nat) (x : Value), (us ++ [u])[i]? = some x → (us[i]? = some x ∧ i < us.length) ∨ (i = us.length ∧ x = u) := fun i x hx => by
    rcases Nat.lt_trichotomy i us.length with hl | hl | hl
    · rw [List.getElem?_append_left hl] at hx; exact .inl ⟨hx, hl⟩
    · subst hl
      rw [List.getElem?_append_right (Nat.le_refl _)] at hx
      simp at hx
      exact .inr ⟨rfl, hx.symm⟩
    · rw [List.getElem?_eq_none (by simp; omega)] at hx; cases hx
  rcases hcase i x hi with ⟨hi', _⟩ | ⟨hi', hx⟩
  · rcases hcase j y hj with ⟨hj', _⟩ | ⟨hj', hy'⟩
    · exact hA i j x y hi' hj' hij k hk
    · intro hy
      have := hold i x hi' k hk
      have := hnew k (by rw [← hy']; exact hy)
      omega
  · rcases hcase j y hj with ⟨hj', _⟩ | ⟨hj', _⟩
    · intro hy
      have := hold j y hj' k hy
      have := hnew k (by rw [← hx]; exact hk)
      omega
    · exact absurd (hi'.trans hj'.symm) hij
theorem row_set {w : World} {base g n cap k : Nat} {e : TypeId} {xs : List Value} (h : w.ownsRow base e 1 (.slice (some ⟨g, 0, none⟩) n cap) n xs) (u : Value) : (w.setCell ⟨g, k, none⟩ u).ownsRow base e 1 (.slice (some ⟨g, 0, none⟩) n cap) n (xs.set k u) := by
  refine ⟨by rw [List.length_set]; exact h.1, ?_⟩
  rcases h.2 with ⟨h0, _⟩ | ⟨g', cap', cur, hv, hg, hh, hnc, hcm, hcs, htk⟩
  · cases h0
  · injection hv with e1 _ e2
    injection e1 with e1
    injection e1 with e1
    subst e1 e2
    refine .inr ⟨g, cap, cur.set! k u, rfl, hg, ?_, hnc, hcm, by simpa using hcs, ?_⟩
    · simp [World.setCell, Array.getElem?_modify, hh]
    · rw [← htk]
      simp [List.take_set]
theorem row_off {w : World} {base n z : Nat} {e : TypeId} {v : Value} {xs : List Value} (h : w.ownsRow base e z v n xs) {p : Addr} (hp : v.ownBlock ≠ some p.block) (u : Value) : (w.setCell p u).ownsRow base e z v n xs :=
  row_block h fun k hk => Below.heap_setCell w p u k fun e => hp (by rw [hk, e])
theorem zip_set {fs : List (ByteArray × List UInt8)} : ∀ {us : List Value} {i : Nat} {p : ByteArray × List UInt8} (_ : fs[i]? = some p) (y : List UInt8), ((fs.set i (p.1, y)).zip us).flatMap fcell = (fs.zip us).flatMap fcell := by
  induction fs with
  | nil => intro us i p h; simp at h
  | cons q r ih =>
    intro us i p h y
    cases us with
    | nil => rw [List.zip_nil_right, List.zip_nil_right]
    | cons u us =>
      cases i with
      | zero =>
        simp at h
        subst h
        rfl
      | succ i =>
        rw [List.set_cons_succ, List.zip_cons_cons, List.zip_cons_cons, List.flatMap_cons, List.flatMap_cons, ih (by simpa using h)]
/-- A byte of a file is written over. -/
theorem FLs.paint {w : World} {base : Nat} {fs : List (ByteArray × List UInt8)} {us : List Value} {v : Value} (h : FLs w base fs us v) (hA : Apart us) {i k : Nat} {p : ByteArray × List UInt8} (hi : fs[i]? = some p) (hk : k < p.2.length) (x : UInt8) :
    ∃ g c, us[i]? = some (.slice (some ⟨g, 0, none⟩) p.2.length c) ∧ base ≤ g ∧ g < w.heap.size ∧ p.2.length ≤ c ∧ (∃ u0, w.cell? ⟨g, k, none⟩ = some u0) ∧ w.frozen? ⟨g, k, none⟩ = false ∧ FLs (w.setCell ⟨g, k, none⟩ (.int .u8 x.toNat)) base (fs.set i (p.1, p.2.set k x)) us v := by
  have hil : i < fs.length := (List.getElem?_eq_some_iff.1 hi).1
  obtain ⟨u, hu⟩ : ∃ u, us[i]? = some u := ⟨_, List.getElem?_eq_getElem (by rw [h.1]; exact hil)⟩
  obtain ⟨b, c, rfl, hr⟩ := h.2.2 i p u hi hu
  obtain ⟨g, cap, hv, hnc, hcm, ho⟩ := Own.of_row hr (by omega)
  injection hv with e1 _ e2
  subst e1 e2
  refine ⟨g, c, hu, ho.1, ho.lt, hnc, ⟨_, ho.cell (i := k) (by rw [bv_len]; exact hk)⟩, ho.free k, by rw [List.length_set]; exact h.1, ?_, fun j q y hq hy => ?_⟩
  · rw [List.length_set, zip_set hi]
    exact row_off (p := ⟨g, k, none⟩) h.2.1 (fun e => row_apart hr h.2.1 (show (5 : TypeId) ≠ 35 by decide) rfl e) _
  · by_cases hj : j = i
    · subst hj
      rw [hu] at hy
      injection hy with hy
      subst hy
      rw [List.getElem?_set_self hil] at hq
      injection hq with hq
      subst hq
      simp only [List.length_set]
      refine ⟨_, _, rfl, ?_⟩
      have e : bv (p.2.set k x) = (bv p.2).set k (.int .u8 x.toNat) := by simp [bv, List.map_set]
      rw [e]
      exact row_set hr _
    · rw [List.getElem?_set_ne (fun e => hj e.symm)] at hq
      obtain ⟨b', c', rfl, hr'⟩ := h.2.2 j q y hq hy
      exact ⟨b', c', rfl, row_off (p := ⟨g, k, none⟩) hr' (fun e => hA i j _ _ hu hy (fun e => hj e.symm) g rfl e) _⟩
/-- An append onto a file's bytes leaves the files. -/
theorem FLs.kept {w w' : World} {base n : Nat} {fs : List (ByteArray × List UInt8)} {us : List Value} {v g : Value} (h : FLs w base fs us v) (hg : w.grownBy w' g.ownBlock) (hk : ∀ (b0 : Nat) (e0 : TypeId) (u : Value) (k : Nat) (ys : List Value), w.ownsRow b0 e0 1 u k ys → (u.ownBlock = g.ownBlock → k ≤ n) → w'.ownsRow b0 e0 1 u k ys)
    {xs : List Value} (hr : w.ownsRow base 5 1 g n xs) (hi : ∀ (j : Nat) (p : ByteArray × List UInt8) (u : Value), fs[j]? = some p → us[j]? = some u → u.ownBlock = g.ownBlock → p.2.length ≤ n) : FLs w' base fs us v := by
  refine ⟨h.1, row_block h.2.1 fun k hk => hg.block k (h.2.1.lt k hk).2 fun e => ?_, fun j p u hp hu => ?_⟩
  · exact row_apart hr h.2.1 (show (5 : TypeId) ≠ 35 by decide) e.symm hk
  · obtain ⟨b, c, e, hrow⟩ := h.2.2 j p u hp hu
    exact ⟨b, c, e, hk _ _ _ _ _ hrow fun e2 => hi j p u hp hu e2⟩
end Go.Proofs.Ytomkieennkobcaa
