import Derived.Test.YtifimeohdgnehaaHnt14
namespace Go.Proofs.Ytifimeohdgnehaa
open Go.RowKit Go.Maps

/-- A row of entries of the call's own: its block lies from lo on, below hi. -/
structure ER (lo hi : Nat) (W : World) (b : Option Addr) (n cap : Nat) (es : List HE) : Prop where
  own : W.ownsRow lo 33 6 (.slice b n cap) n (es.flatMap six)
  top : ∀ k, (Value.slice b n cap).ownBlock = some k → k < hi
  len : es.length = n
section
variable {lo hi n cap : Nat} {W W' : World} {b : Option Addr} {es : List HE}
theorem ER.mk' (h : W.ownsRow lo 33 6 (.slice b n cap) n (es.flatMap six)) (hl : es.length = n) : ER lo W.heap.size W b n cap es :=
  ⟨h, fun k hk => (h.lt k hk).2, hl⟩
theorem ER.bot (h : ER lo hi W b n cap es) : ∀ k, (Value.slice b n cap).ownBlock = some k → lo ≤ k := fun k hk => (h.own.lt k hk).1
theorem ER.rd (h : ER lo hi W b n cap es) : Rd W W.heap.size b (es.flatMap six) := ownsRow_rd h.own
theorem ER.next (h : ER lo hi W b n cap es) (hb : Below W.heap.size W W') : ER lo hi W' b n cap es :=
  ⟨ownsRow_block h.own fun k hk => hb.block k (h.own.lt k hk).2, h.top, h.len⟩
theorem ER.chg {S : Nat → Prop} (h : ER lo hi W b n cap es) (hc : Chg S W W') (hS : ∀ k, lo ≤ k → k < hi → ¬ S k) : ER lo hi W' b n cap es :=
  ⟨ownsRow_block h.own fun k hk => hc.block k (h.own.lt k hk).2 (hS k (h.bot k hk) (h.top k hk)), h.top, h.len⟩
theorem Box.next {bl : Nat} {t : TypeId} {ar : Array Value} (h : Box W bl t ar) (hb : Below W.heap.size W W') : Box W' bl t ar := h.below hb h.lt
theorem Below.next {w : World} (h : Below w.heap.size w W) (hb : Below W.heap.size W W') : Below w.heap.size w W' := h.trans (hb.mono h.size)
end
theorem Below.al (W : World) (o : Obj) : Below W.heap.size W (W.alloc o) := (Below.refl _ _).alloc (Nat.le_refl _) o
theorem ownsRow_cap {w : World} {base : Nat} {e : TypeId} {size n cap : Nat} {b : Option Addr} {xs : List Value} (h : w.ownsRow base e size (.slice b n cap) n xs) : n ≤ cap := by
  rcases h.2 with ⟨hv, h0⟩ | ⟨g, c', cur, hv, _, _, hnc, _⟩
  · omega
  · injection hv with _ _ e2
    omega

theorem DAns.pick (bs : List UInt8) : ∃ (seg size : Int) (H : List HE) (er : Int), H.length ≤ 5000 ∧ ∀ w w' e, DAns bs w w' e →
    ∃ b cap, e = .returned (.tuple #[hV seg size (.slice b H.length cap), .int .i64 er]) ∧ ER w.heap.size w'.heap.size w' b H.length cap H := by
  by_cases hx : ∃ seg size H, HintR seg size H ∧ encH seg size H = bs
  · obtain ⟨seg, size, H, hr, he⟩ := hx
    refine ⟨seg, size, H, 0, hint_len hr, fun w w' e hd => ?_⟩
    rcases hd with ⟨sg, sz, K, b, cap, _, _, hu, h1, h2⟩ | ⟨hn, _⟩
    · obtain ⟨rfl, rfl, rfl⟩ := hu seg size H hr he
      exact ⟨b, cap, h1, ER.mk' h2 rfl⟩
    · exact absurd he (hn seg size H hr)
  · refine ⟨0, 0, [], 60, by simp, fun w w' e hd => ?_⟩
    rcases hd with ⟨sg, sz, K, b, cap, h1, h2, _⟩ | ⟨_, h2⟩
    · exact absurd ⟨sg, sz, K, h1, h2⟩ hx
    · exact ⟨none, 0, h2, ER.mk' (nil_own _ _ _ _) rfl⟩
/-- The answer that both sides give of bs. -/
def DPick (bs : List UInt8) (seg size : Int) (H : List HE) (er : Int) : Prop := ∀ w w' e, DAns bs w w' e →
    ∃ b cap, e = .returned (.tuple #[hV seg size (.slice b H.length cap), .int .i64 er]) ∧ ER w.heap.size w'.heap.size w' b H.length cap H
theorem octDecG {bs : List UInt8} {seg size er : Int} {H : List HE} (hp : DPick bs seg size H er) (A : Option Addr) (n c m : Nat) (w : World) (hm : H.length = m) (hA : Rd w w.heap.size A (bv bs)) (hn : bs.length = n) (hnc : n ≤ c) (hmx : n ≤ 2000000) :
    Calls Try.prog 12 #[.slice A n c] w fun e w' => ∃ b cap, e = .returned (.tuple #[hV seg size (.slice b m cap), .int .i64 er]) ∧ ER w.heap.size w'.heap.size w' b m cap H ∧ Below w.heap.size w w' := by
  subst hm
  exact (octDecodeX A n c bs w hA hn hnc (by omega)).mono fun e w' ⟨h1, h2⟩ => by
    obtain ⟨b, cap, h3, h4⟩ := hp _ _ _ h1
    exact ⟨b, cap, h3, h4, h2⟩
theorem refDecG {bs : List UInt8} {seg size er : Int} {H : List HE} (hp : DPick bs seg size H er) (A : Option Addr) (n c m : Nat) (w : World) (hm : H.length = m) (hA : Rd w w.heap.size A (bv bs)) (hn : bs.length = n) (hnc : n ≤ c) (hmx : n ≤ 2000000) :
    Calls Try.prog 13 #[.slice A n c] w fun e w' => ∃ b cap, e = .returned (.tuple #[hV seg size (.slice b m cap), .int .i64 er]) ∧ ER w.heap.size w'.heap.size w' b m cap H ∧ Below w.heap.size w w' := by
  subst hm
  exact (refDecodeX A n c bs w hA hn hnc hmx).mono fun e w' ⟨h1, h2⟩ => by
    obtain ⟨b, cap, h3, h4⟩ := hp _ _ _ h1
    exact ⟨b, cap, h3, h4, h2⟩
/-- Another question: only that it is answered. -/
theorem octDecAny {bs : List UInt8} (A : Option Addr) (n c : Nat) (w : World) (hA : Rd w w.heap.size A (bv bs)) (hn : bs.length = n) (hnc : n ≤ c) (hmx : n ≤ 2000000) :
    Calls Try.prog 12 #[.slice A n c] w fun e w' => ∃ v, e = .returned v ∧ Below w.heap.size w w' := by
  obtain ⟨seg, size, H, er, _, hp⟩ := DAns.pick bs
  exact (octDecodeX A n c bs w hA hn hnc (by omega)).mono fun e w' ⟨h1, h2⟩ => by
    obtain ⟨b, cap, h3, h4⟩ := hp _ _ _ h1
    exact ⟨_, h3, h2⟩

theorem flatMap_set6 (l : List HE) (i : Nat) (hi : i < l.length) (p : HE) :
    (l.set i p).flatMap six = ((((((l.flatMap six).set (i * 6) (.string p.key)).set (i * 6 + 1) (.int .i64 p.off)).set (i * 6 + 2) (.int .i64 p.time)).set (i * 6 + 3) (.bool p.dead)).set (i * 6 + 4) (.int .i64 p.pos)).set (i * 6 + 5) (.int .i64 p.len) := by
  induction l generalizing i with
  | nil => simp at hi
  | cons q l ih =>
    cases i with
    | zero => simp [six]
    | succ i =>
      have e : (i + 1) * 6 = i * 6 + 6 := by omega
      have hl : (six q).length = 6 := rfl
      simp only [List.set_cons_succ, List.flatMap_cons, ih i (by simpa using hi), e]
      rw [List.set_append_right _ _ (by omega), List.set_append_right _ _ (by omega), List.set_append_right _ _ (by omega), List.set_append_right _ _ (by omega), List.set_append_right _ _ (by omega), List.set_append_right _ _ (by omega), hl,
        show i * 6 + 6 - 6 = i * 6 by omega, show i * 6 + 6 + 1 - 6 = i * 6 + 1 by omega, show i * 6 + 6 + 2 - 6 = i * 6 + 2 by omega, show i * 6 + 6 + 3 - 6 = i * 6 + 3 by omega, show i * 6 + 6 + 4 - 6 = i * 6 + 4 by omega, show i * 6 + 6 + 5 - 6 = i * 6 + 5 by omega]
theorem Own.six_at {w : World} {B g : Nat} {t : TypeId} {l : List HE} (h : Own w B g t (l.flatMap six)) {i : Nat} (hi : i < l.length) (j : Nat) (hj : j < 6) : ∃ u, w.cell? ⟨g, i * 6 + j, none⟩ = some u :=
  ⟨_, h.get (List.getElem?_eq_getElem (by rw [six_len]; omega))⟩
/-- The row of a slice, of any entries: what spoil goes on with. -/
theorem own_of_er {lo hi n cap : Nat} {W : World} {b : Option Addr} {es : List HE} (h : ER lo hi W b n cap es) (hn : 0 < n) : ∃ g, b = some ⟨g, 0, none⟩ ∧ n ≤ cap ∧ cap ≤ maxLen ∧ Own W lo g 33 (es.flatMap six) ∧ lo ≤ g ∧ g < hi := by
  obtain ⟨g, cap', hv, h1, h2, h3⟩ := Own.of_row h.own hn
  injection hv with e1 _ e2
  subst e1 e2
  exact ⟨g, rfl, h1, h2, h3, h.bot g rfl, h.top g rfl⟩
theorem ER.six_set {lo hi n cap g : Nat} {W : World} {es : List HE} (h : ER lo hi W (some ⟨g, 0, none⟩) n cap es) {i : Nat} (hi' : i < n) (p : HE) :
    ER lo hi ((((((W.setCell ⟨g, i * 6, none⟩ (.string p.key)).setCell ⟨g, i * 6 + 1, none⟩ (.int .i64 p.off)).setCell ⟨g, i * 6 + 2, none⟩ (.int .i64 p.time)).setCell ⟨g, i * 6 + 3, none⟩ (.bool p.dead)).setCell ⟨g, i * 6 + 4, none⟩ (.int .i64 p.pos)).setCell ⟨g, i * 6 + 5, none⟩ (.int .i64 p.len)) (some ⟨g, 0, none⟩) n cap (es.set i p) := by
  have hel := h.len
  have hl := six_len es
  refine ⟨⟨by rw [six_len]; simp [hel], .inr ?_⟩, h.top, by simp [hel]⟩
  rcases h.own.2 with ⟨hv, _⟩ | ⟨g', c, cur, hv, hg, hh, hnc, hcm, hsz, htk⟩
  · cases hv
  · injection hv with e1 _ e2
    injection e1 with e1
    injection e1 with e1
    subst e1 e2
    refine ⟨g, cap, (((((cur.setIfInBounds (i * 6) (.string p.key)).setIfInBounds (i * 6 + 1) (.int .i64 p.off)).setIfInBounds (i * 6 + 2) (.int .i64 p.time)).setIfInBounds (i * 6 + 3) (.bool p.dead)).setIfInBounds (i * 6 + 4) (.int .i64 p.pos)).setIfInBounds (i * 6 + 5) (.int .i64 p.len), rfl, hg, ?_, hnc, hcm, by simpa using hsz, ?_⟩
    · simp [World.setCell, Array.getElem?_modify, hh]
    · rw [flatMap_set6 es i (by omega)]
      simp only [Array.toList_setIfInBounds, List.take_set, htk]
end Go.Proofs.Ytifimeohdgnehaa
