import Derived.Test.YtifimeohdgnehaaHnt8
namespace Go.Proofs.Ytifimeohdgnehaa
open Go.RowKit Go.Maps

/-- A row of bytes of the call's own: its block lies from lo on, below hi. -/
structure BR (lo hi : Nat) (W : World) (b : Option Addr) (n cap : Nat) (bs : List UInt8) : Prop where
  own : W.ownsRow lo 5 1 (.slice b n cap) n (bv bs)
  top : ∀ k, (Value.slice b n cap).ownBlock = some k → k < hi
  bot : ∀ k, (Value.slice b n cap).ownBlock = some k → lo ≤ k
  len : bs.length = n
section
variable {lo hi n cap : Nat} {W W' : World} {b : Option Addr} {bs bs' : List UInt8}
theorem BR.mk' (h : W.ownsRow lo 5 1 (.slice b n cap) n (bv bs)) : BR lo W.heap.size W b n cap bs :=
  ⟨h, fun k hk => (h.lt k hk).2, fun k hk => (h.lt k hk).1, by have := h.1; rw [bv_len] at this; omega⟩
theorem BR.rd (h : BR lo hi W b n cap bs) : Rd W W.heap.size b (bv bs) := ownsRow_rd h.own
theorem BR.next (h : BR lo hi W b n cap bs) (hb : Below W.heap.size W W') : BR lo hi W' b n cap bs :=
  ⟨ownsRow_block h.own fun k hk => hb.block k (h.own.lt k hk).2, h.top, h.bot, h.len⟩
theorem BR.chg {S : Nat → Prop} (h : BR lo hi W b n cap bs) (hc : Chg S W W') (hS : ∀ k, lo ≤ k → k < hi → ¬ S k) : BR lo hi W' b n cap bs :=
  ⟨ownsRow_block h.own fun k hk => hc.block k (h.own.lt k hk).2 (hS k (h.bot k hk) (h.top k hk)), h.top, h.bot, h.len⟩
theorem BR.some_ (h : BR lo hi W b n cap bs) (hn : 0 < n) : ∃ g, b = some ⟨g, 0, none⟩ ∧ n ≤ cap ∧ cap ≤ maxLen ∧ Own W lo g 5 (bv bs) ∧ lo ≤ g ∧ g < hi := by
  obtain ⟨g, cap', hv, h1, h2, h3⟩ := Own.of_row h.own hn
  injection hv with e1 _ e2
  subst e1 e2
  exact ⟨g, rfl, h1, h2, h3, h.bot g rfl, h.top g rfl⟩
theorem BR.set_ {g k : Nat} (h : BR lo hi W (some ⟨g, 0, none⟩) n cap bs) (x : UInt8) : BR lo hi (W.setCell ⟨g, k, none⟩ (.int .u8 x.toNat)) (some ⟨g, 0, none⟩) n cap (bs.set k x) := by
  refine ⟨⟨?_, .inr ?_⟩, h.top, h.bot, by simp [h.len]⟩
  · simp [bv, h.len]
  · rcases h.own.2 with ⟨hv, _⟩ | ⟨g', c, cur, hv, hg, hh, hnc, hcm, hsz, htk⟩
    · cases hv
    · injection hv with e1 _ e2
      injection e1 with e1
      injection e1 with e1
      subst e1 e2
      refine ⟨g, cap, cur.setIfInBounds k (.int .u8 x.toNat), rfl, hg, ?_, hnc, hcm, by simpa using hsz, ?_⟩
      · simp [World.setCell, Array.getElem?_modify, hh]
      · rw [Array.toList_setIfInBounds, List.take_set, htk]
        simp [bv, List.map_set]
end

/-- What HintEncodes knows of its two hints: the one handed in (block of w), the twin (blocks bt, g). -/
structure HS (w : World) (H T : Array Value) (bt g : Nat) (l : List HE) (W : World) : Prop where
  h : Box W w.heap.size 24 H
  t : Box W bt 24 T
  og : Own W (w.heap.size + 1) g 33 (l.flatMap six ++ marks)
  below : Below w.heap.size w W
  far : w.heap.size < bt ∧ bt ≠ g
section
variable {w W W' : World} {H T : Array Value} {bt g : Nat} {l : List HE}
theorem HS.next (s : HS w H T bt g l W) (hb : Below W.heap.size W W') : HS w H T bt g l W' :=
  ⟨s.h.below hb s.h.lt, s.t.below hb s.t.lt, s.og.below hb s.og.lt, s.below.trans (hb.mono s.below.size), s.far⟩
theorem HS.chg {S : Nat → Prop} (s : HS w H T bt g l W) (hc : Chg S W W') (hS : ∀ k, S k → bt < k ∧ g < k ∧ w.heap.size < k) : HS w H T bt g l W' := by
  obtain ⟨f1, f2⟩ := s.far
  refine ⟨s.h.chg hc (fun e => ?_), s.t.chg hc (fun e => ?_), s.og.chg hc (fun e => ?_), s.below.trans (hc.below s.below.size fun k hk => ?_), s.far⟩
  · have := hS _ e; omega
  · have := hS _ e; omega
  · have := hS _ e; omega
  · have := hS _ hk; omega
end

theorem entsB_len {seg size : Int} {l : List HE} (h : HintR seg size l) : ∀ i, i ≤ l.length → (entsB l i).length ≤ 114 * i := by
  intro i
  induction i with
  | zero => intro _; simp [entsB]
  | succ i ih =>
    intro hi
    have h1 := ih (by omega)
    have h2 := h.2.2.2.2.1 i (by omega)
    have h3 := h2.2.1
    have hz : (nth l i).key.data.toList.length = (nth l i).key.size := by rw [Array.length_toList, ByteArray.size_data]
    have a1 := uvar_le ((nth l i).off - offAt l i).toNat
    have a2 := uvar_le (nth l i).time.toNat
    have a3 := uvar_le ((nth l i).pos - endAt l i).toNat
    have a4 := uvar_le (longOf (nth l i)).toNat
    have a5 := uvar_le (nth l i).key.size
    simp only [entsB, entB, textB, uvarI, List.length_append, hz]
    omega
theorem encH_len (seg size : Int) (l : List HE) : (encH seg size l).length ≤ 1000000 := by
  by_cases hr : HintR seg size l
  · have h1 := entsB_len hr l.length (Nat.le_refl _)
    have h2 := hint_len hr
    have a1 := uvar_le seg.toNat
    have a2 := uvar_le size.toNat
    have a3 := uvar_le ((l.length : Nat) : Int).toNat
    rw [show encH seg size l = wrapB 177 (bodyH seg size l) from if_pos hr, wrapB_len]
    simp only [bodyH, uvarI, List.length_append]
    omega
  · rw [show encH seg size l = [] from if_neg hr]
    simp

theorem octEncG (seg size : Int) (A : Option Addr) (c m n : Nat) (er : Int) (bs : List UInt8) (l : List HE) (w : World) (hm : l.length = m) (he : errH seg size l = er) (hb : encH seg size l = bs) (hn : bs.length = n)
    (hA : Rd w w.heap.size A (l.flatMap six)) (hmx : m ≤ 140737488355328) :
    Calls Try.prog 8 #[hV seg size (.slice A m c)] w fun e w' =>
      ∃ b cap, e = .returned (.tuple #[.slice b n cap, .int .i64 er]) ∧ BR w.heap.size w'.heap.size w' b n cap bs ∧ Below w.heap.size w w' := by
  subst hm he hb hn
  exact (octEncodeH seg size A c l w hA hmx).mono fun e w' ⟨b, cap, h1, h2, h3⟩ => ⟨b, cap, h1, BR.mk' h2, h3⟩
theorem refEncG (seg size : Int) (A : Option Addr) (c m n : Nat) (er : Int) (bs : List UInt8) (l : List HE) (w : World) (hm : l.length = m) (he : errH seg size l = er) (hb : encH seg size l = bs) (hn : bs.length = n)
    (hA : Rd w w.heap.size A (l.flatMap six)) (hmx : m ≤ 140737488355328) :
    Calls Try.prog 9 #[hV seg size (.slice A m c)] w fun e w' =>
      ∃ b cap, e = .returned (.tuple #[.slice b n cap, .int .i64 er]) ∧ BR w.heap.size w'.heap.size w' b n cap bs ∧ Below w.heap.size w w' := by
  subst hm he hb hn
  exact (refEncodeH seg size A c l w hA hmx).mono fun e w' ⟨b, cap, h1, h2, h3⟩ => ⟨b, cap, h1, BR.mk' h2, h3⟩
theorem octEncAny (seg size : Int) (A : Option Addr) (c m : Nat) (l : List HE) (w : World) (hm : l.length = m)
    (hA : Rd w w.heap.size A (l.flatMap six)) (hmx : m ≤ 140737488355328) :
    Calls Try.prog 8 #[hV seg size (.slice A m c)] w fun e w' =>
      ∃ b n cap er, e = .returned (.tuple #[.slice b n cap, .int .i64 er]) ∧ Below w.heap.size w w' := by
  subst hm
  exact (octEncodeH seg size A c l w hA hmx).mono fun e w' ⟨b, cap, h1, h2, h3⟩ => ⟨b, _, cap, _, h1, h3⟩

theorem flatMap_setOff (l : List HE) (i : Nat) (hi : i < l.length) (x : Int) :
    (l.set i { l[i] with off := x }).flatMap six = (l.flatMap six).set (i * 6 + 1) (.int .i64 x) := by
  induction l generalizing i with
  | nil => simp at hi
  | cons q l ih =>
    cases i with
    | zero => simp [six]
    | succ i =>
      have e : (i + 1) * 6 + 1 = i * 6 + 1 + 6 := by omega
      have hl : (six q).length = 6 := rfl
      simp only [List.set_cons_succ, List.flatMap_cons, List.getElem_cons_succ, ih i (by simpa using hi), e]
      rw [List.set_append_right _ _ (by omega), hl, Nat.add_sub_cancel]
theorem Own.six_off {w : World} {B g : Nat} {t : TypeId} {l : List HE} {ts : List Value} (h : Own w B g t (l.flatMap six ++ ts)) {i : Nat} (hi : i < l.length) (x : Int) :
    Own (w.setCell ⟨g, i * 6 + 1, none⟩ (.int .i64 x)) B g t ((l.set i { l[i] with off := x }).flatMap six ++ ts) := by
  have hl := six_len l
  have := h.set_ (i := i * 6 + 1) (by rw [List.length_append]; omega) (.int .i64 x)
  rw [List.set_append_left _ _ (by omega), ← flatMap_setOff l i hi] at this
  exact this
end Go.Proofs.Ytifimeohdgnehaa
