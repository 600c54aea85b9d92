import Derived.Test.YtebeefkibbbkdaaQa
import Derived.Test.YtebeefkibbbkdaaSm25
import Derived.Test.YtebeefkibbbkdaaSm21
/- chronicleref3's disk in memory: each block has a label. -/
namespace Go.Proofs.Ytebeefkibbbkdaa
open Go.RowKit Go.Maps

theorem row_offq {w : World} {base n z : Nat} {e : TypeId} {v : Value} {xs : List Value} (h : w.ownsRow base e z v n xs) {p : Addr} (hp : v.ownBlock ≠ some p.block) (u : Value) : (w.setCell p u).ownsRow base e z v n xs :=
  row_block h fun k hk => Below.heap_setCell w p u k fun e => hp (by rw [hk, e])
def pcell (p : Value × Value) : List Value := [p.1, p.2]
def lcell (p : KE) : List Value := [.string p.1, .int .i64 (p.2 : Nat)]
theorem pc_get : ∀ (l : List (Value × Value)) (i : Nat) (p : Value × Value), l[i]? = some p → (l.flatMap pcell)[i * 2]? = some p.1 ∧ (l.flatMap pcell)[i * 2 + 1]? = some p.2
  | [], i, p, h => by simp at h
  | q :: r, 0, p, h => by
    simp at h
    subst h
    exact ⟨rfl, rfl⟩
  | q :: r, i + 1, p, h => by
    obtain ⟨h1, h2⟩ := pc_get r i p (by simpa using h)
    rw [List.flatMap_cons, show (i + 1) * 2 = (pcell q).length + i * 2 by show _ = 2 + i * 2; omega]
    refine ⟨?_, ?_⟩
    · rw [List.getElem?_append_right (by omega), Nat.add_sub_cancel_left]; exact h1
    · rw [show (pcell q).length + i * 2 + 1 = (pcell q).length + (i * 2 + 1) by omega, List.getElem?_append_right (by omega), Nat.add_sub_cancel_left]; exact h2
theorem pc_set0 : ∀ (l : List (Value × Value)) (i : Nat) (p : Value × Value) (v : Value), l[i]? = some p → (l.set i (v, p.2)).flatMap pcell = (l.flatMap pcell).set (i * 2) v
  | [], i, p, v, h => by simp at h
  | q :: r, 0, p, v, h => by
    simp at h
    subst h
    rfl
  | q :: r, i + 1, p, v, h => by
    have := pc_set0 r i p v (by simpa using h)
    rw [List.set_cons_succ, List.flatMap_cons, List.flatMap_cons, this, List.set_append_right _ _ (by show (pcell q).length ≤ _; show 2 ≤ _; omega)]
    congr 2
    show i * 2 = (i + 1) * 2 - 2
    omega
theorem pc_set1 : ∀ (l : List (Value × Value)) (i : Nat) (p : Value × Value) (v : Value), l[i]? = some p → (l.set i (p.1, v)).flatMap pcell = (l.flatMap pcell).set (i * 2 + 1) v
  | [], i, p, v, h => by simp at h
  | q :: r, 0, p, v, h => by
    simp at h
    subst h
    rfl
  | q :: r, i + 1, p, v, h => by
    have := pc_set1 r i p v (by simpa using h)
    rw [List.set_cons_succ, List.flatMap_cons, List.flatMap_cons, this, List.set_append_right _ _ (by show (pcell q).length ≤ _; show 2 ≤ _; omega)]
    congr 2
    show i * 2 + 1 = (i + 1) * 2 + 1 - 2
    omega
/-- The files. -/
structure RF (w : World) (L : Nat → Nat) (vF : Value) (uP : List (Value × Value)) (fs : VS) (gs : GS) : Prop where
  r : w.ownsRow 0 103 2 vF fs.length (uP.flatMap pcell)
  ul : uP.length = fs.length
  gl : gs.length = fs.length
  l : Lb L vF 2
  f : ∀ (i : Nat) (vs : List (List UInt8)) (p : Value × Value), fs[i]? = some vs → uP[i]? = some p → VerM w L (8 + 2 * i) p.1 vs
  g : ∀ (i : Nat) (g : List Int) (p : Value × Value), gs[i]? = some g → uP[i]? = some p → GrM w L (9 + 2 * i) p.2 g
def LnkM (w : World) (L : Nat → Nat) (u : Value) (l : List KE) : Prop := w.ownsRow 0 105 2 u l.length (l.flatMap lcell) ∧ Lb L u 6
/-- The directories. -/
structure RL (w : World) (L : Nat → Nat) (vD : Value) (uD : List Value) (ds : List (List KE)) : Prop where
  r : w.ownsRow 0 96 1 vD ds.length uD
  l : Lb L vD 4
  f : ∀ (i : Nat) (l : List KE) (u : Value), ds[i]? = some l → uD[i]? = some u → LnkM w L u l
/-- All of it: the disk's block has the label 1. -/
structure RM (w : World) (L : Nat → Nat) (rb : Nat) (vF : Value) (uP : List (Value × Value)) (vD : Value) (uD : List Value) (fs : VS) (gs : GS) (ds : List (List KE)) (most left done : Int) (off : Bool) : Prop where
  box : Box w rb 100 #[vF, vD, .int .i64 most, .int .i64 left, .bool off, .int .i64 done]
  lp : L rb = 1
  lt : ∀ b, L b ≠ 0 → b < w.heap.size
  F : RF w L vF uP fs gs
  D : RL w L vD uD ds
section
variable {w wx w1 w' : World} {L L' : Nat → Nat} {rb a f n c g : Nat} {vF vD u u' x : Value} {uP : List (Value × Value)} {uD us : List Value} {fs : VS} {gs : GS} {ds : List (List KE)} {most left done : Int} {off : Bool}
theorem GrM.keep {g : List Int} (h : GrM w L a u g) (ha : a ≠ 0) (hs : Same w w' L a) (ho : ∀ b, L b ≠ 0 → L' b = L b) : GrM w' L' a u g := ⟨row_same h.1 h.2 hs, h.2.old ha ho⟩
theorem RF.keep (h : RF w L vF uP fs gs) (h2 : Same w w' L 2) (h5 : Same w w' L 5) (hi : ∀ i, Same w w' L (8 + i)) (ho : ∀ b, L b ≠ 0 → L' b = L b) : RF w' L' vF uP fs gs :=
  ⟨row_same h.r h.l h2, h.ul, h.gl, h.l.old (by decide) ho, fun i vs p hv hp => (h.f i vs p hv hp).keep (by omega) (hi (2 * i)) h5 ho, fun i g p hg hp => (h.g i g p hg hp).keep (by omega) (by have := hi (2 * i + 1); rw [show 8 + (2 * i + 1) = 9 + 2 * i by omega] at this; exact this) ho⟩
theorem RL.keep (h : RL w L vD uD ds) (h2 : Same w w' L 4) (h6 : Same w w' L 6) (ho : ∀ b, L b ≠ 0 → L' b = L b) : RL w' L' vD uD ds :=
  ⟨row_same h.r h.l h2, h.l.old (by decide) ho, fun i l u hl hu => ⟨row_same (h.f i l u hl hu).1 (h.f i l u hl hu).2 h6, (h.f i l u hl hu).2.old (by decide) ho⟩⟩
theorem RM.keep (h : RM w L rb vF uP vD uD fs gs ds most left done off) (hz : w.heap.size ≤ w'.heap.size) (hk : ∀ b, L b ≠ 0 → w'.heap[b]? = w.heap[b]?) : RM w' L rb vF uP vD uD fs gs ds most left done off := by
  have hs : ∀ a, a ≠ 0 → Same w w' L a := fun a ha b hb => hk b (by rw [hb]; exact ha)
  exact ⟨(hk rb (by rw [h.lp]; decide)).trans h.box, h.lp, fun b hb => Nat.lt_of_lt_of_le (h.lt b hb) hz, h.F.keep (hs _ (by decide)) (hs _ (by decide)) (fun i => hs _ (by omega)) (fun _ _ => rfl), h.D.keep (hs _ (by decide)) (hs _ (by decide)) (fun _ _ => rfl)⟩
theorem RM.next (h : RM w L rb vF uP vD uD fs gs ds most left done off) (hb : Below w.heap.size w w') : RM w' L rb vF uP vD uD fs gs ds most left done off := h.keep hb.size fun b hL => hb.block b (h.lt b hL)
/-- A new row gets a label. -/
theorem RM.fresh (h : RM w L rb vF uP vD uD fs gs ds most left done off) (hb : Below w.heap.size w wx) (hx : ∀ b, x.ownBlock = some b → w.heap.size ≤ b ∧ b < wx.heap.size) (ha : a ≠ 0) : RM wx (relab L x a) rb vF uP vD uD fs gs ds most left done off ∧ Lb (relab L x a) x a ∧ Ex w wx L (relab L x a) := by
  have hw : Where w L x a := fun b hb => .inr (hx b hb).1
  have ho := hw.old h.lt
  have hs : ∀ a, a ≠ 0 → Same w wx L a := fun a ha b hb' => hb.block b (h.lt b (by rw [hb']; exact ha))
  exact ⟨⟨h.box.below hb h.box.lt, by rw [ho rb (by rw [h.lp]; decide), h.lp], Where.lt h.lt hb.size fun b hb => (hx b hb).2, h.F.keep (hs _ (by decide)) (hs _ (by decide)) (fun i => hs _ (by omega)) ho, h.D.keep (hs _ (by decide)) (hs _ (by decide)) ho⟩, relab_self _ _ _, ⟨ho, hw.new ha, Chg.of_below hb _⟩⟩
/-- A number of the disk's own block turns. -/
theorem RM.put (h : RM w L rb vF uP vD uD fs gs ds most left done off) {k : Nat} {v : Value} {most' left' done' : Int} {off' : Bool} (hv : (#[vF, vD, .int .i64 most, .int .i64 left, .bool off, .int .i64 done] : Array Value).setIfInBounds k v = #[vF, vD, .int .i64 most', .int .i64 left', .bool off', .int .i64 done']) : RM (w.setCell ⟨rb, k, none⟩ v) L rb vF uP vD uD fs gs ds most' left' done' off' ∧ Ex w (w.setCell ⟨rb, k, none⟩ v) L L := by
  have hsz : w.heap.size ≤ (w.setCell ⟨rb, k, none⟩ v).heap.size := by simp [World.setCell]
  have hs : ∀ a, a ≠ 0 → a ≠ 1 → Same w (w.setCell ⟨rb, k, none⟩ v) L a := fun a _ h1 b hb => Below.heap_setCell w _ _ _ fun e => h1 (by rw [← hb, e]; exact h.lp)
  refine ⟨⟨by have := h.box.set_ k v; rw [hv] at this; exact this, h.lp, fun b hb => Nat.lt_of_lt_of_le (h.lt b hb) hsz, h.F.keep (hs _ (by decide) (by decide)) (hs _ (by decide) (by decide)) (fun i => hs _ (by omega) (by omega)) (fun _ _ => rfl), h.D.keep (hs _ (by decide) (by decide)) (hs _ (by decide) (by decide)) (fun _ _ => rfl)⟩, ⟨fun _ _ => rfl, fun _ h => .inl h, (Chg.refl _ w).setCell (p := ⟨rb, k, none⟩) (.inl (by show L rb ≠ 0; rw [h.lp]; decide)) v⟩⟩
/-- The row of directories turns. -/
theorem RM.turnD {vD' : Value} {uD' : List Value} {ds' : List (List KE)} (h : RM w L rb vF uP vD uD fs gs ds most left done off) (hc : Chg (fun b => vD.ownBlock = some b) w w1) (hr : w1.ownsRow 0 96 1 vD' ds'.length uD') (hw : Where w L vD' 4) (hf : ∀ (i : Nat) (l : List KE) (u : Value), ds'[i]? = some l → uD'[i]? = some u → LnkM w L u l) :
    RM (w1.setCell ⟨rb, 1, none⟩ vD') (relab L vD' 4) rb vF uP vD' uD' fs gs ds' most left done off ∧ Ex w (w1.setCell ⟨rb, 1, none⟩ vD') L (relab L vD' 4) := by
  have ho := hw.old h.lt
  have hs : ∀ a, a ≠ 0 → a ≠ 4 → a ≠ 1 → Same w (w1.setCell ⟨rb, 1, none⟩ vD') L a := fun a h0 h1 h2 => same_put hc h.lt h.D.l h.lp h0 h1 h2
  have hpv : vD'.ownBlock ≠ some rb := fun e => by
    rcases hw rb e with h1 | h1
    · rw [h.lp] at h1; cases h1
    · have := h.box.lt; omega
  have hb1 : Box w1 rb 100 #[vF, vD, .int .i64 most, .int .i64 left, .bool off, .int .i64 done] := h.box.chg hc fun e => by have := h.D.l rb e; rw [h.lp] at this; cases this
  refine ⟨⟨by simpa using hb1.set_ 1 vD', by rw [ho rb (by rw [h.lp]; decide), h.lp], Where.lt h.lt (by simpa [World.setCell] using hc.size) (fun b hb => by simpa [World.setCell] using (hr.lt b hb).2), h.F.keep (hs _ (by decide) (by decide) (by decide)) (hs _ (by decide) (by decide) (by decide)) (fun i => hs _ (by omega) (by omega) (by omega)) ho, ⟨row_offq hr hpv _, relab_self _ _ _, fun i l u hl hu => ?_⟩⟩, ex_put hc h.lt h.D.l (by decide) (by show L rb ≠ 0; rw [h.lp]; decide) hw⟩
  obtain ⟨k1, k2⟩ := hf i l u hl hu
  exact ⟨row_same k1 k2 (hs _ (by decide) (by decide) (by decide)), k2.old (by decide) ho⟩
/-- The row of files turns. -/
theorem RM.turnF {vF' : Value} {uP' : List (Value × Value)} {fs' : VS} {gs' : GS} (h : RM w L rb vF uP vD uD fs gs ds most left done off) (hc : Chg (fun b => vF.ownBlock = some b) w w1) (hr : w1.ownsRow 0 103 2 vF' fs'.length (uP'.flatMap pcell)) (hul : uP'.length = fs'.length) (hgl : gs'.length = fs'.length) (hw : Where w L vF' 2)
    (hf : ∀ (i : Nat) (vs : List (List UInt8)) (p : Value × Value), fs'[i]? = some vs → uP'[i]? = some p → VerM w L (8 + 2 * i) p.1 vs) (hg : ∀ (i : Nat) (g : List Int) (p : Value × Value), gs'[i]? = some g → uP'[i]? = some p → GrM w L (9 + 2 * i) p.2 g) :
    RM (w1.setCell ⟨rb, 0, none⟩ vF') (relab L vF' 2) rb vF' uP' vD uD fs' gs' ds most left done off ∧ Ex w (w1.setCell ⟨rb, 0, none⟩ vF') L (relab L vF' 2) := by
  have ho := hw.old h.lt
  have hs : ∀ a, a ≠ 0 → a ≠ 2 → a ≠ 1 → Same w (w1.setCell ⟨rb, 0, none⟩ vF') L a := fun a h0 h1 h2 => same_put hc h.lt h.F.l h.lp h0 h1 h2
  have hpv : vF'.ownBlock ≠ some rb := fun e => by
    rcases hw rb e with h1 | h1
    · rw [h.lp] at h1; cases h1
    · have := h.box.lt; omega
  have hb1 : Box w1 rb 100 #[vF, vD, .int .i64 most, .int .i64 left, .bool off, .int .i64 done] := h.box.chg hc fun e => by have := h.F.l rb e; rw [h.lp] at this; cases this
  refine ⟨⟨by simpa using hb1.set_ 0 vF', by rw [ho rb (by rw [h.lp]; decide), h.lp], Where.lt h.lt (by simpa [World.setCell] using hc.size) (fun b hb => by simpa [World.setCell] using (hr.lt b hb).2), ⟨row_offq hr hpv _, hul, hgl, relab_self _ _ _, fun i vs p hv hp => ?_, fun i g p hg' hp => ?_⟩, h.D.keep (hs _ (by decide) (by decide) (by decide)) (hs _ (by decide) (by decide) (by decide)) ho⟩, ex_put hc h.lt h.F.l (by decide) (by show L rb ≠ 0; rw [h.lp]; decide) hw⟩
  · exact (hf i vs p hv hp).keep (by omega) (hs _ (by omega) (by omega) (by omega)) (hs _ (by decide) (by decide) (by decide)) ho
  · exact (hg i g p hg' hp).keep (by omega) (hs _ (by omega) (by omega) (by omega)) ho
/-- A file's states turn. -/
theorem RM.putF {vs vs' : List (List UInt8)} {p : Value × Value} (h : RM w L rb (.slice (some ⟨g, 0, none⟩) n c) uP vD uD fs gs ds most left done off) (hv : fs[f]? = some vs) (hu : uP[f]? = some p) (hc : Chg (fun b => p.1.ownBlock = some b) w w1) (hr : w1.ownsRow 0 22 1 u' vs'.length us) (hw : Where w L u' (8 + 2 * f))
    (hx : ∀ (j : Nat) (x : List UInt8) (v : Value), vs'[j]? = some x → us[j]? = some v → w.ownsRow 0 5 1 v x.length (bv x) ∧ Lb L v 5) :
    RM (w1.setCell ⟨g, f * 2, none⟩ u') (relab L u' (8 + 2 * f)) rb (.slice (some ⟨g, 0, none⟩) n c) (uP.set f (u', p.2)) vD uD (fs.set f vs') gs ds most left done off ∧ Ex w (w1.setCell ⟨g, f * 2, none⟩ u') L (relab L u' (8 + 2 * f)) := by
  have ho := hw.old h.lt
  obtain ⟨us0, _, h0, _⟩ := h.F.f f vs p hv hu
  have hg : L g = 2 := h.F.l g rfl
  have hs : ∀ a, a ≠ 0 → a ≠ 8 + 2 * f → a ≠ 2 → Same w (w1.setCell ⟨g, f * 2, none⟩ u') L a := fun a k0 k1 k2 => same_put hc h.lt h0 hg k0 k1 k2
  have hgv : u'.ownBlock ≠ some g := fun e => by
    rcases hw g e with h1 | h1
    · omega
    · have := h.lt g (by omega); omega
  have hfl : f < fs.length := (List.getElem?_eq_some_iff.1 hv).1
  have hpl : f < uP.length := (List.getElem?_eq_some_iff.1 hu).1
  have hrow1 : w1.ownsRow 0 103 2 (.slice (some ⟨g, 0, none⟩) n c) fs.length (uP.flatMap pcell) := row_block h.F.r fun k hk => hc.block k (h.F.r.lt k hk).2 fun e => by have h1 := h0 k e; have h2 := h.F.l k hk; omega
  obtain ⟨_, c', hvv⟩ := row_slice h.F.r
  injection hvv with _ hn _
  subst hn
  refine ⟨⟨?_, by rw [ho rb (by rw [h.lp]; decide), h.lp], Where.lt h.lt (by simpa [World.setCell] using hc.size) (fun b hb => by simpa [World.setCell] using (hr.lt b hb).2), ⟨?_, by rw [List.length_set, List.length_set]; exact h.F.ul, by rw [List.length_set]; exact h.F.gl, h.F.l.old (by decide) ho, fun i vi q hvi hui => ?_, fun i gi q hgi hui => ?_⟩, h.D.keep (hs _ (by decide) (by omega) (by decide)) (hs _ (by decide) (by omega) (by decide)) ho⟩, ex_put hc h.lt h0 (by omega) (by show L g ≠ 0; omega) hw⟩
  · refine (h.box.chg hc fun e => ?_).far (fun e => ?_) _
    · have := h0 rb e; rw [h.lp] at this; omega
    · have : L rb = L g := by rw [show rb = g from e]
      rw [h.lp, hg] at this; cases this
  · rw [List.length_set, pc_set0 _ _ _ _ hu]
    exact row_put hrow1 u'
  · by_cases hi : i = f
    · subst hi
      rw [List.getElem?_set_self hfl] at hvi
      injection hvi with hvi
      subst hvi
      rw [List.getElem?_set_self hpl] at hui
      injection hui with hui
      subst hui
      refine ⟨us, row_offq hr hgv _, relab_self _ _ _, fun j x v hj hvj => ?_⟩
      obtain ⟨k1, k2⟩ := hx j x v hj hvj
      exact ⟨row_same k1 k2 (hs _ (by decide) (by omega) (by decide)), k2.old (by decide) ho⟩
    · rw [List.getElem?_set_ne (fun e => hi e.symm)] at hvi hui
      exact (h.F.f i vi q hvi hui).keep (by omega) (hs _ (by omega) (by omega) (by omega)) (hs _ (by decide) (by omega) (by decide)) ho
  · by_cases hi : i = f
    · subst hi
      rw [List.getElem?_set_self hpl] at hui
      injection hui with hui
      subst hui
      exact (h.F.g i gi p hgi hu).keep (by omega) (hs _ (by omega) (by omega) (by omega)) ho
    · rw [List.getElem?_set_ne (fun e => hi e.symm)] at hui
      exact (h.F.g i gi q hgi hui).keep (by omega) (hs _ (by omega) (by omega) (by omega)) ho
/-- A file's growths turn. -/
theorem RM.putG {gi gi' : List Int} {p : Value × Value} (h : RM w L rb (.slice (some ⟨g, 0, none⟩) n c) uP vD uD fs gs ds most left done off) (hv : gs[f]? = some gi) (hu : uP[f]? = some p) (hc : Chg (fun b => p.2.ownBlock = some b) w w1) (hr : w1.ownsRow 0 3 1 u' gi'.length (gi'.map (Value.int .i64))) (hw : Where w L u' (9 + 2 * f)) :
    RM (w1.setCell ⟨g, f * 2 + 1, none⟩ u') (relab L u' (9 + 2 * f)) rb (.slice (some ⟨g, 0, none⟩) n c) (uP.set f (p.1, u')) vD uD fs (gs.set f gi') ds most left done off ∧ Ex w (w1.setCell ⟨g, f * 2 + 1, none⟩ u') L (relab L u' (9 + 2 * f)) := by
  have ho := hw.old h.lt
  obtain ⟨_, h0⟩ := h.F.g f gi p hv hu
  have hg : L g = 2 := h.F.l g rfl
  have hs : ∀ a, a ≠ 0 → a ≠ 9 + 2 * f → a ≠ 2 → Same w (w1.setCell ⟨g, f * 2 + 1, none⟩ u') L a := fun a k0 k1 k2 => same_put hc h.lt h0 hg k0 k1 k2
  have hgv : u'.ownBlock ≠ some g := fun e => by
    rcases hw g e with h1 | h1
    · omega
    · have := h.lt g (by omega); omega
  have hfl : f < gs.length := (List.getElem?_eq_some_iff.1 hv).1
  have hpl : f < uP.length := (List.getElem?_eq_some_iff.1 hu).1
  have hrow1 : w1.ownsRow 0 103 2 (.slice (some ⟨g, 0, none⟩) n c) fs.length (uP.flatMap pcell) := row_block h.F.r fun k hk => hc.block k (h.F.r.lt k hk).2 fun e => by have h1 := h0 k e; have h2 := h.F.l k hk; omega
  obtain ⟨_, c', hvv⟩ := row_slice h.F.r
  injection hvv with _ hn _
  subst hn
  refine ⟨⟨?_, by rw [ho rb (by rw [h.lp]; decide), h.lp], Where.lt h.lt (by simpa [World.setCell] using hc.size) (fun b hb => by simpa [World.setCell] using (hr.lt b hb).2), ⟨?_, by rw [List.length_set]; exact h.F.ul, by rw [List.length_set]; exact h.F.gl, h.F.l.old (by decide) ho, fun i vi q hvi hui => ?_, fun i g' q hgi hui => ?_⟩, h.D.keep (hs _ (by decide) (by omega) (by decide)) (hs _ (by decide) (by omega) (by decide)) ho⟩, ex_put hc h.lt h0 (by omega) (by show L g ≠ 0; omega) hw⟩
  · refine (h.box.chg hc fun e => ?_).far (fun e => ?_) _
    · have := h0 rb e; rw [h.lp] at this; omega
    · have : L rb = L g := by rw [show rb = g from e]
      rw [h.lp, hg] at this; cases this
  · rw [pc_set1 _ _ _ _ hu]
    exact row_put hrow1 u'
  · by_cases hi : i = f
    · subst hi
      rw [List.getElem?_set_self hpl] at hui
      injection hui with hui
      subst hui
      exact (h.F.f i vi p hvi hu).keep (by omega) (hs _ (by omega) (by omega) (by omega)) (hs _ (by decide) (by omega) (by decide)) ho
    · rw [List.getElem?_set_ne (fun e => hi e.symm)] at hui
      exact (h.F.f i vi q hvi hui).keep (by omega) (hs _ (by omega) (by omega) (by omega)) (hs _ (by decide) (by omega) (by decide)) ho
  · by_cases hi : i = f
    · subst hi
      rw [List.getElem?_set_self hfl] at hgi
      injection hgi with hgi
      subst hgi
      rw [List.getElem?_set_self hpl] at hui
      injection hui with hui
      subst hui
      exact ⟨row_offq hr hgv _, relab_self _ _ _⟩
    · rw [List.getElem?_set_ne (fun e => hi e.symm)] at hgi hui
      exact (h.F.g i g' q hgi hui).keep (by omega) (hs _ (by omega) (by omega) (by omega)) ho
end
end Go.Proofs.Ytebeefkibbbkdaa
/- chronicleref3: seen, find, bytes. -/
namespace Go.Proofs.Ytebeefkibbbkdaa
open Go.RowKit Go.Maps

/-- A row of links that is read. -/
def RdK (w : World) (B : Nat) (A : Option Addr) (l : List KE) : Prop := ∀ (i : Nat) (p : KE), l[i]? = some p → ∃ ad : Addr, A = some ad ∧ ad.block < B ∧ w.cell? (ad.add (i * 2)) = some (.string p.1) ∧ w.cell? ⟨(ad.add (i * 2)).block, (ad.add (i * 2)).off + 1, none⟩ = some (.int .i64 (p.2 : Nat))
theorem add_zeroq (g i : Nat) : (⟨g, 0, none⟩ : Addr).add i = ⟨g, i, none⟩ := by unfold Addr.add; split <;> simp_all
theorem cell_keptq {w w' : World} {p : Addr} {v : Value} (h : w.cell? p = some v) (hb : Below w.heap.size w w') : w'.cell? p = some v := (hb.cell (World.block_lt_of_cell? w _ h)).trans h
theorem row_atq {w : World} {e : TypeId} {n z i g c : Nat} {u : Value} {xs : List Value} (h : w.ownsRow 0 e z (.slice (some ⟨g, 0, none⟩) n c) n xs) (hn : 0 < n) (hu : xs[i]? = some u) : w.cell? ⟨g, i, none⟩ = some u ∧ w.frozen? ⟨g, i, none⟩ = false := by
  obtain ⟨g', c', e', _, _, ho⟩ := Own.of_row h hn
  injection e' with e1 _ e2
  injection e1 with e1
  injection e1 with e1
  subst e1 e2
  obtain ⟨hi, rfl⟩ := List.getElem?_eq_some_iff.1 hu
  exact ⟨ho.cell hi, ho.free i⟩
theorem lcell_get : ∀ (l : List KE) (i : Nat) (p : KE), l[i]? = some p → (l.flatMap lcell)[i * 2]? = some (.string p.1) ∧ (l.flatMap lcell)[i * 2 + 1]? = some (.int .i64 (p.2 : Nat))
  | [], i, p, h => by simp at h
  | q :: r, 0, p, h => by
    simp at h
    subst h
    exact ⟨rfl, rfl⟩
  | q :: r, i + 1, p, h => by
    obtain ⟨h1, h2⟩ := lcell_get r i p (by simpa using h)
    rw [List.flatMap_cons, show (i + 1) * 2 = (lcell q).length + i * 2 by show _ = 2 + i * 2; omega]
    refine ⟨?_, ?_⟩
    · rw [List.getElem?_append_right (by omega), Nat.add_sub_cancel_left]; exact h1
    · rw [show (lcell q).length + i * 2 + 1 = (lcell q).length + (i * 2 + 1) by omega, List.getElem?_append_right (by omega), Nat.add_sub_cancel_left]; exact h2
section
variable {w w' : World} {L : Nat → Nat} {rb a f : Nat} {vF vD : Value} {uP : List (Value × Value)} {uD : List Value} {fs : VS} {gs : GS} {ds : List (List KE)} {most left done : Int} {off : Bool} {l : List KE} {vs : List (List UInt8)}
theorem rdK_own {B c : Nat} {b : Option Addr} (h : w.ownsRow B 105 2 (.slice b l.length c) l.length (l.flatMap lcell)) : RdK w w.heap.size b l := by
  intro i p hp
  obtain ⟨h1, h2⟩ := lcell_get l i p hp
  obtain ⟨ad, rfl, hb, c1⟩ := row_rd h _ _ h1
  obtain ⟨ad', e, _, c2⟩ := row_rd h _ _ h2
  cases e
  rw [← add_add'] at c2
  exact ⟨ad, rfl, hb, c1, c2⟩
/-- The directory of now. -/
theorem RM.last_ (h : RM w L rb vF uP vD uD fs gs ds most left done off) (hl : ds[ds.length - 1]? = some l) :
    ∃ (i n g c : Nat) (x : Option Addr) (cx : Nat), ds.length = n ∧ n = i + 1 ∧ vD = .slice (some ⟨g, 0, none⟩) n c ∧ L g = 4 ∧ uD[i]? = some (.slice x l.length cx) ∧ LnkM w L (.slice x l.length cx) l ∧ w.cell? ⟨rb, 1, none⟩ = some vD ∧ w.cell? ⟨g, i, none⟩ = some (.slice x l.length cx) := by
  have hlt : ds.length - 1 < ds.length := (List.getElem?_eq_some_iff.1 hl).1
  obtain ⟨i, hi⟩ : ∃ i, ds.length = i + 1 := ⟨ds.length - 1, by omega⟩
  rw [hi, Nat.add_sub_cancel] at hl
  have hr := h.D.r
  obtain ⟨g, c, hv, _, _, ho⟩ := Own.of_row hr (by omega)
  have hul : uD.length = ds.length := by have := hr.1; simpa using this
  obtain ⟨u, hu⟩ : ∃ u, uD[i]? = some u := ⟨_, List.getElem?_eq_getElem (by omega)⟩
  have hN := h.D.f i l u hl hu
  obtain ⟨x, cx, rfl⟩ := row_slice hN.1
  rw [hv] at hr
  exact ⟨i, _, g, c, x, cx, rfl, hi, hv, h.D.l g (by rw [hv]; rfl), hu, hN, h.box.cell 1, (row_atq hr (by omega) hu).1⟩
/-- A file's states of now. -/
theorem RM.now_ {now : List UInt8} (h : RM w L rb vF uP vD uD fs gs ds most left done off) (hv : fs[f]? = some vs) (hn : vs[vs.length - 1]? = some now) :
    ∃ (gF nF cF gu m j cu : Nat) (p : Value × Value) (us : List Value) (xn : Option Addr) (cn : Nat), vF = .slice (some ⟨gF, 0, none⟩) nF cF ∧ fs.length = nF ∧ f < nF ∧ L gF = 2 ∧ uP[f]? = some p ∧ p.1 = .slice (some ⟨gu, 0, none⟩) m cu ∧ vs.length = m ∧ m = j + 1 ∧
      w.ownsRow 0 22 1 (.slice (some ⟨gu, 0, none⟩) m cu) vs.length us ∧ L gu = 8 + 2 * f ∧ us[j]? = some (.slice xn now.length cn) ∧
      w.cell? ⟨rb, 0, none⟩ = some (.slice (some ⟨gF, 0, none⟩) nF cF) ∧ w.cell? ⟨gF, f * 2, none⟩ = some (.slice (some ⟨gu, 0, none⟩) m cu) ∧ w.cell? ⟨gu, j, none⟩ = some (.slice xn now.length cn) ∧ w.ownsRow 0 5 1 (.slice xn now.length cn) now.length (bv now) ∧ Lb L (.slice xn now.length cn) 5 := by
  have hfl := (List.getElem?_eq_some_iff.1 hv).1
  have hr := h.F.r
  obtain ⟨gF, cF, rfl, _, _, hoF⟩ := Own.of_row hr (by omega)
  obtain ⟨p, hp⟩ : ∃ p, uP[f]? = some p := ⟨_, List.getElem?_eq_getElem (by rw [h.F.ul]; exact hfl)⟩
  obtain ⟨us, r1, r2, r3⟩ := h.F.f f vs p hv hp
  have hvl := (List.getElem?_eq_some_iff.1 hn).1
  obtain ⟨gu, cu, hpu, _, _, hou⟩ := Own.of_row r1 (by omega)
  obtain ⟨j, hj⟩ : ∃ j, vs.length = j + 1 := ⟨vs.length - 1, by omega⟩
  rw [hj, Nat.add_sub_cancel] at hn
  have hsl : us.length = vs.length := by have := r1.1; simpa using this
  obtain ⟨x, hx⟩ : ∃ x, us[j]? = some x := ⟨_, List.getElem?_eq_getElem (by omega)⟩
  obtain ⟨q1, q2⟩ := r3 j now x hn hx
  obtain ⟨xn, cn, rfl⟩ := row_slice q1
  have hpc := (pc_get uP f p hp).1
  rw [hpu] at r1 r2 hpc
  exact ⟨gF, _, cF, gu, _, j, cu, p, us, xn, cn, rfl, rfl, hfl, h.F.l gF rfl, hp, hpu, rfl, hj, r1, r2 gu rfl, hx, h.box.cell 0, (row_atq hr (by omega) hpc).1, (row_atq r1 (by omega) hx).1, q1, q2⟩
end
set_option maxRecDepth 100000 in
set_option maxHeartbeats 4000000 in
theorem seenR_any (rb : Nat) (L : Nat → Nat) (vF vD : Value) (uP : List (Value × Value)) (uD : List Value) (fs : VS) (gs : GS) (ds : List (List KE)) (most left done : Int) (off : Bool) (l : List KE) (w : World) (h : RM w L rb vF uP vD uD fs gs ds most left done off) (hl : ds[ds.length - 1]? = some l) (hmx : ds.length ≤ 999999999999) :
    Calls Try.prog 85 #[.pointer (some ⟨rb, 0, none⟩)] w fun e w' => (∃ x cx, e = .returned (.slice x l.length cx) ∧ LnkM w L (.slice x l.length cx) l ∧ uD[ds.length - 1]? = some (.slice x l.length cx)) ∧ ∃ k, w' = w.drewN k := by
  obtain ⟨i, n, g, c, x, cx, hn, hi, rfl, hLg, hu, hN, hc1, hcg⟩ := h.last_ hl
  have H := Lib.hid (And.intro hN (And.intro hu (And.intro hn hi)))
  rw [hn] at hmx
  have hii : (n : Int) - 1 = (i : Int) := by omega
  have hwr : IntKind.i64.wrap ((n : Int) - 1) = (i : Int) := by rw [hii]; exact IntWalk.i64_in _ (by omega)
  have hwi : IntKind.i64.wrap (i : Int) = (i : Int) := IntWalk.i64_in _ (by omega)
  have hi0 : (0 : Int) ≤ i := by omega
  have hi1 : (i : Int) < n := by omega
  clear hN hu hn hi h hl hLg
  go_enter Try.func85, Try.ntmps85
  go_upto_region 1 with fail
  go_quiet (fail)
  generalize hw1 : w.drewN _ = w1
  go_wp2
  go_ret
  exact ⟨⟨x, cx, rfl, H.out.1, by rw [H.out.2.2.1, H.out.2.2.2, Nat.add_sub_cancel]; exact H.out.2.1⟩, _, hw1.symm⟩
set_option maxRecDepth 100000 in
set_option maxHeartbeats 4000000 in
theorem bytesR_any (rb f : Nat) (L : Nat → Nat) (vF vD : Value) (uP : List (Value × Value)) (uD : List Value) (fs : VS) (gs : GS) (ds : List (List KE)) (most left done : Int) (off : Bool) (vs : List (List UInt8)) (now : List UInt8) (w : World) (h : RM w L rb vF uP vD uD fs gs ds most left done off) (hv : fs[f]? = some vs) (hn : vs[vs.length - 1]? = some now) (hmx : vs.length ≤ 999999999999) (hfm : f ≤ 999999999999) :
    Calls Try.prog 86 #[.pointer (some ⟨rb, 0, none⟩), .int .i64 f] w fun e w' => (∃ x cx, e = .returned (.slice x now.length cx) ∧ w.ownsRow 0 5 1 (.slice x now.length cx) now.length (bv now) ∧ Lb L (.slice x now.length cx) 5) ∧ ∃ k, w' = w.drewN k := by
  obtain ⟨gF, nF, cF, gu, m, j, cu, p, us, xn, cn, rfl, hnF, hfn, hLF, hup, hp1, hvm, hmj, hru, hLu, hus, hc0, hcf, hcj, hro, hlb⟩ := h.now_ hv hn
  have H := Lib.hid (And.intro hro hlb)
  rw [hvm] at hmx
  have hf0 : (0 : Int) ≤ f := by omega
  have hf1 : (f : Int) < nF := by omega
  have hii : (m : Int) - 1 = (j : Int) := by omega
  have hwr : IntKind.i64.wrap ((m : Int) - 1) = (j : Int) := by rw [hii]; exact IntWalk.i64_in _ (by omega)
  have hwi : IntKind.i64.wrap (j : Int) = (j : Int) := IntWalk.i64_in _ (by omega)
  have hi0 : (0 : Int) ≤ j := by omega
  have hi1 : (j : Int) < m := by omega
  clear hro hlb hru hus hup hp1 hvm hmj hLu hLF hnF h hv hn
  go_enter Try.func86, Try.ntmps86
  go_upto_region 1 with fail
  go_quiet (fail)
  generalize hw1 : w.drewN _ = w1
  go_wp2
  go_ret
  exact ⟨⟨xn, cn, rfl, H.out⟩, _, hw1.symm⟩
def leadW (n : ByteArray) (l : List KE) : Int := match leadP n l with
  | some f => (f : Nat)
  | none => -1
theorem leadW_take {n : ByteArray} {l : List KE} {k : Nat} {p : KE} (hp : l[k]? = some p) (hpre : ∀ q ∈ l.take k, q.1 ≠ n) (h : p.1 = n) : leadW n l = (p.2 : Nat) := by
  have hk : k < l.length := (List.getElem?_eq_some_iff.1 hp).1
  have e : l = l.take k ++ p :: l.drop (k + 1) := by
    have h1 := List.take_append_drop k l
    rw [List.drop_eq_getElem_cons hk] at h1
    have h2 : l[k] = p := by rw [List.getElem?_eq_getElem hk] at hp; injection hp
    rw [h2] at h1
    exact h1.symm
  unfold leadW leadP
  rw [e, List.find?_append]
  have hn : (l.take k).find? (fun p => decide (p.1 = n)) = none := List.find?_eq_none.2 fun q hq => by simpa using hpre q hq
  rw [hn]
  simp [h]
theorem leadW_none {n : ByteArray} {l : List KE} (hpre : ∀ q ∈ l, q.1 ≠ n) : leadW n l = -1 := by
  unfold leadW leadP
  have hn : l.find? (fun p => decide (p.1 = n)) = none := List.find?_eq_none.2 fun q hq => by simpa using hpre q hq
  rw [hn]
  rfl
set_option maxRecDepth 100000 in
set_option maxHeartbeats 4000000 in
theorem findR_any (rb : Nat) (L : Nat → Nat) (vF vD : Value) (uP : List (Value × Value)) (uD : List Value) (fs : VS) (gs : GS) (ds : List (List KE)) (most left done : Int) (off : Bool) (l : List KE) (nm : ByteArray) (w : World) (h : RM w L rb vF uP vD uD fs gs ds most left done off) (hl : ds[ds.length - 1]? = some l) (hmx : ds.length ≤ 999999999999) (hlm : l.length ≤ 999999999999) :
    Calls Try.prog 92 #[.pointer (some ⟨rb, 0, none⟩), .string nm] w fun e w' => e = .returned (.int .i64 (leadW nm l)) ∧ ∃ k, w' = w.drewN k := by
  have H := Lib.hid (And.intro h (And.intro hl hmx))
  obtain ⟨m, hm⟩ : ∃ m, l.length = m := ⟨_, rfl⟩
  have HM := Lib.hid hm
  rw [hm] at hlm
  clear h hl hmx hm
  go_enter Try.func92, Try.ntmps92
  go_wp2_with (first
    | (go_at_call 85
       refine (seenR_any rb L vF vD uP uD fs gs ds most left done off l w H.out.1 H.out.2.1 H.out.2.2).mono ?_
       rintro e w1 ⟨⟨x, cx, rfl, hN, _⟩, k1, hw1⟩
       have HN := Lib.hid (show RdK w1 w.heap.size x l by rw [hw1]; exact rdK_own hN.1)
       have HW := Lib.hid hw1
       rw [HM.out]
       clear hN hw1))
  go_loopw [6] (fun v6 wr => ∃ k : Nat, k ≤ m ∧ v6 = .int .i64 k ∧ wr = w1 ∧ ∀ q ∈ l.take k, q.1 ≠ nm) (fun v6 _ => m - (intOf v6).toNat)
  case atStart => exact ⟨0, Nat.zero_le _, rfl, rfl, fun q hq => by simp at hq⟩
  case round =>
    obtain ⟨k, hk, rfl, hwr, hpre⟩ := hrel
    subst hwr
    by_cases hlt : k < m
    · have hk0 : (0 : Int) ≤ k := by omega
      have hk1 : (k : Int) < m := by omega
      have hkl : k < l.length := by rw [HM.out]; exact hlt
      obtain ⟨p, hp⟩ : ∃ p, l[k]? = some p := ⟨_, List.getElem?_eq_getElem hkl⟩
      obtain ⟨a2, rfl, _, d0, d1⟩ := HN.out k p hp
      have HP := Lib.hid (And.intro hp hpre)
      clear hp hpre hkl
      by_cases hx : p.1 = nm
      · have HX := Lib.hid hx
        have hself : (p.1.toList == nm.toList) = true := by rw [hx]; simp
        clear hx
        go_wp2
        go_ret
        exact ⟨by rw [leadW_take HP.out.1 HP.out.2 HX.out]; rfl, _, HW.out⟩
      · have hne := key_ne hx
        have HX := Lib.hid hx
        clear hx
        go_wp2
        go_roundw
        case rel =>
          refine ⟨k + 1, by omega, by go_num, trivial, fun q hq => ?_⟩
          rw [List.take_add_one, HP.out.1] at hq
          rcases List.mem_append.1 hq with h | h
          · exact HP.out.2 q h
          · simp at h
            subst h
            exact HX.out
        case measure => simp [intOf]; omega
    · have hkm : m = k := by omega
      subst hkm
      have HP := Lib.hid (show ∀ q ∈ l, q.1 ≠ nm by rw [← HM.out, List.take_length] at hpre; exact hpre)
      clear hpre
      go_wp2
      go_ret
      exact ⟨by rw [leadW_none HP.out]; rfl, _, HW.out⟩
end Go.Proofs.Ytebeefkibbbkdaa
/- chronicleref3: the disk as the same model; its numbers. -/
namespace Go.Proofs.Ytebeefkibbbkdaa
open Go.RowKit Go.Maps

/-- The directory's states since the last SyncDir. -/
def dirsL (s : Dk) : List (List KE) := (List.range (s.dchs.length + 1)).map (dirAt s)
theorem dirs_len (s : Dk) : (dirsL s).length = s.dchs.length + 1 := by simp [dirsL]
theorem dirs_last (s : Dk) : (dirsL s)[(dirsL s).length - 1]? = some s.seen := by
  rw [dirs_len, Nat.add_sub_cancel]
  unfold dirsL
  rw [List.getElem?_map, List.getElem?_range (by omega)]
  show some (dirAt s s.dchs.length) = _
  rw [dirAt_last]
/-- chronicleref3's disk is this one. -/
def RDk (w : World) (L : Nat → Nat) (rb : Nat) (s : Dk) : Prop := ∃ vF uP vD uD, RM w L rb vF uP vD uD (s.files.map vers) (s.files.map grow) (dirsL s) s.quota s.fuse s.ops s.dead
section
variable {w w' : World} {L : Nat → Nat} {rb N : Nat} {s s' : Dk}
theorem RDk.next (h : RDk w L rb s) (hb : Below w.heap.size w w') : RDk w' L rb s := let ⟨_, _, _, _, h⟩ := h; ⟨_, _, _, _, h.next hb⟩
theorem RDk.lt (h : RDk w L rb s) : ∀ b, L b ≠ 0 → b < w.heap.size := let ⟨_, _, _, _, h⟩ := h; h.lt
theorem RDk.box (h : RDk w L rb s) : ∃ vF vD, Box w rb 100 #[vF, vD, .int .i64 s.quota, .int .i64 s.fuse, .bool s.dead, .int .i64 s.ops] := let ⟨vF, _, vD, _, h⟩ := h; ⟨vF, vD, h.box⟩
theorem RDk.put (h : RDk w L rb s) {k : Nat} {v : Value} (h0 : s'.files = s.files) (h1 : s'.safe = s.safe) (h2 : s'.dchs = s.dchs)
    (hv : ∀ vF vD : Value, (#[vF, vD, .int .i64 s.quota, .int .i64 s.fuse, .bool s.dead, .int .i64 s.ops] : Array Value).setIfInBounds k v = #[vF, vD, .int .i64 s'.quota, .int .i64 s'.fuse, .bool s'.dead, .int .i64 s'.ops]) :
    RDk (w.setCell ⟨rb, k, none⟩ v) L rb s' ∧ Ex w (w.setCell ⟨rb, k, none⟩ v) L L := by
  obtain ⟨vF, uP, vD, uD, h⟩ := h
  obtain ⟨t1, t2⟩ := h.put (hv vF vD)
  have hd : dirsL s' = dirsL s := by
    unfold dirsL
    rw [h2]
    congr 1
    funext k
    unfold dirAt
    rw [h1, h2]
  refine ⟨⟨vF, uP, vD, uD, ?_⟩, t2⟩
  rw [h0, hd]
  exact t1
end
set_option maxRecDepth 100000 in
set_option maxHeartbeats 4000000 in
theorem burnsR_any (rb : Nat) (L : Nat → Nat) (s : Dk) (N : Nat) (w : World) (h : RDk w L rb s) (hr : s.Rg N) (hN : N ≤ 999999999999) :
    Calls Try.prog 91 #[.pointer (some ⟨rb, 0, none⟩)] w fun e w' => e = .returned (.bool (decide (s.fuse = 0))) ∧ RDk w' L rb (spendS s) ∧ Ex w w' L L := by
  obtain ⟨vF, vD, hb⟩ := h.box
  have hc := hb.cell
  have hf := hb.free
  have H := Lib.hid h
  have ho := hr.o
  clear h hb
  obtain ⟨files, safe, dchs, quota, used, fuse, dead, ops⟩ := s
  simp only at hc ho
  rcases (show fuse = 0 ∨ 0 < fuse ∨ fuse < 0 by omega) with h0 | h0 | h0
  · subst h0
    have hP := H.out.put (k := 4) (v := .bool true) (s' := spendS ⟨files, safe, dchs, quota, used, 0, dead, ops⟩) rfl rfl rfl (fun _ _ => rfl)
    have HP := Lib.hid hP
    clear hP
    go_enter Try.func91, Try.ntmps91
    go_wp2
    go_ret
    exact ⟨rfl, HP.out⟩
  · have hne : ¬ fuse = 0 := by omega
    have hS : spendS ⟨files, safe, dchs, quota, used, fuse, dead, ops⟩ = ⟨files, safe, dchs, quota, used, fuse - 1, dead, ops + 1⟩ := by
      unfold spendS
      simp only
      rw [if_neg hne, if_pos h0]
    obtain ⟨p1, p2⟩ := H.out.put (k := 3) (v := .int .i64 (fuse - 1)) (s' := ⟨files, safe, dchs, quota, used, fuse - 1, dead, ops⟩) rfl rfl rfl (fun _ _ => rfl)
    obtain ⟨p3, p4⟩ := p1.put (k := 5) (v := .int .i64 (ops + 1)) (s' := ⟨files, safe, dchs, quota, used, fuse - 1, dead, ops + 1⟩) rfl rfl rfl (fun _ _ => rfl)
    have HP := Lib.hid (And.intro p3 (p2.trans p4))
    have HS := Lib.hid hS
    have hneb : (fuse == 0) = false := by simpa using hne
    have hle := hr.f.2
    simp only at hle
    have hw1 : IntKind.i64.wrap (fuse - 1) = fuse - 1 := IntWalk.i64_in _ (by omega)
    have hw2 : IntKind.i64.wrap (ops + 1) = ops + 1 := IntWalk.i64_in _ (by omega)
    have HD := Lib.hid (show decide (fuse = 0) = false from decide_eq_false hne)
    clear p1 p2 p3 p4 hS hle hne
    go_enter Try.func91, Try.ntmps91
    go_wp2
    go_ret
    rw [HS.out, HD.out]
    exact ⟨rfl, HP.out⟩
  · have hne : ¬ fuse = 0 := by omega
    have hno : ¬ (0 < fuse) := by omega
    have hS : spendS ⟨files, safe, dchs, quota, used, fuse, dead, ops⟩ = ⟨files, safe, dchs, quota, used, fuse, dead, ops + 1⟩ := by
      unfold spendS
      simp only
      rw [if_neg hne, if_neg hno]
    obtain ⟨p3, p4⟩ := H.out.put (k := 5) (v := .int .i64 (ops + 1)) (s' := ⟨files, safe, dchs, quota, used, fuse, dead, ops + 1⟩) rfl rfl rfl (fun _ _ => rfl)
    have HP := Lib.hid (And.intro p3 p4)
    have HS := Lib.hid hS
    have hneb : (fuse == 0) = false := by simpa using hne
    have hw2 : IntKind.i64.wrap (ops + 1) = ops + 1 := IntWalk.i64_in _ (by omega)
    have HD := Lib.hid (show decide (fuse = 0) = false from decide_eq_false hne)
    clear p3 p4 hS hne
    go_enter Try.func91, Try.ntmps91
    go_wp2
    go_ret
    rw [HS.out, HD.out]
    exact ⟨rfl, HP.out⟩
set_option maxRecDepth 100000 in
set_option maxHeartbeats 2000000 in
theorem quotaR_any (rb : Nat) (L : Nat → Nat) (s : Dk) (w : World) (h : RDk w L rb s) : Calls Try.prog 52 #[.pointer (some ⟨rb, 0, none⟩)] w fun e w' => e = .returned (.int .i64 s.quota) ∧ w' = w := by
  obtain ⟨vF, vD, hb⟩ := h.box
  have hc := hb.cell
  clear h hb
  go_enter Try.func52, Try.ntmps52
  go_wp2
  go_ret
  exact ⟨rfl, rfl⟩
set_option maxRecDepth 100000 in
set_option maxHeartbeats 2000000 in
theorem deadR_any (rb : Nat) (L : Nat → Nat) (s : Dk) (w : World) (h : RDk w L rb s) : Calls Try.prog 54 #[.pointer (some ⟨rb, 0, none⟩)] w fun e w' => e = .returned (.bool s.dead) ∧ w' = w := by
  obtain ⟨vF, vD, hb⟩ := h.box
  have hc := hb.cell
  clear h hb
  go_enter Try.func54, Try.ntmps54
  go_wp2
  go_ret
  exact ⟨rfl, rfl⟩
set_option maxRecDepth 100000 in
set_option maxHeartbeats 2000000 in
theorem opsR_any (rb : Nat) (L : Nat → Nat) (s : Dk) (w : World) (h : RDk w L rb s) : Calls Try.prog 56 #[.pointer (some ⟨rb, 0, none⟩)] w fun e w' => e = .returned (.int .i64 s.ops) ∧ w' = w := by
  obtain ⟨vF, vD, hb⟩ := h.box
  have hc := hb.cell
  clear h hb
  go_enter Try.func56, Try.ntmps56
  go_wp2
  go_ret
  exact ⟨rfl, rfl⟩
set_option maxRecDepth 100000 in
set_option maxHeartbeats 4000000 in
theorem setQuotaR_any (rb : Nat) (L : Nat → Nat) (s : Dk) (q : Int) (w : World) (h : RDk w L rb s) : Calls Try.prog 63 #[.pointer (some ⟨rb, 0, none⟩), .int .i64 q] w fun e w' => e = .returned (.int .i64 (setQuotaE q)) ∧ RDk w' L rb (setQuotaS q s) ∧ Ex w w' L L := by
  obtain ⟨vF, vD, hb⟩ := h.box
  have hc := hb.cell
  have hf := hb.free
  have H := Lib.hid h
  clear h hb
  rcases (show (0 ≤ q ∧ q ≤ 1073741824) ∨ q < 0 ∨ 1073741824 < q by omega) with hq | hq | hq
  · have HE := Lib.hid (show setQuotaE q = 0 ∧ setQuotaS q s = { s with quota := q } by simp [setQuotaE, setQuotaS, hq])
    have HP := Lib.hid (H.out.put (k := 2) (v := .int .i64 q) (s' := { s with quota := q }) rfl rfl rfl (fun _ _ => rfl))
    obtain ⟨hq1, hq2⟩ := hq
    go_enter Try.func63, Try.ntmps63
    go_wp2
    go_ret
    rw [HE.out.1, HE.out.2]
    exact ⟨rfl, HP.out⟩
  · have hnq : ¬ (0 ≤ q ∧ q ≤ 1073741824) := by omega
    have HE := Lib.hid (show setQuotaE q = 3 ∧ setQuotaS q s = s by simp [setQuotaE, setQuotaS, hnq])
    clear hnq
    go_enter Try.func63, Try.ntmps63
    go_wp2
    go_ret
    rw [HE.out.1, HE.out.2]
    exact ⟨rfl, H.out, Ex.below (Below.refl _ _) L⟩
  · have hnq : ¬ (0 ≤ q ∧ q ≤ 1073741824) := by omega
    have HE := Lib.hid (show setQuotaE q = 3 ∧ setQuotaS q s = s by simp [setQuotaE, setQuotaS, hnq])
    clear hnq
    go_enter Try.func63, Try.ntmps63
    go_wp2
    go_ret
    rw [HE.out.1, HE.out.2]
    exact ⟨rfl, H.out, Ex.below (Below.refl _ _) L⟩
set_option maxRecDepth 100000 in
set_option maxHeartbeats 4000000 in
theorem fuseR_any (rb : Nat) (L : Nat → Nat) (s : Dk) (n : Int) (w : World) (h : RDk w L rb s) : Calls Try.prog 64 #[.pointer (some ⟨rb, 0, none⟩), .int .i64 n] w fun e w' => e = .returned (.tuple #[]) ∧ RDk w' L rb (fuseS n s) ∧ Ex w w' L L := by
  obtain ⟨vF, vD, hb⟩ := h.box
  have hc := hb.cell
  have hf := hb.free
  have hl := hb.lt
  have H := Lib.hid h
  clear h hb
  obtain ⟨files, safe, dchs, quota, used, fuse, dead, ops⟩ := s
  simp only at hc
  cases dead with
  | true =>
    have HE := Lib.hid (show fuseS n ⟨files, safe, dchs, quota, used, fuse, true, ops⟩ = ⟨files, safe, dchs, quota, used, fuse, true, ops⟩ from if_pos rfl)
    go_enter Try.func64, Try.ntmps64
    go_wp2
    refine bodyPost_ret (results_none rfl _ _ _) rfl ?_
    rw [HE.out]
    exact ⟨rfl, H.out, Ex.below (Below.refl _ _) L⟩
  | false =>
    have hE : fuseS n ⟨files, safe, dchs, quota, used, fuse, false, ops⟩ = ⟨files, safe, dchs, quota, used, max n (-1), false, ops⟩ := if_neg (fun h => by cases h)
    by_cases hn : n < 0
    · obtain ⟨p1, p2⟩ := H.out.put (k := 3) (v := .int .i64 n) (s' := ⟨files, safe, dchs, quota, used, n, false, ops⟩) rfl rfl rfl (fun _ _ => rfl)
      obtain ⟨p3, p4⟩ := p1.put (k := 3) (v := .int .i64 (-1)) (s' := ⟨files, safe, dchs, quota, used, -1, false, ops⟩) rfl rfl rfl (fun _ _ => rfl)
      have HP := Lib.hid (And.intro p3 (p2.trans p4))
      have HE := Lib.hid (hE.trans (by rw [show max n (-1) = -1 by omega]))
      clear p1 p2 p3 p4 hE
      go_enter Try.func64, Try.ntmps64
      go_wp2
      go_end0
      rw [HE.out]
      exact ⟨rfl, HP.out⟩
    · have HP := Lib.hid (H.out.put (k := 3) (v := .int .i64 n) (s' := ⟨files, safe, dchs, quota, used, n, false, ops⟩) rfl rfl rfl (fun _ _ => rfl))
      have HE := Lib.hid (hE.trans (by rw [show max n (-1) = n by omega]))
      clear hE
      go_enter Try.func64, Try.ntmps64
      go_wp2
      go_end0
      rw [HE.out]
      exact ⟨rfl, HP.out⟩
end Go.Proofs.Ytebeefkibbbkdaa
/- chronicleref3: change, turn. -/
namespace Go.Proofs.Ytebeefkibbbkdaa
open Go.RowKit Go.Maps

theorem infoq_bs : (Try.prog.info? 22).map (fun i => (i.zero, i.size, i.bytes)) = some (some (.slice none 0 0), 1, 24) := by kernel_rfl
theorem infoq_int : (Try.prog.info? 3).map (fun i => (i.zero, i.size, i.bytes)) = some (some (.int .i64 0), 1, 8) := by kernel_rfl
theorem infoq_lks : (Try.prog.info? 96).map (fun i => (i.zero, i.size, i.bytes)) = some (some (.slice none 0 0), 1, 24) := by kernel_rfl
theorem cell_alq {w : World} {p : Addr} {v : Value} (h : w.cell? p = some v) (o : Obj) : (w.alloc o).cell? p = some v := by
  rw [World.cell?_alloc_lt _ _ _ (World.block_lt_of_cell? w _ h)]
  exact h
theorem row_zeroq {w : World} {B n z : Nat} {e : TypeId} {v : Value} {xs : List Value} (h : w.ownsRow B e z v n xs) : w.ownsRow 0 e z v n xs := row_le h (Nat.zero_le _)
section
variable {w w' w1 wz w5 w6 w7 : World} {L L' : Nat → Nat} {rb n a f gF nF cF g c : Nat} {u v5 v7 vF vD : Value} {us uD : List Value} {uP : List (Value × Value)} {p : Value × Value} {vs : List (List UInt8)} {fs : VS} {gs : GS} {ds : List (List KE)} {l : List KE} {y : List UInt8} {most left done : Int} {off : Bool}
theorem cell_growq {p : Addr} {v : Value} {row : Option Nat} (h : w.cell? p = some v) (hb : Below w.heap.size w w6) (hg : w6.grownBy w7 row) (hne : some p.block ≠ row) : w7.cell? p = some v := by
  have hl := World.block_lt_of_cell? w _ h
  rw [hg.cell_far p (Nat.lt_of_lt_of_le hl hb.size) hne]
  exact cell_keptq h hb
theorem grow_freeq {e : TypeId} {z i g c : Nat} {xs : List Value} {row : Option Nat} (h : w.ownsRow 0 e z (.slice (some ⟨g, 0, none⟩) n c) n xs) (hn : 0 < n) (hu : xs[i]? = some u) (hb : Below w.heap.size w w6) (hg : w6.grownBy w7 row) (hne : some g ≠ row) : w7.frozen? ⟨g, i, none⟩ = false :=
  (row_atq (row_block (row_block h fun k hk => hb.block k (h.lt k hk).2) fun k hk => hg.block k (by have := (h.lt k hk).2; have := hb.size; omega) (by simp [Value.ownBlock] at hk; subst hk; exact hne)) hn hu).2
/-- A file gets one state more (the state's row has the label 5 already). -/
theorem RM.growF {xv : Value} (h : RM wz L rb (.slice (some ⟨gF, 0, none⟩) nF cF) uP vD uD fs gs ds most left done off) (hv : fs[f]? = some vs) (hu : uP[f]? = some p) (hx : wz.ownsRow 0 5 1 xv y.length (bv y)) (hlx : Lb L xv 5)
    (hV : wz.ownsRow 0 22 1 p.1 vs.length us ∧ Lb L p.1 (8 + 2 * f) ∧ ∀ (j : Nat) (x : List UInt8) (v : Value), vs[j]? = some x → us[j]? = some v → wz.ownsRow 0 5 1 v x.length (bv x) ∧ Lb L v 5)
    (hr7 : w7.ownsRow 0 22 1 v7 (vs.length + 1) (us ++ [xv])) (hg : (wz.alloc (.cells #[xv] 22)).grownBy w7 p.1.ownBlock) (hor : v7.ownBlock = p.1.ownBlock ∨ v7.ownBlock = some (wz.alloc (.cells #[xv] 22)).heap.size) :
    ∃ L', RM (w7.setCell ⟨gF, f * 2, none⟩ v7) L' rb (.slice (some ⟨gF, 0, none⟩) nF cF) (uP.set f (v7, p.2)) vD uD (fs.set f (vs ++ [y])) gs ds most left done off ∧ Ex wz (w7.setCell ⟨gF, f * 2, none⟩ v7) L L' := by
  have ha := Below.al wz (.cells #[xv] 22)
  have h6 := h.next ha
  have hW : Where (wz.alloc (.cells #[xv] 22)) L v7 (8 + 2 * f) := fun b hb => by
    rcases hor with e | e
    · exact .inl (hV.2.1 b (e ▸ hb))
    · rw [e] at hb
      injection hb with hb
      exact .inr (by omega)
  obtain ⟨t1, t2⟩ := h6.putF (vs' := vs ++ [y]) (us := us ++ [xv]) hv hu ((Chg.refl _ _).grown hg fun k hk => .inl hk) (by rw [List.length_append]; exact hr7) hW fun j x v hj hv2 => by
    have hus : us.length = vs.length := by have := hV.1.1; simpa using this
    rcases Nat.lt_trichotomy j vs.length with hl | hl | hl
    · rw [List.getElem?_append_left hl] at hj
      rw [List.getElem?_append_left (by omega)] at hv2
      obtain ⟨k1, k2⟩ := hV.2.2 j x v hj hv2
      exact ⟨k1.alloc _, k2⟩
    · subst hl
      rw [List.getElem?_append_right (Nat.le_refl _), Nat.sub_self] at hj
      rw [List.getElem?_append_right (by omega), hus, Nat.sub_self] at hv2
      simp at hj hv2
      subst hj hv2
      exact ⟨hx.alloc _, hlx⟩
    · rw [List.getElem?_eq_none (by simp; omega)] at hj
      cases hj
  exact ⟨_, t1, (Ex.below ha _).trans t2⟩
theorem RM.growG {gi : List Int} {z : Int} (h : RM wz L rb (.slice (some ⟨gF, 0, none⟩) nF cF) uP vD uD fs gs ds most left done off) (hv : gs[f]? = some gi) (hu : uP[f]? = some p)
    (hr7 : w7.ownsRow 0 3 1 v7 (gi.length + 1) (gi.map (Value.int .i64) ++ [.int .i64 z])) (hg : (wz.alloc (.cells #[.int .i64 z] 3)).grownBy w7 p.2.ownBlock) (hor : v7.ownBlock = p.2.ownBlock ∨ v7.ownBlock = some (wz.alloc (.cells #[.int .i64 z] 3)).heap.size) :
    ∃ L', RM (w7.setCell ⟨gF, f * 2 + 1, none⟩ v7) L' rb (.slice (some ⟨gF, 0, none⟩) nF cF) (uP.set f (p.1, v7)) vD uD fs (gs.set f (gi ++ [z])) ds most left done off ∧ Ex wz (w7.setCell ⟨gF, f * 2 + 1, none⟩ v7) L L' := by
  have ha := Below.al wz (.cells #[.int .i64 z] 3)
  have h6 := h.next ha
  obtain ⟨_, hl⟩ := h.F.g f gi p hv hu
  have hW : Where (wz.alloc (.cells #[.int .i64 z] 3)) L v7 (9 + 2 * f) := fun b hb => by
    rcases hor with e | e
    · exact .inl (hl b (e ▸ hb))
    · rw [e] at hb
      injection hb with hb
      exact .inr (by omega)
  obtain ⟨t1, t2⟩ := h6.putG (gi' := gi ++ [z]) hv hu ((Chg.refl _ _).grown hg fun k hk => .inl hk) (by rw [List.length_append, List.map_append]; exact hr7) hW
  exact ⟨_, t1, (Ex.below ha _).trans t2⟩
/-- The directory gets one state more (its row has the label 6 already). -/
theorem RM.growD {xv : Value} (h : RM wz L rb vF uP vD uD fs gs ds most left done off) (hx : LnkM wz L xv l)
    (hr7 : w7.ownsRow 0 96 1 v7 (ds.length + 1) (uD ++ [xv])) (hg : (wz.alloc (.cells #[xv] 96)).grownBy w7 vD.ownBlock) (hor : v7.ownBlock = vD.ownBlock ∨ v7.ownBlock = some (wz.alloc (.cells #[xv] 96)).heap.size) :
    ∃ L', RM (w7.setCell ⟨rb, 1, none⟩ v7) L' rb vF uP v7 (uD ++ [xv]) fs gs (ds ++ [l]) most left done off ∧ Ex wz (w7.setCell ⟨rb, 1, none⟩ v7) L L' := by
  have ha := Below.al wz (.cells #[xv] 96)
  have h5 := h.next ha
  have hW : Where (wz.alloc (.cells #[xv] 96)) L v7 4 := fun b hb => by
    rcases hor with e | e
    · exact .inl (h5.D.l b (e ▸ hb))
    · rw [e] at hb
      injection hb with hb
      exact .inr (by omega)
  obtain ⟨t1, t2⟩ := h5.turnD (ds' := ds ++ [l]) (uD' := uD ++ [xv]) ((Chg.refl _ _).grown hg fun k hk => .inl hk) (by rw [List.length_append]; exact hr7) hW fun j l' u hj hu => by
    have hus : uD.length = ds.length := by have := h.D.r.1; simpa using this
    rcases Nat.lt_trichotomy j ds.length with hl | hl | hl
    · rw [List.getElem?_append_left hl] at hj
      rw [List.getElem?_append_left (by omega)] at hu
      exact h5.D.f j l' u hj hu
    · subst hl
      rw [List.getElem?_append_right (Nat.le_refl _), Nat.sub_self] at hj
      rw [List.getElem?_append_right (by omega), hus, Nat.sub_self] at hu
      simp at hj hu
      subst hj hu
      exact ⟨hx.1.alloc _, hx.2⟩
    · rw [List.getElem?_eq_none (by simp; omega)] at hj
      cases hj
  exact ⟨_, t1, (Ex.below ha _).trans t2⟩
end
set_option maxRecDepth 100000 in
set_option maxHeartbeats 4000000 in
/-- turn: the directory's next state. -/
theorem turnR_any (rb : Nat) (L : Nat → Nat) (vF vD : Value) (uP : List (Value × Value)) (uD : List Value) (fs : VS) (gs : GS) (ds : List (List KE)) (most left done : Int) (off : Bool) (l : List KE) (x : Option Addr) (cx : Nat) (w : World) (h : RM w L rb vF uP vD uD fs gs ds most left done off) (hx : LnkM w L (.slice x l.length cx) l) (hmx : ds.length ≤ 999999999999) :
    Calls Try.prog 94 #[.pointer (some ⟨rb, 0, none⟩), .slice x l.length cx] w fun e w' => e = .returned (.tuple #[]) ∧ ∃ L' vD' uD', RM w' L' rb vF uP vD' uD' fs gs (ds ++ [l]) most left done off ∧ Ex w w' L L' := by
  obtain ⟨i1, hi1, hz1, hs1, hy1⟩ := info_parts infoq_lks
  obtain ⟨D, cD, hvD⟩ := row_slice h.D.r
  subst hvD
  obtain ⟨n, hn⟩ : ∃ n, ds.length = n := ⟨_, rfl⟩
  obtain ⟨q, hq⟩ : ∃ q, l.length = q := ⟨_, rfl⟩
  rw [hn] at hmx h
  have hc1 := h.box.cell 1
  have H := Lib.hid (And.intro h (And.intro hx (And.intro hn hq)))
  rw [hq]
  clear h hx hn hq
  go_enter Try.func94, Try.ntmps94
  go_wp2_with (first
    | (at_builtin
       refine wpList_app _ rfl (.tmp 8) (.tmp 10) _ rfl 0 96 i1 _ 1 24 Try.underlying98 hi1 hz1 hs1 hy1 rfl (by omega) (.slice D n cD) n uD rfl (by have := (H.out.1.next (Below.al w (.cells #[.slice x q cx] 96))).D.r; rw [H.out.2.2.1] at this; exact this) _ _ 1 1 [.slice x q cx] rfl rfl (rd_new _ _ _) (by simp [Value.oneCell']) (by unfold maxLen; omega) (by omega) (Nat.zero_le _) ?_
       intro v7 w7 hown7 hg7 hor7
       obtain ⟨b7, c7, hv7⟩ := row_slice hown7
       subst hv7
       have hne : some rb ≠ (Value.slice D n cD).ownBlock := fun e => by have h1 := H.out.1.D.l rb e.symm; have h2 := H.out.1.lp; omega
       have hcp : w7.cell? ⟨rb, 1, none⟩ = some (.slice D n cD) := cell_growq hc1 (Below.al w _) hg7 hne
       have hcz : w7.frozen? ⟨rb, 1, none⟩ = false := ((H.out.1.box.below (Below.al w _) H.out.1.box.lt).grown hg7 hne).free 1
       have H7 := Lib.hid (H.out.1.growD (by have := H.out.2.1; rw [H.out.2.2.2] at this; exact this) (by rw [H.out.2.2.1]; exact hown7) hg7 hor7)
       clear hown7 hg7 hor7 hne))
  go_end0
  obtain ⟨L7, q1, q2⟩ := H7.out
  exact ⟨rfl, L7, _, _, q1, q2⟩
end Go.Proofs.Ytebeefkibbbkdaa
/- chronicleref3: change: one more state of a file. -/
namespace Go.Proofs.Ytebeefkibbbkdaa
open Go.RowKit Go.Maps

set_option maxRecDepth 100000 in
set_option maxHeartbeats 8000000 in
theorem changeR_any (rb f : Nat) (L : Nat → Nat) (vF vD : Value) (uP : List (Value × Value)) (uD : List Value) (fs : VS) (gs : GS) (ds : List (List KE)) (most left done : Int) (off : Bool) (vs : List (List UInt8)) (gi : List Int) (y : List UInt8) (q : Nat) (x : Option Addr) (cx : Nat) (more : Int) (w : World) (h : RM w L rb vF uP vD uD fs gs ds most left done off) (hv : fs[f]? = some vs) (hg : gs[f]? = some gi) (hq : y.length = q) (hx : w.ownsRow 0 5 1 (.slice x q cx) q (bv y) ∧ Lb L (.slice x q cx) 5) (hfm : f ≤ 999999999999) (hvm : vs.length ≤ 999999999999) (hgm : gi.length ≤ 999999999999) :
    Calls Try.prog 95 #[.pointer (some ⟨rb, 0, none⟩), .int .i64 f, .slice x q cx, .int .i64 more] w fun e w' => e = .returned (.tuple #[]) ∧ ∃ L' vF' uP', RM w' L' rb vF' uP' vD uD (fs.set f (vs ++ [y])) (gs.set f (gi ++ [more])) ds most left done off ∧ Ex w w' L L' := by
  obtain ⟨i1, hi1, hz1, hs1, hy1⟩ := info_parts infoq_bs
  obtain ⟨j1, hj1, kz1, ks1, ky1⟩ := info_parts infoq_int
  have hfl := (List.getElem?_eq_some_iff.1 hv).1
  obtain ⟨gF, cF, hvF, _, _, _⟩ := Own.of_row h.F.r (by omega)
  subst hvF
  obtain ⟨nF, hnF⟩ : ∃ nF, fs.length = nF := ⟨_, rfl⟩
  have hLF := h.F.l gF rfl
  obtain ⟨p, hp⟩ : ∃ p, uP[f]? = some p := ⟨_, List.getElem?_eq_getElem (by rw [h.F.ul]; exact hfl)⟩
  obtain ⟨us, r1, r2, r3⟩ := h.F.f f vs p hv hp
  obtain ⟨q1, q2⟩ := h.F.g f gi p hg hp
  obtain ⟨p1, p2⟩ := p
  simp only at r1 r2 q1 q2
  obtain ⟨ub, uc, hub⟩ := row_slice r1
  obtain ⟨gb, gc, hgb⟩ := row_slice q1
  subst hub hgb
  obtain ⟨m, hm⟩ : ∃ m, vs.length = m := ⟨_, rfl⟩
  obtain ⟨mg, hmg⟩ : ∃ mg, gi.length = mg := ⟨_, rfl⟩
  rw [hm] at hvm r1 r2 hp
  rw [hmg] at hgm q1 q2 hp
  rw [hnF] at h hfl
  have hpc := (pc_get uP f _ hp).1
  have hr0 := h.F.r
  rw [hnF] at hr0
  have hf0 : (0 : Int) ≤ f := by omega
  have hf1 : (f : Int) < nF := by omega
  have H := Lib.hid (And.intro h (And.intro hv (And.intro hg (And.intro hp (And.intro (show w.ownsRow 0 22 1 (.slice ub m uc) m us ∧ Lb L (.slice ub m uc) (8 + 2 * f) from ⟨r1, r2⟩) (And.intro r3 (And.intro (And.intro q1 q2) (And.intro hx (And.intro (And.intro hq (And.intro hm hmg)) (And.intro hnF hr0))))))))))
  have hc0 := h.box.cell 0
  have hcf := (row_atq hr0 (by omega) hpc).1
  have hn1 : some rb ≠ (Value.slice ub m uc).ownBlock := fun e => by have h1 := r2 rb e.symm; have h2 := h.lp; omega
  have hn2 : some gF ≠ (Value.slice ub m uc).ownBlock := fun e => by have h1 := r2 gF e.symm; omega
  have HN := Lib.hid (And.intro hn1 hn2)
  clear h hv hg hp r1 r2 r3 q1 q2 hx hq hm hmg hnF hn1 hn2 hpc hr0 hLF
  go_enter Try.func95, Try.ntmps95
  go_upto_region 0 with fail
  obtain ⟨wz, hwz⟩ : ∃ wz, w.drew = wz := ⟨_, rfl⟩
  have hbz : Below w.heap.size w wz := by rw [← hwz]; exact below_drew (Below.refl _ _)
  have hS0 : wz.cell? ⟨rb, 0, none⟩ = some (.slice (some ⟨gF, 0, none⟩) nF cF) ∧ wz.cell? ⟨gF, f * 2, none⟩ = some (.slice ub m uc) := ⟨cell_keptq hc0 hbz, cell_keptq hcf hbz⟩
  have HC := Lib.hid hS0
  have HZ := Lib.hid hbz
  clear hbz hc0 hcf
  go_cut [0] (fun s0 wy => s0 = .pointer (some ⟨rb, 0, none⟩) ∧ ∃ L' v7, RM wy L' rb (.slice (some ⟨gF, 0, none⟩) nF cF) (uP.set f (v7, .slice gb mg gc)) vD uD (fs.set f (vs ++ [y])) gs ds most left done off ∧ Ex w wy L L')
  case first =>
    refine WT.start (fun w' : World => w'.cell? ⟨rb, 0, none⟩ = some (.slice (some ⟨gF, 0, none⟩) nF cF) ∧ w'.cell? ⟨gF, f * 2, none⟩ = some (.slice ub m uc)) 18 (by kernel_rfl) ?_
    rw [hwz]
    clear hwz
    refine WT.take 0 (v := ?_) rfl (by kernel_rfl) (by kernel_rfl) (by kernel_rfl) (by kernel_rfl) (fun _ _ _ h => h) (Or.inl ⟨by rfl, ?hy⟩) hS0 ?_
    case hy => first | (intro w hSw; go_simp; done) | (intro w hSw; go_simp; with_reducible rfl)
    simp only [Act.put, List.setIfInBounds_toArray, List.set_cons_zero, List.set_cons_succ]
    refine WT.take 1 (v := ?_) rfl (by kernel_rfl) (by kernel_rfl) (by kernel_rfl) (by kernel_rfl) (fun _ _ _ h => h) (Or.inl ⟨by rfl, ?hy⟩) hS0 ?_
    case hy => first | (intro w hSw; go_simp; done) | (intro w hSw; go_simp; with_reducible rfl)
    simp only [Act.put, List.setIfInBounds_toArray, List.set_cons_zero, List.set_cons_succ]
    refine WT.take 2 (v := ?_) rfl (by kernel_rfl) (by kernel_rfl) (by kernel_rfl) (by kernel_rfl) (fun _ _ _ h => h) (Or.inl ⟨by rfl, ?hy⟩) hS0 ?_
    case hy => first | (intro w hSw; go_simp; done) | (intro w hSw; go_simp; with_reducible rfl)
    simp only [Act.put, List.setIfInBounds_toArray, List.set_cons_zero, List.set_cons_succ]
    refine WT.take 3 (v := ?_) rfl (by kernel_rfl) (by kernel_rfl) (by kernel_rfl) (by kernel_rfl) (fun _ _ _ h => h) (Or.inl ⟨by rfl, ?hy⟩) hS0 ?_
    case hy => first | (intro w hSw; go_simp; done) | (intro w hSw; go_simp; with_reducible rfl)
    simp only [Act.put, List.setIfInBounds_toArray, List.set_cons_zero, List.set_cons_succ]
    refine WT.take 4 (v := ?_) rfl (by kernel_rfl) (by kernel_rfl) (by kernel_rfl) (by kernel_rfl) (fun _ _ _ h => h) (Or.inl ⟨by rfl, ?hy⟩) hS0 ?_
    case hy => first | (intro w hSw; go_simp; done) | (intro w hSw; go_simp; with_reducible rfl)
    simp only [Act.put, List.setIfInBounds_toArray, List.set_cons_zero, List.set_cons_succ]
    refine WT.take 5 (v := ?_) rfl (by kernel_rfl) (by kernel_rfl) (by kernel_rfl) (by kernel_rfl) (fun _ _ _ h => h) (Or.inl ⟨by rfl, ?hy⟩) hS0 ?_
    case hy => first | (intro w hSw; go_simp; done) | (intro w hSw; go_simp; with_reducible rfl)
    simp only [Act.put, List.setIfInBounds_toArray, List.set_cons_zero, List.set_cons_succ]
    refine WT.take 6 (v := ?_) rfl (by kernel_rfl) (by kernel_rfl) (by kernel_rfl) (by kernel_rfl) (fun _ _ _ h => h) (Or.inl ⟨by rfl, ?hy⟩) hS0 ?_
    case hy => first | (intro w hSw; go_simp; done) | (intro w hSw; go_simp; with_reducible rfl)
    simp only [Act.put, List.setIfInBounds_toArray, List.set_cons_zero, List.set_cons_succ]
    refine WT.take 7 (v := ?_) rfl (by kernel_rfl) (by kernel_rfl) (by kernel_rfl) (by kernel_rfl) (fun _ _ _ h => h) (Or.inl ⟨by rfl, ?hy⟩) hS0 ?_
    case hy => first | (intro w hSw; go_simp; done) | (intro w hSw; go_simp; with_reducible rfl)
    simp only [Act.put, List.setIfInBounds_toArray, List.set_cons_zero, List.set_cons_succ]
    refine WT.take 8 (v := ?_) rfl (by kernel_rfl) (by kernel_rfl) (by kernel_rfl) (by kernel_rfl) (fun _ _ _ h => h) (Or.inl ⟨by rfl, ?hy⟩) hS0 ?_
    case hy => first | (intro w hSw; go_simp; done) | (intro w hSw; go_simp; with_reducible rfl)
    simp only [Act.put, List.setIfInBounds_toArray, List.set_cons_zero, List.set_cons_succ]
    refine WT.take 9 (v := ?_) rfl (by kernel_rfl) (by kernel_rfl) (by kernel_rfl) (by kernel_rfl) (fun _ _ _ h => h) (Or.inl ⟨by rfl, ?hy⟩) hS0 ?_
    case hy => first | (intro w hSw; go_simp; done) | (intro w hSw; go_simp; with_reducible rfl)
    simp only [Act.put, List.setIfInBounds_toArray, List.set_cons_zero, List.set_cons_succ]
    refine WT.take 10 (v := ?_) rfl (by kernel_rfl) (by kernel_rfl) (by kernel_rfl) (by kernel_rfl) (fun _ _ _ h => h) (Or.inl ⟨by rfl, ?hy⟩) hS0 ?_
    case hy => first | (intro w hSw; go_simp; done) | (intro w hSw; go_simp; with_reducible rfl)
    simp only [Act.put, List.setIfInBounds_toArray, List.set_cons_zero, List.set_cons_succ]
    refine WT.take 11 (v := ?_) rfl (by kernel_rfl) (by kernel_rfl) (by kernel_rfl) (by kernel_rfl) (fun _ _ _ h => h) (Or.inl ⟨by rfl, ?hy⟩) hS0 ?_
    case hy => first | (intro w hSw; go_simp; done) | (intro w hSw; go_simp; with_reducible rfl)
    simp only [Act.put, List.setIfInBounds_toArray, List.set_cons_zero, List.set_cons_succ]
    refine WT.take 12 (v := ?_) rfl (by kernel_rfl) (by kernel_rfl) (by kernel_rfl) (by kernel_rfl) (fun _ _ _ h => h) (Or.inl ⟨by rfl, ?hy⟩) hS0 ?_
    case hy => first | (intro w hSw; go_simp; done) | (intro w hSw; go_simp; with_reducible rfl)
    simp only [Act.put, List.setIfInBounds_toArray, List.set_cons_zero, List.set_cons_succ]
    refine WT.take 13 (v := ?_) rfl (by kernel_rfl) (by kernel_rfl) (by kernel_rfl) (by kernel_rfl) (fun _ _ _ h => h) (Or.inl ⟨by rfl, ?hy⟩) hS0 ?_
    case hy => first | (intro w hSw; go_simp; done) | (intro w hSw; go_simp; with_reducible rfl)
    simp only [Act.put, List.setIfInBounds_toArray, List.set_cons_zero, List.set_cons_succ]
    refine WT.step 14 rfl (by kernel_rfl) (by decide) fun K hK => ?_
    go_simp
    have hS6 := And.intro (cell_alq HC.out.1 (.cells #[.slice x q cx] 22)) (cell_alq HC.out.2 (.cells #[.slice x q cx] 22))
    clear hS0
    refine hK.out _ _ hS6 ?_
    clear hK K
    refine WT.step 15 rfl (by kernel_rfl) (by decide) fun K hK => ?_
    refine step_app _ (by rfl) (.tmp 20) (.tmp 22) 101 (by rfl) 0 22 i1 _ 1 24 Try.underlying101 hi1 hz1 hs1 hy1 rfl (by omega) (.slice ub m uc) m us (by rfl) ((row_block H.out.2.2.2.2.1.1 fun k hk => HZ.out.block k (H.out.2.2.2.2.1.1.lt k hk).2).alloc _) (wz.heap.size + 1) (some ⟨wz.heap.size, 0, none⟩) 1 1 [.slice x q cx] (by rfl) (by rfl) (rd_new _ _ _) (by simp [Value.oneCell']) (by unfold maxLen; omega) (by omega) (Nat.zero_le _) ?_
    intro v7 w7 hown7 hg7 hor7
    obtain ⟨b7, c7, hv7⟩ := row_slice hown7
    subst hv7
    have hb6 : Below wz.heap.size wz (wz.alloc (.cells #[.slice x q cx] 22)) := Below.al wz _
    have hS7 := And.intro (cell_growq HC.out.1 hb6 hg7 HN.out.1) (cell_growq HC.out.2 hb6 hg7 HN.out.2)
    have hPz := H.out.1.next HZ.out
    have hfz : w7.frozen? ⟨gF, f * 2, none⟩ = false := by
      have hr := hPz.F.r
      rw [H.out.2.2.2.2.2.2.2.2.2.1] at hr
      exact grow_freeq hr (by omega) (pc_get uP f _ H.out.2.2.2.1).1 hb6 hg7 HN.out.2
    have H7 := Lib.hid (hPz.growF (y := y) (us := us) (xv := .slice x q cx) H.out.2.1 H.out.2.2.2.1 (by rw [H.out.2.2.2.2.2.2.2.2.1.1]; exact row_block H.out.2.2.2.2.2.2.2.1.1 fun k hk => HZ.out.block k (H.out.2.2.2.2.2.2.2.1.1.lt k hk).2) H.out.2.2.2.2.2.2.2.1.2
      ⟨by rw [H.out.2.2.2.2.2.2.2.2.1.2.1]; exact row_block H.out.2.2.2.2.1.1 fun k hk => HZ.out.block k (H.out.2.2.2.2.1.1.lt k hk).2, H.out.2.2.2.2.1.2, fun j z v hj hv => ⟨row_block (H.out.2.2.2.2.2.1 j z v hj hv).1 fun k hk => HZ.out.block k ((H.out.2.2.2.2.2.1 j z v hj hv).1.lt k hk).2, (H.out.2.2.2.2.2.1 j z v hj hv).2⟩⟩ (by rw [H.out.2.2.2.2.2.2.2.2.1.2.1]; exact hown7) hg7 hor7)
    clear hS6 hown7 hg7 hor7 hb6 hPz
    go_simp
    refine hK.out _ _ hS7 ?_
    clear hK K
    refine WT.step 16 rfl (by kernel_rfl) (by decide) fun K hK => ?_
    go_simp
    refine hK.out _ _ hS7 ?_
    clear hK K
    refine WT.take 17 (v := ?_) rfl (by kernel_rfl) (by kernel_rfl) (by kernel_rfl) (by kernel_rfl) (fun _ _ _ h => h) (Or.inl ⟨by rfl, ?hy⟩) hS7 ?_
    case hy => first | (intro w hSw; go_simp; done) | (intro w hSw; go_simp; with_reducible rfl)
    simp only [Act.put, List.setIfInBounds_toArray, List.set_cons_zero, List.set_cons_succ]
    refine WT.last 18 rfl (by kernel_rfl) rfl fun K hK => ?_
    go_simp
    refine hK.out _ _ ?_
    clear hK K
    refine WT.done (by kernel_rfl) ?_
    have hdo := hS7.2
    go_wp2_with fail
    go_meet
    case rel =>
      obtain ⟨L7, k1, k2⟩ := H7.out
      exact ⟨rfl, L7, _, k1, (Ex.below HZ.out L).trans k2⟩
  case rest =>
    obtain ⟨rfl, L3, v3, hP3, hE3⟩ := hcut
    clear hwz
    go_upto_region 1 with fail
    obtain ⟨wz2, hwz⟩ : ∃ wz2, wc.drew = wz2 := ⟨_, rfl⟩
    have hbz : Below wc.heap.size wc wz2 := by rw [← hwz]; exact below_drew (Below.refl _ _)
    have hPz := hP3.next hbz
    have hup : (uP.set f (v3, .slice gb mg gc))[f]? = some (v3, .slice gb mg gc) := List.getElem?_set_self (List.getElem?_eq_some_iff.1 H.out.2.2.2.1).1
    have hpc := (pc_get _ f _ hup).2
    have hr0 := hPz.F.r
    rw [List.length_set, H.out.2.2.2.2.2.2.2.2.2.1] at hr0
    obtain ⟨k1, k2⟩ := hPz.F.g f gi _ H.out.2.2.1 hup
    simp only at k1 k2
    rw [H.out.2.2.2.2.2.2.2.2.1.2.2] at k1
    have hLF := hPz.F.l gF rfl
    have hS0 : wz2.cell? ⟨rb, 0, none⟩ = some (.slice (some ⟨gF, 0, none⟩) nF cF) ∧ wz2.cell? ⟨gF, f * 2 + 1, none⟩ = some (.slice gb mg gc) := ⟨hPz.box.cell 0, (row_atq hr0 (by omega) hpc).1⟩
    have HC2 := Lib.hid hS0
    have hn1 : some rb ≠ (Value.slice gb mg gc).ownBlock := fun e => by have h1 := k2 rb e.symm; have h2 := hPz.lp; omega
    have hn2 : some gF ≠ (Value.slice gb mg gc).ownBlock := fun e => by have h1 := k2 gF e.symm; omega
    have HN2 := Lib.hid (And.intro hn1 hn2)
    have HG := Lib.hid (And.intro hbz (And.intro hPz (And.intro hup (And.intro k1 (And.intro hr0 hE3)))))
    clear hbz hPz hup hpc hr0 k1 k2 hLF hn1 hn2 hP3 hE3
    refine WT.start (fun w' : World => w'.cell? ⟨rb, 0, none⟩ = some (.slice (some ⟨gF, 0, none⟩) nF cF) ∧ w'.cell? ⟨gF, f * 2 + 1, none⟩ = some (.slice gb mg gc)) 18 (by kernel_rfl) ?_
    rw [hwz]
    clear hwz
    refine WT.take 0 (v := ?_) rfl (by kernel_rfl) (by kernel_rfl) (by kernel_rfl) (by kernel_rfl) (fun _ _ _ h => h) (Or.inl ⟨by rfl, ?hy⟩) hS0 ?_
    case hy => first | (intro w hSw; go_simp; done) | (intro w hSw; go_simp; with_reducible rfl)
    simp only [Act.put, List.setIfInBounds_toArray, List.set_cons_zero, List.set_cons_succ]
    refine WT.take 1 (v := ?_) rfl (by kernel_rfl) (by kernel_rfl) (by kernel_rfl) (by kernel_rfl) (fun _ _ _ h => h) (Or.inl ⟨by rfl, ?hy⟩) hS0 ?_
    case hy => first | (intro w hSw; go_simp; done) | (intro w hSw; go_simp; with_reducible rfl)
    simp only [Act.put, List.setIfInBounds_toArray, List.set_cons_zero, List.set_cons_succ]
    refine WT.take 2 (v := ?_) rfl (by kernel_rfl) (by kernel_rfl) (by kernel_rfl) (by kernel_rfl) (fun _ _ _ h => h) (Or.inl ⟨by rfl, ?hy⟩) hS0 ?_
    case hy => first | (intro w hSw; go_simp; done) | (intro w hSw; go_simp; with_reducible rfl)
    simp only [Act.put, List.setIfInBounds_toArray, List.set_cons_zero, List.set_cons_succ]
    refine WT.take 3 (v := ?_) rfl (by kernel_rfl) (by kernel_rfl) (by kernel_rfl) (by kernel_rfl) (fun _ _ _ h => h) (Or.inl ⟨by rfl, ?hy⟩) hS0 ?_
    case hy => first | (intro w hSw; go_simp; done) | (intro w hSw; go_simp; with_reducible rfl)
    simp only [Act.put, List.setIfInBounds_toArray, List.set_cons_zero, List.set_cons_succ]
    refine WT.take 4 (v := ?_) rfl (by kernel_rfl) (by kernel_rfl) (by kernel_rfl) (by kernel_rfl) (fun _ _ _ h => h) (Or.inl ⟨by rfl, ?hy⟩) hS0 ?_
    case hy => first | (intro w hSw; go_simp; done) | (intro w hSw; go_simp; with_reducible rfl)
    simp only [Act.put, List.setIfInBounds_toArray, List.set_cons_zero, List.set_cons_succ]
    refine WT.take 5 (v := ?_) rfl (by kernel_rfl) (by kernel_rfl) (by kernel_rfl) (by kernel_rfl) (fun _ _ _ h => h) (Or.inl ⟨by rfl, ?hy⟩) hS0 ?_
    case hy => first | (intro w hSw; go_simp; done) | (intro w hSw; go_simp; with_reducible rfl)
    simp only [Act.put, List.setIfInBounds_toArray, List.set_cons_zero, List.set_cons_succ]
    refine WT.take 6 (v := ?_) rfl (by kernel_rfl) (by kernel_rfl) (by kernel_rfl) (by kernel_rfl) (fun _ _ _ h => h) (Or.inl ⟨by rfl, ?hy⟩) hS0 ?_
    case hy => first | (intro w hSw; go_simp; done) | (intro w hSw; go_simp; with_reducible rfl)
    simp only [Act.put, List.setIfInBounds_toArray, List.set_cons_zero, List.set_cons_succ]
    refine WT.take 7 (v := ?_) rfl (by kernel_rfl) (by kernel_rfl) (by kernel_rfl) (by kernel_rfl) (fun _ _ _ h => h) (Or.inl ⟨by rfl, ?hy⟩) hS0 ?_
    case hy => first | (intro w hSw; go_simp; done) | (intro w hSw; go_simp; with_reducible rfl)
    simp only [Act.put, List.setIfInBounds_toArray, List.set_cons_zero, List.set_cons_succ]
    refine WT.take 8 (v := ?_) rfl (by kernel_rfl) (by kernel_rfl) (by kernel_rfl) (by kernel_rfl) (fun _ _ _ h => h) (Or.inl ⟨by rfl, ?hy⟩) hS0 ?_
    case hy => first | (intro w hSw; go_simp; done) | (intro w hSw; go_simp; with_reducible rfl)
    simp only [Act.put, List.setIfInBounds_toArray, List.set_cons_zero, List.set_cons_succ]
    refine WT.take 9 (v := ?_) rfl (by kernel_rfl) (by kernel_rfl) (by kernel_rfl) (by kernel_rfl) (fun _ _ _ h => h) (Or.inl ⟨by rfl, ?hy⟩) hS0 ?_
    case hy => first | (intro w hSw; go_simp; done) | (intro w hSw; go_simp; with_reducible rfl)
    simp only [Act.put, List.setIfInBounds_toArray, List.set_cons_zero, List.set_cons_succ]
    refine WT.take 10 (v := ?_) rfl (by kernel_rfl) (by kernel_rfl) (by kernel_rfl) (by kernel_rfl) (fun _ _ _ h => h) (Or.inl ⟨by rfl, ?hy⟩) hS0 ?_
    case hy => first | (intro w hSw; go_simp; done) | (intro w hSw; go_simp; with_reducible rfl)
    simp only [Act.put, List.setIfInBounds_toArray, List.set_cons_zero, List.set_cons_succ]
    refine WT.take 11 (v := ?_) rfl (by kernel_rfl) (by kernel_rfl) (by kernel_rfl) (by kernel_rfl) (fun _ _ _ h => h) (Or.inl ⟨by rfl, ?hy⟩) hS0 ?_
    case hy => first | (intro w hSw; go_simp; done) | (intro w hSw; go_simp; with_reducible rfl)
    simp only [Act.put, List.setIfInBounds_toArray, List.set_cons_zero, List.set_cons_succ]
    refine WT.take 12 (v := ?_) rfl (by kernel_rfl) (by kernel_rfl) (by kernel_rfl) (by kernel_rfl) (fun _ _ _ h => h) (Or.inl ⟨by rfl, ?hy⟩) hS0 ?_
    case hy => first | (intro w hSw; go_simp; done) | (intro w hSw; go_simp; with_reducible rfl)
    simp only [Act.put, List.setIfInBounds_toArray, List.set_cons_zero, List.set_cons_succ]
    refine WT.take 13 (v := ?_) rfl (by kernel_rfl) (by kernel_rfl) (by kernel_rfl) (by kernel_rfl) (fun _ _ _ h => h) (Or.inl ⟨by rfl, ?hy⟩) hS0 ?_
    case hy => first | (intro w hSw; go_simp; done) | (intro w hSw; go_simp; with_reducible rfl)
    simp only [Act.put, List.setIfInBounds_toArray, List.set_cons_zero, List.set_cons_succ]
    refine WT.step 14 rfl (by kernel_rfl) (by decide) fun K hK => ?_
    go_simp
    have hS6 := And.intro (cell_alq HC2.out.1 (.cells #[.int .i64 more] 3)) (cell_alq HC2.out.2 (.cells #[.int .i64 more] 3))
    clear hS0
    refine hK.out _ _ hS6 ?_
    clear hK K
    refine WT.step 15 rfl (by kernel_rfl) (by decide) fun K hK => ?_
    refine step_app _ (by rfl) (.tmp 38) (.tmp 40) 23 (by rfl) 0 3 j1 _ 1 8 Try.underlying23 hj1 kz1 ks1 ky1 rfl (by omega) (.slice gb mg gc) mg (gi.map (Value.int .i64)) (by rfl) (HG.out.2.2.2.1.alloc _) (wz2.heap.size + 1) (some ⟨wz2.heap.size, 0, none⟩) 1 1 [.int .i64 more] (by rfl) (by rfl) (rd_new _ _ _) (by simp [Value.oneCell']) (by unfold maxLen; omega) (by omega) (Nat.zero_le _) ?_
    intro v7 w7 hown7 hg7 hor7
    obtain ⟨b7, c7, hv7⟩ := row_slice hown7
    subst hv7
    have hb6 : Below wz2.heap.size wz2 (wz2.alloc (.cells #[.int .i64 more] 3)) := Below.al wz2 _
    have hS7 := And.intro (cell_growq HC2.out.1 hb6 hg7 HN2.out.1) (cell_growq HC2.out.2 hb6 hg7 HN2.out.2)
    have hfz : w7.frozen? ⟨gF, f * 2 + 1, none⟩ = false := grow_freeq HG.out.2.2.2.2.1 (by omega) (pc_get _ f _ HG.out.2.2.1).2 hb6 hg7 HN2.out.2
    have H7 := Lib.hid (HG.out.2.1.growG H.out.2.2.1 HG.out.2.2.1 (by rw [H.out.2.2.2.2.2.2.2.2.1.2.2]; exact hown7) hg7 hor7)
    clear hS6 hown7 hg7 hor7 hb6
    go_simp
    refine hK.out _ _ hS7 ?_
    clear hK K
    refine WT.step 16 rfl (by kernel_rfl) (by decide) fun K hK => ?_
    go_simp
    refine hK.out _ _ hS7 ?_
    clear hK K
    refine WT.take 17 (v := ?_) rfl (by kernel_rfl) (by kernel_rfl) (by kernel_rfl) (by kernel_rfl) (fun _ _ _ h => h) (Or.inl ⟨by rfl, ?hy⟩) hS7 ?_
    case hy => first | (intro w hSw; go_simp; done) | (intro w hSw; go_simp; with_reducible rfl)
    simp only [Act.put, List.setIfInBounds_toArray, List.set_cons_zero, List.set_cons_succ]
    refine WT.last 18 rfl (by kernel_rfl) rfl fun K hK => ?_
    go_simp
    refine hK.out _ _ ?_
    clear hK K
    refine WT.done (by kernel_rfl) ?_
    have hdo := hS7.2
    go_wp2_with fail
    go_end0
    obtain ⟨L7, k1, k2⟩ := H7.out
    exact ⟨rfl, L7, ⟨_, _, k1⟩, HG.out.2.2.2.2.2.trans ((Ex.below HG.out.1 L3).trans k2)⟩
end Go.Proofs.Ytebeefkibbbkdaa
/- chronicleref3: without, with. -/
namespace Go.Proofs.Ytebeefkibbbkdaa
open Go.RowKit Go.Maps

theorem infoq_link : (Try.prog.info? 105).map (fun i => (i.zero, i.size, i.bytes)) = some (some (.agg #[.string ByteArray.empty, .int .i64 0]), 2, 24) := by kernel_rfl
theorem leftq_take {n : ByteArray} {l : List KE} {k : Nat} {p : KE} (hp : l[k]? = some p) : leftP n (l.take (k + 1)) = if p.1 = n then leftP n (l.take k) else leftP n (l.take k) ++ [p] := by
  unfold leftP
  rw [List.take_add_one, hp, Option.toList_some, List.filter_append]
  by_cases h : p.1 = n
  · rw [if_pos h]; simp [h]
  · rw [if_neg h]; simp [h]
theorem leftq_len (n : ByteArray) (l : List KE) (k : Nat) : (leftP n (l.take k)).length ≤ k := by
  unfold leftP
  refine Nat.le_trans (List.length_filter_le _ _) ?_
  rw [List.length_take]
  omega
theorem RdK.below {w w' : World} {B : Nat} {A : Option Addr} {l : List KE} (h : RdK w B A l) (hb : Below B w w') : RdK w' B A l := by
  intro i p hp
  obtain ⟨ad, h1, h2, h3, h4⟩ := h i p hp
  exact ⟨ad, h1, h2, by rw [hb.cell (by rw [add_block]; exact h2)]; exact h3, by rw [hb.cell (by show (ad.add (i * 2)).block < B; rw [add_block]; exact h2)]; exact h4⟩
set_option maxRecDepth 100000 in
set_option maxHeartbeats 4000000 in
theorem withoutR3_any (A : Option Addr) (m c : Nat) (l : List KE) (nm : ByteArray) (w : World) (hN : RdK w w.heap.size A l) (hm : l.length = m) (hlm : m ≤ 999999999999) :
    Calls Try.prog 96 #[.slice A m c, .string nm] w fun e w' => ∃ b cap, e = .returned (.slice b (leftP nm l).length cap) ∧ w'.ownsRow w.heap.size 105 2 (.slice b (leftP nm l).length cap) (leftP nm l).length ((leftP nm l).flatMap lcell) ∧ Below w.heap.size w w' := by
  obtain ⟨i1, hi1', hz1, hs1, hy1⟩ := info_parts infoq_link
  have HN := Lib.hid (And.intro hN hm)
  clear hN hm
  go_enter Try.func96, Try.ntmps96
  go_wp2
  go_loopw [5, 6] (fun v5 v6 wr => ∃ k : Nat, k ≤ m ∧ v6 = .int .i64 k ∧ wr.ownsRow w.heap.size 105 2 v5 (leftP nm (l.take k)).length ((leftP nm (l.take k)).flatMap lcell) ∧ Below w.heap.size w wr) (fun _ v6 _ => m - (intOf v6).toNat)
  case atStart => exact ⟨0, Nat.zero_le _, rfl, nil_own _ _ _ _, Below.refl _ _⟩
  case round =>
    obtain ⟨k, hk, rfl, hr, hb⟩ := hrel
    obtain ⟨rb, rc, rfl⟩ := row_slice hr
    have hkl2 := leftq_len nm l k
    obtain ⟨g, hg⟩ : ∃ g, (leftP nm (l.take k)).length = g := ⟨_, rfl⟩
    rw [hg] at hr hkl2 ⊢
    by_cases hlt : k < m
    · have hk0 : (0 : Int) ≤ k := by omega
      have hk1 : (k : Int) < m := by omega
      have hkl : k < l.length := by rw [HN.out.2]; exact hlt
      obtain ⟨p, hp⟩ : ∃ p, l[k]? = some p := ⟨_, List.getElem?_eq_getElem hkl⟩
      obtain ⟨a2, rfl, _, d0, d1⟩ := (HN.out.1.below hb) k p hp
      have HR := Lib.hid (And.intro hr (And.intro hb (And.intro hg (leftq_take (n := nm) hp))))
      clear hp hkl hr hb hg
      by_cases hx : p.1 = nm
      · have hself : (p.1.toList == nm.toList) = true := by rw [hx]; simp
        have HX := Lib.hid hx
        clear hx
        go_wp2
        go_roundw
        case rel =>
          refine ⟨k + 1, by omega, by go_num, ?_, HR.out.2.1⟩
          rw [HR.out.2.2.2, if_pos HX.out, HR.out.2.2.1]
          exact HR.out.1
        case measure => simp [intOf]; omega
      · have hne := key_ne hx
        have HX := Lib.hid hx
        clear hx
        go_wp2_with (first
          | (at_builtin
             refine wpList_app _ rfl (.tmp 20) (.tmp 25) _ rfl w.heap.size 105 i1 _ 2 24 Try.underlying96 hi1' hz1 hs1 hy1 rfl (by omega) (.slice rb g rc) g _ rfl (HR.out.1.alloc _) _ _ 1 1 [.string p.1, .int .i64 (p.2 : Nat)] rfl rfl (rd_new _ _ _) (by simp [Value.oneCell']) (by unfold maxLen; omega) (by omega) (by have := HR.out.2.1.size; simp <;> omega) ?_
             intro v' w8 hown hg8 _
             have hb8 := (HR.out.2.1.alloc HR.out.2.1.size (.cells #[.string p.1, .int .i64 (p.2 : Nat)] 105)).grown hg8 (by have := HR.out.2.1.size; simp <;> omega) (fun j e => (HR.out.1.lt j e).1)
             have H8 := Lib.hid (And.intro hown hb8)
             clear hown hg8 hb8))
        go_roundw
        case rel =>
          refine ⟨k + 1, by omega, by go_num, ?_, H8.out.2⟩
          rw [HR.out.2.2.2, if_neg HX.out, List.length_append, HR.out.2.2.1, List.flatMap_append]
          exact H8.out.1
        case measure => simp [intOf]; omega
    · have hkm : m = k := by omega
      subst hkm
      have hlk : l.take m = l := by rw [← HN.out.2]; exact List.take_length
      rw [hlk] at hr hg
      have HR := Lib.hid (And.intro hr (And.intro hb (And.intro hg hb)))
      clear hr hb hg hlk
      go_wp2
      go_ret
      rw [HR.out.2.2.1]
      exact ⟨_, _, rfl, HR.out.1, HR.out.2.1⟩
theorem put_gtq {n : ByteArray} {f : Nat} {l : List KE} {p : KE} (h : kc n p.1 = -1) : putL n f (l ++ [p]) = putL n f l ++ [p] := by
  have h2 : kc p.1 n = 1 := by rw [kc_swap, h]; rfl
  unfold putL lo hi
  rw [List.filter_append, List.filter_append]
  simp [h, h2]
theorem put_lessq {n : ByteArray} {f : Nat} {l : List KE} (h : ∀ p ∈ l, kc p.1 n = -1) : putL n f l = l ++ [(n, f)] := by
  have h1 : lo n l = l := List.filter_eq_self.2 fun p hp => by simp [h p hp]
  have h2 : hi n l = [] := List.filter_eq_nil_iff.2 fun p hp => by
    have : kc n p.1 = 1 := by rw [kc_swap, h p hp]; rfl
    simp [this]
  unfold putL
  rw [h1, h2]
/-- What with has laid when it has come to k. -/
def rowW (n : ByteArray) (f : Nat) (laid : Bool) (l : List KE) : List KE := if laid = true then putL n f l else l
structure WithR (n : ByteArray) (l : List KE) (k : Nat) (laid : Bool) : Prop where
  no : laid = false → ∀ p ∈ l.take k, kc p.1 n = -1
  yes : laid = true → ∃ p ∈ l.take k, kc n p.1 = -1
end Go.Proofs.Ytebeefkibbbkdaa
/- chronicleref3: with. -/
namespace Go.Proofs.Ytebeefkibbbkdaa
open Go.RowKit Go.Maps

theorem cmpq_less : ∀ a b : List UInt8, cmpB a b = -1 ↔ Op.bytesLess a b = true
  | [], [] => by simp [cmpB, Op.bytesLess]
  | [], _ :: _ => by simp [cmpB, Op.bytesLess]
  | _ :: _, [] => by simp [cmpB, Op.bytesLess]
  | x :: a, y :: b => by
    simp only [cmpB, Op.bytesLess, Bool.or_eq_true, Bool.and_eq_true, decide_eq_true_eq, beq_iff_eq, UInt8.lt_iff_toNat_lt]
    by_cases h1 : x.toNat < y.toNat
    · simp [h1]
    · by_cases h2 : y.toNat < x.toNat
      · have : x ≠ y := by intro e; subst e; omega
        simp [h1, h2, this]
      · have : x = y := UInt8.toNat_inj.1 (by omega)
        simp [this, cmpq_less a b]
theorem kcq_less {a b : ByteArray} (h : kc a b = -1) : Op.bytesLess a.toList b.toList = true := by
  rw [ByteArray.toList_eq, ByteArray.toList_eq]
  exact (cmpq_less _ _).1 h
theorem kcq_nless {a b : ByteArray} (h : kc a b ≠ -1) : Op.bytesLess a.toList b.toList = false := by
  rw [ByteArray.toList_eq, ByteArray.toList_eq]
  exact Bool.eq_false_iff.2 fun e => h ((cmpq_less _ _).2 e)
theorem size_alq {w W : World} {B : Nat} {o : Obj} (h : Below B (w.alloc o) W) : w.heap.size + 1 ≤ W.heap.size := by
  have := h.size
  simp at this
  omega
theorem own_leq {w : World} {base base' : Nat} {e : TypeId} {size : Nat} {v : Value} {n : Nat} {xs : List Value} (h : w.ownsRow base e size v n xs) (hb : base' ≤ base) : w.ownsRow base' e size v n xs := by
  obtain ⟨h1, h2⟩ := h
  refine ⟨h1, ?_⟩
  rcases h2 with h2 | ⟨g, cap, cur, h3, h4, h5⟩
  · exact Or.inl h2
  · exact Or.inr ⟨g, cap, cur, h3, Nat.le_trans hb h4, h5⟩
theorem takeq_succ {l : List KE} {k : Nat} {p : KE} (hp : l[k]? = some p) : l.take (k + 1) = l.take k ++ [p] := by
  rw [List.take_add_one, hp, Option.toList_some]
theorem WithR.gt {n : ByteArray} {f : Nat} {l : List KE} {k : Nat} {p : KE} (h : WithR n l k false) (hp : l[k]? = some p) (hg : kc n p.1 = -1) : rowW n f true (l.take (k + 1)) = rowW n f false (l.take k) ++ [(n, f)] ++ [p] ∧ WithR n l (k + 1) true := by
  refine ⟨?_, ⟨fun e => (Bool.noConfusion e), fun _ => ⟨p, by rw [takeq_succ hp]; simp, hg⟩⟩⟩
  unfold rowW
  rw [if_pos rfl, if_neg (by decide), takeq_succ hp, put_gtq hg, put_lessq (h.no rfl)]
theorem WithR.less {n : ByteArray} {f : Nat} {l : List KE} {k : Nat} {p : KE} (h : WithR n l k false) (hp : l[k]? = some p) (hg : kc p.1 n = -1) : rowW n f false (l.take (k + 1)) = rowW n f false (l.take k) ++ [p] ∧ WithR n l (k + 1) false := by
  refine ⟨?_, ⟨fun _ q hq => ?_, fun e => (Bool.noConfusion e)⟩⟩
  · unfold rowW
    rw [if_neg (by decide), if_neg (by decide), takeq_succ hp]
  · rw [takeq_succ hp] at hq
    rcases List.mem_append.1 hq with hq | hq
    · exact h.no rfl q hq
    · rw [List.mem_singleton.1 hq]; exact hg
theorem WithR.on {n : ByteArray} {f : Nat} {l : List KE} {k : Nat} {p : KE} (h : WithR n l k true) (hs : Sorted l) (hp : l[k]? = some p) : rowW n f true (l.take (k + 1)) = rowW n f true (l.take k) ++ [p] ∧ WithR n l (k + 1) true := by
  obtain ⟨q, hq, hg⟩ := h.yes rfl
  have h1 : Sorted (l.take k ++ [p]) := by rw [← takeq_succ hp]; exact List.Pairwise.sublist (List.take_sublist _ _) hs
  have h2 : kc q.1 p.1 = -1 := (List.pairwise_append.1 h1).2.2 q hq p (by simp)
  refine ⟨?_, ⟨fun e => (Bool.noConfusion e), fun _ => ⟨q, by rw [takeq_succ hp]; simp [hq], hg⟩⟩⟩
  unfold rowW
  rw [if_pos rfl, if_pos rfl, takeq_succ hp, put_gtq (kc_trans hg h2)]
theorem rowW_len0 (n : ByteArray) (f : Nat) (l : List KE) (k : Nat) : (rowW n f false (l.take k)).length ≤ k := by
  unfold rowW
  rw [if_neg (by decide), List.length_take]
  omega
set_option maxRecDepth 100000 in
set_option maxHeartbeats 8000000 in
theorem withR3_any (A : Option Addr) (m c f : Nat) (l : List KE) (nm : ByteArray) (w : World) (hN : RdK w w.heap.size A l) (hm : l.length = m) (hs : Sorted l) (hne : ∀ p ∈ l, p.1 ≠ nm) (hlm : m ≤ 999999999999) :
    Calls Try.prog 93 #[.slice A m c, .agg #[.string nm, .int .i64 (f : Nat)]] w fun e w' => ∃ b cap, e = .returned (.slice b (putL nm f l).length cap) ∧ w'.ownsRow w.heap.size 105 2 (.slice b (putL nm f l).length cap) (putL nm f l).length ((putL nm f l).flatMap lcell) ∧ Below w.heap.size w w' := by
  obtain ⟨i1, hi1', hz1, hs1, hy1⟩ := info_parts infoq_link
  have hbx : ∀ W, Below (w.heap.size + 1) (w.alloc (.cells #[.string nm, .int .i64 (f : Nat)] 105)) W → W.cell? ⟨w.heap.size, 0, none⟩ = some (.string nm) ∧ W.cell? ⟨w.heap.size, 1, none⟩ = some (.int .i64 (f : Nat)) ∧ Below w.heap.size w W := fun W hW =>
    have hB := (Box.new w 105 #[.string nm, .int .i64 (f : Nat)]).below hW (Nat.lt_succ_self _)
    ⟨hB.cell 0, hB.cell 1, ((Below.refl _ _).alloc (Nat.le_refl _) _).trans (Below.mono hW (Nat.le_succ _))⟩
  have HN := Lib.hid (And.intro hN (And.intro hm (And.intro hs (And.intro hne hbx))))
  clear hN hm hs hne hbx
  go_enter Try.func93, Try.ntmps93
  go_wp2
  go_loopw [5, 6, 7] (fun v5 v6 v7 wr => ∃ (k : Nat) (laid : Bool), k ≤ m ∧ v6 = .bool laid ∧ v7 = .int .i64 k ∧ WithR nm l k laid ∧ (rowW nm f laid (l.take k)).length ≤ k + 1 ∧ wr.ownsRow (w.heap.size + 1) 105 2 v5 (rowW nm f laid (l.take k)).length ((rowW nm f laid (l.take k)).flatMap lcell) ∧ Below (w.heap.size + 1) (w.alloc (.cells #[.string nm, .int .i64 (f : Nat)] 105)) wr) (fun _ _ v7 _ => m - (intOf v7).toNat)
  case atStart => exact ⟨0, false, Nat.zero_le _, rfl, rfl, ⟨fun _ p hp => by simp at hp, fun e => (Bool.noConfusion e)⟩, Nat.zero_le _, nil_own _ _ _ _, Below.refl _ _⟩
  case round =>
    obtain ⟨k, laid, hk, rfl, rfl, hW, hkl2, hr, hb⟩ := hrel
    obtain ⟨rb, rc, rfl⟩ := row_slice hr
    obtain ⟨g, hg⟩ : ∃ g, (rowW nm f laid (l.take k)).length = g := ⟨_, rfl⟩
    rw [hg] at hr hkl2 ⊢
    by_cases hlt : k < m
    · have hk0 : (0 : Int) ≤ k := by omega
      have hk1 : (k : Int) < m := by omega
      have hkl : k < l.length := by rw [HN.out.2.1]; exact hlt
      obtain ⟨p, hp⟩ : ∃ p, l[k]? = some p := ⟨_, List.getElem?_eq_getElem hkl⟩
      have hpn : p.1 ≠ nm := HN.out.2.2.2.1 p (List.mem_of_getElem? hp)
      obtain ⟨R, hR⟩ : ∃ R, rowW nm f laid (l.take k) = R := ⟨_, rfl⟩
      have hgk : laid = false → g ≤ k := fun e => by subst e; rw [← hg]; exact rowW_len0 _ _ _ _
      rw [hR] at hr hg
      have HRR := Lib.hid hR
      clear hR
      obtain ⟨a2, rfl, hlw, e0, e1⟩ := HN.out.1 k p hp
      have hdW : ∀ W, Below (w.heap.size + 1) (w.alloc (.cells #[.string nm, .int .i64 (f : Nat)] 105)) W → W.cell? (a2.add (k * 2)) = some (.string p.1) ∧ W.cell? ⟨(a2.add (k * 2)).block, (a2.add (k * 2)).off + 1, none⟩ = some (.int .i64 (p.2 : Nat)) := fun W hW' => by
        have hb' := (HN.out.2.2.2.2 W hW').2.2
        exact ⟨by rw [hb'.cell (by rw [add_block]; exact hlw)]; exact e0, by rw [hb'.cell (by show (a2.add (k * 2)).block < _; rw [add_block]; exact hlw)]; exact e1⟩
      have HD := Lib.hid hdW
      obtain ⟨d0, d1⟩ := hdW _ hb
      obtain ⟨x0, x1, _⟩ := HN.out.2.2.2.2 _ hb
      have HQ := Lib.hid (show ∀ q, (wr.drewN q).ownsRow (w.heap.size + 1) 105 2 (.slice rb g rc) g _ ∧ Below (w.heap.size + 1) (w.alloc (.cells #[.string nm, .int .i64 (f : Nat)] 105)) (wr.drewN q) from fun q => ⟨hr, below_drewN hb q⟩)
      have HR := Lib.hid (And.intro hg (And.intro hW hp))
      clear hdW e0 e1 hlw hr hb hW hp hkl
      cases laid with
      | true =>
        have HN1 := Lib.hid hpn
        clear hpn hgk
        go_wp2
        go_quiet (fail)
        have HW := Lib.hid (HQ.out nq)
        obtain ⟨d0, d1⟩ := HD.out _ HW.out.2
        generalize hw1 : World.drewN _ _ = w1 at *
        clear hw1
        go_wp2_with (first
          | (at_builtin
             refine wpList_app _ rfl (.tmp 30) (.tmp 35) _ rfl (w.heap.size + 1) 105 i1 _ 2 24 Try.underlying96 hi1' hz1 hs1 hy1 rfl (by omega) (.slice rb g rc) (g) _ rfl (HW.out.1.alloc _) _ _ 1 1 [.string p.1, .int .i64 (p.2 : Nat)] rfl rfl (rd_new _ _ _) (by simp [Value.oneCell']) (by unfold maxLen; omega) (by omega) (by have := size_alq HW.out.2; simp <;> omega) ?_
             intro v8 w8 hown hg8 _
             have hb8 := (HW.out.2.alloc (size_alq HW.out.2) (.cells #[.string p.1, .int .i64 (p.2 : Nat)] 105)).grown hg8 (by have := size_alq HW.out.2; simp <;> omega) (fun j e => (HW.out.1.lt j e).1)
             have H8 := Lib.hid (And.intro hown hb8)
             clear hown hg8 hb8))
        go_roundw
        case rel =>
          obtain ⟨q1, q2⟩ := HR.out.2.1.on (f := f) HN.out.2.2.1 HR.out.2.2
          refine ⟨k + 1, true, by omega, rfl, by go_num, q2, ?_, ?_, H8.out.2⟩
          · rw [q1, HRR.out, List.length_append, HR.out.1]; simp; omega
          · rw [q1, HRR.out, List.length_append, HR.out.1, List.flatMap_append]
            exact H8.out.1
        case measure => simp [intOf]; omega
      | false =>
        replace hgk := hgk rfl
        by_cases hc : kc nm p.1 = -1
        · have hbl : Op.bytesLess p.1.toList nm.toList = false := kcq_nless (by rw [kc_swap, hc]; decide)
          have hkn := key_ne hpn
          have HC := Lib.hid hc
          clear hc hpn
          go_wp2
          go_quiet (fail)
          have HW := Lib.hid (HQ.out nq)
          obtain ⟨d0, d1⟩ := HD.out _ HW.out.2
          obtain ⟨x0, x1, _⟩ := HN.out.2.2.2.2 _ HW.out.2
          generalize hw1 : World.drewN _ _ = w1 at *
          clear hw1 hbl hkn
          go_wp2_with (first
            | (at_builtin
               refine wpList_app _ rfl (.tmp 26) (.tmp 28) _ rfl (w.heap.size + 1) 105 i1 _ 2 24 Try.underlying96 hi1' hz1 hs1 hy1 rfl (by omega) (.slice rb g rc) (g) _ rfl (HW.out.1.alloc _) _ _ 1 1 [.string nm, .int .i64 (f : Nat)] rfl rfl (rd_new _ _ _) (by simp [Value.oneCell']) (by unfold maxLen; omega) (by omega) (by have := size_alq HW.out.2; simp <;> omega) ?_
               intro v8 w8 hown hg8 _
               have hb8 := (HW.out.2.alloc (size_alq HW.out.2) (.cells #[.string nm, .int .i64 (f : Nat)] 105)).grown hg8 (by have := size_alq HW.out.2; simp <;> omega) (fun j e => (HW.out.1.lt j e).1)
               have H8 := Lib.hid (And.intro hown hb8)
               obtain ⟨d0, d1⟩ := HD.out _ hb8; obtain ⟨rb8, rc8, rfl⟩ := row_slice hown; clear hown hg8 hb8)
            | (at_builtin
               refine wpList_app _ rfl (.tmp 30) (.tmp 35) _ rfl (w.heap.size + 1) 105 i1 _ 2 24 Try.underlying96 hi1' hz1 hs1 hy1 rfl (by omega) (.slice rb8 (g + 1) rc8) (g + 1) _ rfl (H8.out.1.alloc _) _ _ 1 1 [.string p.1, .int .i64 (p.2 : Nat)] rfl rfl (rd_new _ _ _) (by simp [Value.oneCell']) (by unfold maxLen; omega) (by omega) (by have := size_alq H8.out.2; simp <;> omega) ?_
               intro v9 w9 hown hg8 _
               have hb8 := (H8.out.2.alloc (size_alq H8.out.2) (.cells #[.string p.1, .int .i64 (p.2 : Nat)] 105)).grown hg8 (by have := size_alq H8.out.2; simp <;> omega) (fun j e => (H8.out.1.lt j e).1)
               have H9 := Lib.hid (And.intro hown hb8)
               clear hown hg8 hb8))
          go_roundw
          case rel =>
            obtain ⟨q1, q2⟩ := HR.out.2.1.gt (f := f) HR.out.2.2 HC.out
            refine ⟨k + 1, true, by omega, rfl, by go_num, q2, ?_, ?_, H9.out.2⟩
            · rw [q1, HRR.out, List.length_append, List.length_append, HR.out.1]; simp; omega
            · rw [q1, HRR.out, List.length_append, List.length_append, HR.out.1, List.flatMap_append, List.flatMap_append]
              exact H9.out.1
          case measure => simp [intOf]; omega
        · have hc2 : kc p.1 nm = -1 := by
            rw [kc_swap]
            rcases kc_range nm p.1 with h | h | h
            · exact absurd h hc
            · exact absurd (kc_eq h).symm hpn
            · rw [h]
          have hbl := kcq_less hc2
          have hkn := key_ne hpn
          have HC := Lib.hid hc2
          clear hc hpn hc2
          go_wp2
          go_quiet (fail)
          have HW := Lib.hid (HQ.out nq)
          obtain ⟨d0, d1⟩ := HD.out _ HW.out.2
          generalize hw1 : World.drewN _ _ = w1 at *
          clear hw1 hbl hkn
          go_wp2_with (first
            | (at_builtin
               refine wpList_app _ rfl (.tmp 30) (.tmp 35) _ rfl (w.heap.size + 1) 105 i1 _ 2 24 Try.underlying96 hi1' hz1 hs1 hy1 rfl (by omega) (.slice rb g rc) (g) _ rfl (HW.out.1.alloc _) _ _ 1 1 [.string p.1, .int .i64 (p.2 : Nat)] rfl rfl (rd_new _ _ _) (by simp [Value.oneCell']) (by unfold maxLen; omega) (by omega) (by have := size_alq HW.out.2; simp <;> omega) ?_
               intro v8 w8 hown hg8 _
               have hb8 := (HW.out.2.alloc (size_alq HW.out.2) (.cells #[.string p.1, .int .i64 (p.2 : Nat)] 105)).grown hg8 (by have := size_alq HW.out.2; simp <;> omega) (fun j e => (HW.out.1.lt j e).1)
               have H8 := Lib.hid (And.intro hown hb8)
               clear hown hg8 hb8))
          go_roundw
          case rel =>
            obtain ⟨q1, q2⟩ := HR.out.2.1.less (f := f) HR.out.2.2 HC.out
            refine ⟨k + 1, false, by omega, rfl, by go_num, q2, ?_, ?_, H8.out.2⟩
            · rw [q1, HRR.out, List.length_append, HR.out.1]; simp; omega
            · rw [q1, HRR.out, List.length_append, HR.out.1, List.flatMap_append]
              exact H8.out.1
          case measure => simp [intOf]; omega
    · have hkm : m = k := by omega
      subst hkm
      have hlk : l.take m = l := by rw [← HN.out.2.1]; exact List.take_length
      rw [hlk] at hr hg
      obtain ⟨x0, x1, hbw⟩ := HN.out.2.2.2.2 _ hb
      have HW := Lib.hid (And.intro hr hb)
      have HR := Lib.hid (And.intro hg (And.intro hW hbw))
      clear hr hb hg hW hbw
      cases laid with
      | true =>
        have hq : (putL nm f l).length = g := HR.out.1
        go_wp2
        go_ret
        rw [hq]
        exact ⟨_, _, rfl, own_leq HW.out.1 (Nat.le_succ _), HR.out.2.2⟩
      | false =>
        have hq : putL nm f l = l ++ [(nm, f)] := put_lessq (by have := HR.out.2.1.no rfl; rwa [hlk] at this)
        have hl : l.length = g := HR.out.1
        have HL := Lib.hid (And.intro hq hl)
        clear hq hl hlk
        go_wp2_with (first
          | (at_builtin
             refine wpList_app _ rfl (.tmp 39) (.tmp 41) _ rfl (w.heap.size + 1) 105 i1 _ 2 24 Try.underlying96 hi1' hz1 hs1 hy1 rfl (by omega) (.slice rb g rc) (g) _ rfl (HW.out.1.alloc _) _ _ 1 1 [.string nm, .int .i64 (f : Nat)] rfl rfl (rd_new _ _ _) (by simp [Value.oneCell']) (by unfold maxLen; omega) (by omega) (by have := size_alq HW.out.2; simp <;> omega) ?_
             intro v8 w8 hown hg8 _
             have hb8 := (HW.out.2.alloc (size_alq HW.out.2) (.cells #[.string nm, .int .i64 (f : Nat)] 105)).grown hg8 (by have := size_alq HW.out.2; simp <;> omega) (fun j e => (HW.out.1.lt j e).1)
             have H8 := Lib.hid (And.intro hown hb8)
             clear hown hg8 hb8))
        go_ret
        obtain ⟨rb8, rc8, rfl⟩ := row_slice H8.out.1
        rw [HL.out.1, List.length_append, HL.out.2, List.flatMap_append]
        exact ⟨_, _, rfl, own_leq H8.out.1 (Nat.le_succ _), (HN.out.2.2.2.2 _ H8.out.2).2.2⟩
end Go.Proofs.Ytebeefkibbbkdaa
/- chronicleref3: copied. -/
namespace Go.Proofs.Ytebeefkibbbkdaa
open Go.RowKit Go.Maps

set_option maxRecDepth 100000 in
set_option maxHeartbeats 1000000 in
theorem copiedR_any (A : Option Addr) (n c : Nat) (bs : List UInt8) (w : World) (hA : Rd w w.heap.size A (bv bs)) (hn : bs.length = n) (hlm : n ≤ 140737488355328) :
    Calls Try.prog 47 #[.slice A n c] w fun e w' => ∃ x cap, e = .returned (.slice x n cap) ∧ w'.ownsRow w.heap.size 5 1 (.slice x n cap) n (bv bs) ∧ Below w.heap.size w w' := by
  obtain ⟨i1, hi1, hz1, hs1, hy1⟩ := info_parts info_u8
  have Hown0 := Lib.hid (own_empty w w.heap.size 5 1 (Nat.le_refl _))
  have Hrd0 := Lib.hid (hA.below (Below.al w (.cells #[] 5)))
  have Hn := Lib.hid (show (bv bs).length = n * 1 by simp [bv, hn])
  have Hb1 := Lib.hid (Below.al w (.cells #[] 5))
  clear hA hn
  go_enter Try.func47, Try.ntmps47
  go_wp2_with (at_builtin
               refine wpList_app _ rfl (.tmp 3) (.tmp 4) _ rfl w.heap.size 5 i1 _ 1 1 Try.underlying22 hi1 hz1 hs1 hy1 rfl (by omega) (.slice (some ⟨w.heap.size, 0, none⟩) 0 0) 0 [] rfl Hown0.out _ A n c (bv bs) rfl Hn.out Hrd0.out (one_bv _) (by unfold maxLen; omega) (by omega) (by simp <;> omega) ?_
               intro v1 w1 hown1 hg1 _
               rw [Nat.zero_add, List.nil_append] at hown1
               obtain ⟨b1, c1, rfl⟩ := row_slice hown1
               have H1 := Lib.hid (And.intro hown1 (Hb1.out.grown hg1 (by simp <;> omega) (by simp [Value.ownBlock] <;> omega)))
               clear hown1 hg1)
  go_ret
  exact ⟨b1, c1, rfl, H1.out.1, H1.out.2⟩
end Go.Proofs.Ytebeefkibbbkdaa
/- chronicleref3: Name. -/
namespace Go.Proofs.Ytebeefkibbbkdaa
open Go.RowKit Go.Maps

set_option maxRecDepth 100000 in
set_option maxHeartbeats 4000000 in
theorem nameR3_any (s : ByteArray) (w : World) (hz : s.size ≤ maxLen) :
    Calls Try.prog 46 #[.string s] w fun e w' => e = .returned (.bool (goodN s)) ∧ Below w.heap.size w w' := by
  unfold maxLen at hz
  by_cases h0 : s.size = 0
  · have hg := Lib.hid (show goodN s = false by unfold goodN; simp [h0])
    have he : s.toList = [] := by rw [ByteArray.toList_eq]; exact List.eq_nil_of_length_eq_zero (by simpa using h0)
    have he2 : (s.size : Int) < 1 := by omega
    clear he
    go_enter Try.func46, Try.ntmps46
    go_wp2
    go_ret
    exact ⟨ret_bool (by rw [hg.out]), Below.refl _ _⟩
  · have he : ¬ s.toList = [] := fun e => h0 (by rw [ByteArray.toList_eq] at e; have := congrArg List.length e; simpa using this)
    have he2 : ¬ (s.size : Int) < 1 := by omega
    have he3 : decide ((s.size : Int) < 1) = false := by simp; omega
    clear he
    by_cases h32 : 32 < s.size
    · have hg := Lib.hid (show goodN s = false by unfold goodN; simp; omega)
      go_enter Try.func46, Try.ntmps46
      go_wp2
      go_ret
      exact ⟨ret_bool (by rw [hg.out]), Below.refl _ _⟩
    · have hl : 0 < s.size := by omega
      have hc : s.data.toList = s[0] :: s.data.toList.drop 1 := by
        have := List.drop_eq_getElem_cons (i := 0) (l := s.data.toList) (by simpa using hl)
        rw [List.drop_zero] at this
        exact this
      have hG := Lib.hid (goodN_head hc)
      have hci : (s.data.toList[0]'(by simpa using hl)) = s[0] := rfl
      have h01 : (0 : Int) < s.size := by omega
      clear hc
      rcases (show s[0].toNat = 46 ∨ s[0].toNat = 45 ∨ s[0].toNat = 95 ∨ (s[0].toNat ≠ 46 ∧ s[0].toNat ≠ 45 ∧ s[0].toNat ≠ 95) by omega) with hx | hx | hx | hx
      case inl | inr.inl | inr.inr.inl =>
        have hxi : (s[0].toNat : Int) = _ := congrArg Int.ofNat hx
        have hg := Lib.hid (show goodN s = false by rw [hG.out]; simp [hx])
        clear hG hci
        go_enter Try.func46, Try.ntmps46
        go_wp2
        go_ret
        exact ⟨ret_bool (by rw [hg.out]), Below.refl _ _⟩
      have hx1 : ¬ (s[0].toNat : Int) = 46 := by omega
      have hx2 : ¬ (s[0].toNat : Int) = 45 := by omega
      have hx3 : ¬ (s[0].toNat : Int) = 95 := by omega
      have hg := Lib.hid (show goodN s = s.data.toList.all nameB by rw [hG.out]; simp [hx.1, hx.2.1, hx.2.2]; omega)
      have e1 : ((s[0].toNat : Int) == 46) = false := by simpa using hx1
      have e2 : ((s[0].toNat : Int) == 45) = false := by simpa using hx2
      have e3 : ((s[0].toNat : Int) == 95) = false := by simpa using hx3
      have e4 : decide ((32 : Int) < s.size) = false := by simp; omega
      clear hG hx
      go_enter Try.func46, Try.ntmps46
      go_wp2
      go_loop [3] (fun i => ∃ j : Nat, j ≤ s.size ∧ i = .int .i64 j ∧ (s.data.toList.take j).all nameB = true) (fun i => s.size - (intOf i).toNat)
      case atStart => exact ⟨0, Nat.zero_le _, rfl, rfl⟩
      case round =>
        obtain ⟨j, hj, rfl, ha⟩ := hrel
        by_cases hlt : j < s.size
        · have hjs : j < s.size := hlt
          have hj0 : (0 : Int) ≤ j := by omega
          have hj1 : (j : Int) < s.size := by omega
          have HA := Lib.hid (show (s.data.toList.take (j + 1)).all nameB = nameB s[j] by rw [all_take (by simpa using hjs), ha]; rfl)
          have HB := Lib.hid (fun (h : nameB s[j] = false) => show s.data.toList.all nameB = false by
            rw [← Bool.not_eq_true, List.all_eq_true]
            intro h2
            have h3 := h2 s[j] (List.getElem_mem (l := s.data.toList) (by simpa using hjs))
            rw [h] at h3; cases h3)
          clear ha
          generalize hcc : s[j] = c at HA HB
          have hcl := c.toNat_lt
          by_cases hb : nameB c = true
          · rcases nameB_yes.1 hb with h1 | h1 | h1 | h1 | h1
            all_goals
              have hi0 : (0 : Int) ≤ (c.toNat : Int) := by omega
              have hi1 : (c.toNat : Int) < 97 ∨ True := .inr trivial
              clear hi1
            · have a1 : ¬ (c.toNat : Int) < 97 := by omega
              have a2 : ¬ (122 : Int) < c.toNat := by omega
              go_wp2
              go_round
              case rel => exact ⟨j + 1, by omega, by go_num, by rw [HA.out, hb]⟩
              case measure => simp [intOf]; omega
            · have a1 : (c.toNat : Int) < 97 := by omega
              have a2 : ¬ (c.toNat : Int) < 48 := by omega
              have a3 : ¬ (57 : Int) < c.toNat := by omega
              go_wp2
              go_round
              case rel => exact ⟨j + 1, by omega, by go_num, by rw [HA.out, hb]⟩
              case measure => simp [intOf]; omega
            all_goals
              have a1 : (c.toNat : Int) = _ := congrArg Int.ofNat h1
              go_wp2
              go_round
              case rel => exact ⟨j + 1, by omega, by go_num, by rw [HA.out, hb]⟩
              case measure => simp [intOf]; omega
          · have hb' : nameB c = false := by simpa using hb
            have hbad : ¬ ((97 ≤ c.toNat ∧ c.toNat ≤ 122) ∨ (48 ≤ c.toNat ∧ c.toNat ≤ 57) ∨ c.toNat = 46 ∨ c.toNat = 45 ∨ c.toNat = 95) := fun h => hb (nameB_yes.2 h)
            have HBB := Lib.hid (HB.out hb')
            have b1 : ¬ (c.toNat : Int) = 46 := by omega
            have b2 : ¬ (c.toNat : Int) = 45 := by omega
            have b3 : ¬ (c.toNat : Int) = 95 := by omega
            have n1 : ((c.toNat : Int) != 46) = true := by rw [bne_iff_ne]; exact b1
            have n2 : ((c.toNat : Int) != 45) = true := by rw [bne_iff_ne]; exact b2
            have n3 : ((c.toNat : Int) != 95) = true := by rw [bne_iff_ne]; exact b3
            rcases (show c.toNat < 48 ∨ (57 < c.toNat ∧ c.toNat < 97) ∨ 122 < c.toNat by omega) with h1 | ⟨h1, h2⟩ | h1
            · have a1 : (c.toNat : Int) < 97 := by omega
              have a2 : (c.toNat : Int) < 48 := by omega
              clear hbad hb hb' HB
              go_wp2
              go_ret
              exact ⟨ret_bool (by rw [hg.out, HBB.out]), (Below.refl _ _)⟩
            · have a1 : (c.toNat : Int) < 97 := by omega
              have a2 : ¬ (c.toNat : Int) < 48 := by omega
              have a3 : (57 : Int) < c.toNat := by omega
              clear hbad hb hb' HB
              go_wp2
              go_ret
              exact ⟨ret_bool (by rw [hg.out, HBB.out]), (Below.refl _ _)⟩
            · have a1 : ¬ (c.toNat : Int) < 97 := by omega
              have a2 : (122 : Int) < c.toNat := by omega
              have a3 : ¬ (c.toNat : Int) < 48 := by omega
              have a4 : (57 : Int) < c.toNat := by omega
              clear hbad hb hb' HB
              go_wp2
              go_ret
              exact ⟨ret_bool (by rw [hg.out, HBB.out]), (Below.refl _ _)⟩
        · have hjn : j = s.size := by omega
          have HT := Lib.hid (show s.data.toList.all nameB = true by rw [List.take_of_length_le (by simp; omega)] at ha; exact ha)
          clear ha
          go_wp2
          go_ret
          exact ⟨ret_bool (by rw [hg.out, HT.out]), (Below.refl _ _)⟩
end Go.Proofs.Ytebeefkibbbkdaa
