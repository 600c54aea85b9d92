import Derived.Test.YtmhlgbpgdhhfnaaGreatV39
import Derived.OrdersHeld
import Derived.RegionTactic
set_option linter.unusedVariables false
set_option linter.unusedSimpArgs false
namespace Go.Proofs.YtmhlgbpgdhhfnaaGreat
open Go.RowKit Go.Maps Go.Shelf Sqz
attribute [local go_sem] Oper.semAt_some

/-! segment.Look -/
theorem marks_end {F : Fence} {n : Nat} {P : Program} {fn : Func} {R : Ending → World → Prop} {tmps : Array Value} {W : World} {D : Nat} {v : Value} (hD : W.heap[D]? = some (.deferred (some [])))
    (hr : (results fn tmps).run P (W.putObj D (.deferred none)) = .ok v (W.putObj D (.deferred none))) (hR : R (.returned v) (W.putObj D (.deferred none))) :
    LeavesInM F n P fn tmps R [{ target := .collected D, args := #[] }] .returning W :=
  ⟨by simp, .inl ⟨D, _, rfl, run_takeDeferred hD, ⟨v, hr, hR⟩⟩⟩
theorem marks_none {F : Fence} {n : Nat} {P : Program} {fn : Func} {R : Ending → World → Prop} {tmps : Array Value} {W : World} {v : Value}
    (hr : (results fn tmps).run P W = .ok v W) (hR : R (.returned v) W) : LeavesInM F n P fn tmps R [] .returning W := ⟨v, hr, hR⟩
theorem bal (W : World) (o : Obj) : Below W.heap.size W (W.alloc o) := (Below.refl _ _).alloc (Nat.le_refl _) o
theorem box_own1 {β : Type} (B b : Nat) (t : TypeId) (ar : Array Value) : OwnFrom B (fun (_ : β) W => Box W b t ar) := fun _ W W' row h hg hr =>
  h.grown hg fun e => by
    obtain ⟨_, o, ho, hc⟩ := hr b e.symm
    unfold Box at h
    rw [h] at ho; cases ho; cases hc
theorem box_ownS {β : Type} (B b : Nat) (t : TypeId) (ar : β → Array Value) : OwnFrom B (fun (s : β) W => Box W b t (ar s)) := fun _ W W' row h hg hr =>
  h.grown hg fun e => by
    obtain ⟨_, o, ho, hc⟩ := hr b e.symm
    unfold Box at h
    rw [h] at ho; cases ho; cases hc
/-- Where the records taken so far end, and the last offset. -/
def endZ (l : List PL) : Int := match l.getLast? with
  | none => 21
  | some x => IntKind.i64.wrap ((x.2.1 : Int) + x.2.2)
def endN (l : List PL) : Nat := match l.getLast? with
  | none => 21
  | some x => x.2.1 + x.2.2
def lastO (l0 : Int) (l : List PL) : Int := match l.getLast? with
  | none => l0
  | some x => x.1.off
theorem endZ_snoc (l : List PL) (x : PL) : endZ (l ++ [x]) = IntKind.i64.wrap ((x.2.1 : Int) + x.2.2) := by unfold endZ; rw [List.getLast?_concat]
theorem lastO_snoc (l0 : Int) (l : List PL) (x : PL) : lastO l0 (l ++ [x]) = x.1.off := by unfold lastO; rw [List.getLast?_concat]
theorem endN_snoc (l : List PL) (x : PL) : endN (l ++ [x]) = x.2.1 + x.2.2 := by unfold endN; rw [List.getLast?_concat]
theorem scan_ends (b : List UInt8) (l0 : Int) : ∀ (f at_ : Nat) (last : Int) (done : List PL), at_ ≤ b.length → endN done = at_ → lastO l0 done = last → done.length ≤ at_ →
    (scan b f at_ last done).1 ≤ b.length ∧ endN (scan b f at_ last done).2.2 = (scan b f at_ last done).1 ∧ lastO l0 (scan b f at_ last done).2.2 = (scan b f at_ last done).2.1 ∧ (scan b f at_ last done).2.2.length ≤ (scan b f at_ last done).1
  | 0, at_, last, done, h1, h2, h3, h4 => ⟨h1, h2, h3, h4⟩
  | f + 1, at_, last, done, h1, h2, h3, h4 => by
    unfold scan
    cases hd : dcd (b.drop at_) with
    | inl e => exact ⟨h1, h2, h3, h4⟩
    | inr rn =>
      obtain ⟨r, n⟩ := rn
      simp only
      by_cases hlo : r.off ≤ last
      · rw [if_pos hlo]; exact ⟨h1, h2, h3, h4⟩
      rw [if_neg hlo]
      obtain ⟨k1, k2, _⟩ := dcd_ok hd
      rw [List.length_drop] at k2
      exact scan_ends b l0 f (at_ + n) r.off (done ++ [(r, at_, n)]) (by omega) (endN_snoc _ _) (lastO_snoc _ _ _) (by rw [List.length_append]; simp only [List.length_singleton]; omega)
theorem endZ_of (l : List PL) (k : Nat) (h : endN l = k) (hk : k ≤ 1000000000) : endZ l = k := by
  unfold endN at h
  unfold endZ
  cases hl : l.getLast? with
  | none => rw [hl] at h; simp only at h ⊢; omega
  | some x =>
    rw [hl] at h
    simp only at h ⊢
    rw [IntWalk.i64_in _ (by omega)]; omega
/-- What the caller keeps between two rounds. -/
def LkI (w : World) (p : Nat) (i : Inf) (pre : List PL) (W : World) : Prop :=
  (∃ v, Boxed W (p + 1) 25 v ∧ W.ownsRow (p + 4) 35 9 v pre.length (pre.flatMap plc) ∧ True) ∧
  Box W p 24 #[.int .i64 i.topic, .int .i64 i.num, .int .i64 i.base, .int .i64 (endZ pre), .int .i64 pre.length, .int .i64 (lastO (i.base - 1) pre), .bool false] ∧
  Box W w.heap.size 24 #[.int .i64 0, .int .i64 0, .int .i64 0, .int .i64 0, .int .i64 0, .int .i64 0, .bool false] ∧ Box W (w.heap.size + 1) 28 #[.int .i64 0, .int .i64 0] ∧ Below w.heap.size w W
theorem LkI.own (w : World) (p : Nat) (i : Inf) (B : Nat) (hB : w.heap.size ≤ B) : OwnFrom B (LkI w p i) :=
  OwnFrom.and (Own.from (holdsRow_own (p + 4) (p + 1) 25 35 9 (fun pre : List PL => pre.length) (fun pre : List PL => pre.flatMap plc) (fun _ _ => True)) _)
    (OwnFrom.and (box_ownS _ _ _ _) (OwnFrom.and (box_ownS _ _ _ _) (OwnFrom.and (box_ownS _ _ _ _) (ownFrom_below (Nat.le_refl _) hB))))
theorem LkI.chg {w : World} {p : Nat} {i : Inf} {pre : List PL} {W W' : World} (h : LkI w p i pre W) (hp : w.heap.size + 1 < p) (hc : Chg (fun k => k = p + 3) W W') : LkI w p i pre W' := by
  obtain ⟨⟨v, h1, h2, _⟩, h3, h4, h5, h6⟩ := h
  refine ⟨⟨v, (hc.block _ h1.lt (by omega)).trans h1, ownsRow_block h2 fun k hk => hc.block k (h2.lt k hk).2 fun e => ?_, trivial⟩, h3.chg hc (by omega), h4.chg hc (by omega), h5.chg hc (by omega), h6.trans (hc.below h6.size fun k hk => by omega)⟩
  have := (h2.lt k hk).1
  omega
theorem kpr_b {B : Nat} {w : World} (hn : B ≤ w.heap.size) (W : World) (l : Nat) (o o' : Obj) (hl : w.heap.size ≤ l) (h : W.heap[l]? = some o) (hc : o.isCells = false) : KpR B W (W.putObj l o') :=
  ⟨(Below.refl B W).grown (grownBy_putObj' W l o') (by have := (Array.getElem?_eq_some_iff.1 h).1; omega) (fun k e => by cases e; omega), fun b cs t _ hb => by
    have hne : b ≠ l := fun e => by subst e; rw [h] at hb; cases hb; cases hc
    exact (World.putObj_heap_other hne).trans hb⟩
end Go.Proofs.YtmhlgbpgdhhfnaaGreat
namespace Go.Proofs.YtmhlgbpgdhhfnaaGreat
open Go.RowKit Go.Maps Go.Shelf Sqz

theorem keeps_of {B : Nat} {S : Nat → Prop} {W W' : World} (hc : Chg S W W') (hS : ∀ k, S k → ∃ cs t fr, W.heap[k]? = some (.cells cs t fr)) : KeepsFrom B W W' :=
  ⟨hc.size, fun k o _ h1 h2 => (hc.block k (Array.getElem?_eq_some_iff.1 h1).1 (fun hs => by
    obtain ⟨cs, t, fr, e⟩ := hS k hs
    rw [e] at h1
    cases h1
    cases h2)).trans h1⟩
theorem kpr_of {B : Nat} {S : Nat → Prop} {W W' : World} (hB : B ≤ W.heap.size) (hc : Chg S W W') (hS : ∀ k, S k → B ≤ k ∧ ∀ cs t, KpT t → W.heap[k]? ≠ some (.cells cs t (0, 0))) : KpR B W W' :=
  ⟨hc.below hB fun k hk => (hS k hk).1, fun b cs t ht hb => (hc.block b (Array.getElem?_eq_some_iff.1 hb).1 fun hs => (hS b hs).2 cs t ht hb).trans hb⟩
theorem row_block {W : World} {base : Nat} {e : TypeId} {size : Nat} {v : Value} {n k : Nat} {xs : List Value} (h : W.ownsRow base e size v n xs) (hk : v.ownBlock = some k) : ∃ cs, W.heap[k]? = some (.cells cs e (0, 0)) := by
  rcases h.2 with ⟨rfl, _⟩ | ⟨g, cap, cur, rfl, _, hh, _⟩
  · cases hk
  have e1 : g = k := by simpa [Value.ownBlock] using hk
  subst e1
  exact ⟨_, hh⟩
/-- A round's body: another record taken. -/
theorem lk_push {w W W1 w8 : World} {p : Nat} {i : Inf} {pre : List PL} {x : PL} {v v' : Value} {s : Int} (hb : Below W.heap.size W W1) (hp : w.heap.size + 1 < p) (hv : Boxed W (p + 1) 25 v) (hr : W.ownsRow (p + 4) 35 9 v pre.length (pre.flatMap plc))
    (h3 : Box W p 24 #[.int .i64 i.topic, .int .i64 i.num, .int .i64 i.base, .int .i64 (endZ pre), .int .i64 pre.length, .int .i64 (lastO (i.base - 1) pre), .bool false])
    (h4 : Box W w.heap.size 24 #[.int .i64 0, .int .i64 0, .int .i64 0, .int .i64 0, .int .i64 0, .int .i64 0, .bool false]) (h5 : Box W (w.heap.size + 1) 28 #[.int .i64 0, .int .i64 0]) (h6 : Below w.heap.size w W)
    (ho : w8.ownsRow (p + 4) 35 9 v' (pre.length + 1) (pre.flatMap plc ++ plc x)) (hg : W1.grownBy w8 v.ownBlock) (hs : IntKind.i64.wrap ((x.2.1 : Int) + x.2.2) = s) :
    LkI w p i (pre ++ [x]) ((((w8.setCell ⟨p + 1, 0, none⟩ v').setCell ⟨p, 3, none⟩ (.int .i64 s)).setCell ⟨p, 4, none⟩ (.int .i64 ((pre.length : Int) + 1))).setCell ⟨p, 5, none⟩ (.int .i64 x.1.off)) ∧
    Chg (fun k => k = p ∨ k = p + 1 ∨ some k = v.ownBlock) W ((((w8.setCell ⟨p + 1, 0, none⟩ v').setCell ⟨p, 3, none⟩ (.int .i64 s)).setCell ⟨p, 4, none⟩ (.int .i64 ((pre.length : Int) + 1))).setCell ⟨p, 5, none⟩ (.int .i64 x.1.off)) := by
  have hne : ∀ k, v.ownBlock = some k → p + 4 ≤ k ∧ k < W.heap.size := fun k hk => hr.lt k hk
  have c1 : Chg (fun k => k = p ∨ k = p + 1 ∨ some k = v.ownBlock) W w8 := (Chg.of_below hb _).trans ((Chg.of_grown hg).mono fun k _ hk => .inr (.inr hk))
  have hC : Chg (fun k => k = p ∨ k = p + 1) w8 ((((w8.setCell ⟨p + 1, 0, none⟩ v').setCell ⟨p, 3, none⟩ (.int .i64 s)).setCell ⟨p, 4, none⟩ (.int .i64 ((pre.length : Int) + 1))).setCell ⟨p, 5, none⟩ (.int .i64 x.1.off)) :=
    Chg.setCell (S := fun k => k = p ∨ k = p + 1) (p := ⟨p, 5, none⟩) (Chg.setCell (S := fun k => k = p ∨ k = p + 1) (p := ⟨p, 4, none⟩) (Chg.setCell (S := fun k => k = p ∨ k = p + 1) (p := ⟨p, 3, none⟩) (Chg.setCell (S := fun k => k = p ∨ k = p + 1) (p := ⟨p + 1, 0, none⟩) (Chg.refl _ w8) (.inl (.inr rfl)) _) (.inl (.inl rfl)) _) (.inl (.inl rfl)) _) (.inl (.inl rfl)) _
  have hp1 := hv.lt
  have hp0 := h3.lt
  have cB : ∀ {k : Nat} {t : TypeId} {ar : Array Value}, k < p + 4 → Box W k t ar → Box w8 k t ar := fun {k t ar} hk h => (h.below hb h.lt).grown hg fun e => by have := (hne _ e.symm).1; omega
  have b3 := cB (by omega) h3
  have b1 : Box w8 (p + 1) 25 #[v] := cB (by omega) hv
  have b4 := cB (by omega) h4
  have b5 := cB (by omega) h5
  have e6 : Below w.heap.size w w8 := (h6.trans (hb.mono h6.size)).grown hg (Nat.le_trans h6.size hb.size) fun j e => by have := (hne _ e).1; omega
  refine ⟨⟨⟨v', ?_, ?_, trivial⟩, ?_, b4.chg hC (by omega), b5.chg hC (by omega), e6.trans (hC.below e6.size fun k hk => by omega)⟩, ?_⟩
  · have h := (((b1.set_ 0 v').far (p := ⟨p, 3, none⟩) (by show p + 1 ≠ p; omega) (.int .i64 s)).far (p := ⟨p, 4, none⟩) (by show p + 1 ≠ p; omega) (.int .i64 ((pre.length : Int) + 1))).far (p := ⟨p, 5, none⟩) (by show p + 1 ≠ p; omega) (.int .i64 x.1.off)
    exact h
  · have e : (pre ++ [x]).flatMap plc = pre.flatMap plc ++ plc x := by simp
    rw [e, List.length_append]
    refine ownsRow_block ho fun k hk => hC.block k (ho.lt k hk).2 fun e => ?_
    have := (ho.lt k hk).1
    omega
  · have h := (((b3.far (p := ⟨p + 1, 0, none⟩) (by show p ≠ p + 1; omega) v').set_ 3 (.int .i64 s)).set_ 4 (.int .i64 ((pre.length : Int) + 1))).set_ 5 (.int .i64 x.1.off)
    rw [endZ_snoc, lastO_snoc, hs]
    simpa using h
  exact c1.trans (hC.mono fun k _ hk => by rcases hk with hk | hk; exact .inl hk; exact .inr (.inl hk))
/-- Behind the range: what Look's end needs. -/
structure LkT (w W : World) (p D : Nat) (cs : Array Value) (u : Value) (done : List PL) : Prop where
  hv : Box W (p + 1) 25 #[u]
  row : W.ownsRow (p + 4) 35 9 u done.length (done.flatMap plc)
  box : Box W p 24 cs
  z2 : Box W w.heap.size 24 #[.int .i64 0, .int .i64 0, .int .i64 0, .int .i64 0, .int .i64 0, .int .i64 0, .bool false]
  z4 : Box W (w.heap.size + 1) 28 #[.int .i64 0, .int .i64 0]
  bel : Below w.heap.size w W
  dk : W.heap[D]? = some (.deferred (some []))
  hp : w.heap.size + 1 < p
  hD : p + 4 ≤ D
section
variable {w W W' : World} {p D : Nat} {cs : Array Value} {u : Value} {done : List PL}
theorem LkT.on (h : LkT w W p D cs u done) (hb : Below W.heap.size W W') : LkT w W' p D cs u done :=
  ⟨h.hv.below hb h.hv.lt, ownsRow_below h.row hb, h.box.below hb h.box.lt, h.z2.below hb h.z2.lt, h.z4.below hb h.z4.lt, h.bel.trans (hb.mono h.bel.size), (hb.block D (Array.getElem?_eq_some_iff.1 h.dk).1).trans h.dk, h.hp, h.hD⟩
theorem LkT.set_ (h : LkT w W p D cs u done) (i : Nat) (v : Value) : LkT w (W.setCell ⟨p, i, none⟩ v) p D (cs.setIfInBounds i v) u done := by
  have hC : Chg (fun k => k = p) W (W.setCell ⟨p, i, none⟩ v) := Chg.setCell (S := fun k => k = p) (p := ⟨p, i, none⟩) (Chg.refl _ W) (.inl rfl) _
  have hp := h.hp
  have hD := h.hD
  refine ⟨h.hv.chg hC (by omega), ownsRow_block h.row fun k hk => hC.block k (h.row.lt k hk).2 fun e => ?_, h.box.set_ i v, h.z2.chg hC (by omega), h.z4.chg hC (by omega), h.bel.trans (hC.below h.bel.size fun k hk => by omega), (hC.block D (Array.getElem?_eq_some_iff.1 h.dk).1 (by omega)).trans h.dk, hp, hD⟩
  have := (h.row.lt k hk).1
  omega
/-- The very end: the mark is taken. -/
theorem LkT.end_ (h : LkT w W p D cs u done) (hC : Chg (fun k => w.heap.size ≤ k ∧ k ≤ p + 3) W W') : W'.heap[D]? = some (.deferred (some [])) ∧ (W'.putObj D (.deferred none)).ownsRow w.heap.size 35 9 u done.length (done.flatMap plc) ∧ Below w.heap.size w (W'.putObj D (.deferred none)) := by
  have hp := h.hp
  have hD := h.hD
  have hd : W'.heap[D]? = some (.deferred (some [])) := (hC.block D (Array.getElem?_eq_some_iff.1 h.dk).1 (by omega)).trans h.dk
  have hb : Below w.heap.size w W' := h.bel.trans (hC.below h.bel.size fun k hk => hk.1)
  have hr : W'.ownsRow w.heap.size 35 9 u done.length (done.flatMap plc) := by
    refine ownsRow_le (ownsRow_block h.row fun k hk => hC.block k (h.row.lt k hk).2 fun e => ?_) (by omega)
    have := (h.row.lt k hk).1
    omega
  refine ⟨hd, ownsRow_putObj hr _ hd rfl, hb.trans ((Below.refl _ W').grown (grownBy_putObj' W' D (.deferred none)) hb.size fun k e => by cases e; omega)⟩
end
theorem put_cell {W : World} {D : Nat} (h : W.heap[D]? = some (.deferred (some []))) (a : Addr) : (W.putObj D (.deferred none)).cell? a = W.cell? a := by
  by_cases e : a.block = D
  · unfold World.cell?
    rw [e, h, World.putObj_heap_same (Array.getElem?_eq_some_iff.1 h).1]
  exact cell_of_block (World.putObj_heap_other e)
/-! regions that draw, with a condition on the world -/
section
variable {P : Program} {md : Region.Mode} {ops : Array Oper} {Q : Exit → Act → World → Prop} {S : World → Prop}
/-- A region that comes to its end, whatever is asked of a panic. -/
def safeQ (Q : Exit → Act → World → Prop) : Exit → Act → World → Prop := fun e a w => match e with
  | .normal => Q .normal a w
  | _ => False
theorem safe_wp {c : Code} {a : Act} {w : World} (h : c.wp P (safeQ Q) a w) : c.wp P Q a w := Code.wp_mono (fun e a w h => by
  cases e
  case normal => exact h
  all_goals exact h.elim) h
theorem HT.start {id : Nat} {a : Act} {w : World} (S : World → Prop) (hm : P.follows .mixedOrders = true) (h : wpAnyH P .any ops Q S ops.size (Array.replicate ops.size false) a w.drew) : (Code.region id ops true).wp P Q a w := wp_region_held hm h
theorem HT.done {f : Nat} {done : Array Bool} {a : Act} {w : World} (hr : Region.ready md ops done = []) (h : Q .normal a w) : wpAnyH P md ops Q S f done a w := wpAnyH_done hr h f
theorem HT.take (i : Nat) {oi : Oper} {v : Value} {f : Nat} {done : Array Bool} {a : Act} {w : World} (hi' : ops.toList[i]? = some oi) (hs : Region.noSelect ops = true) (hf : Region.free md ops done i = true) (hr : (Region.ready md ops done).contains i = true)
    (hQ : ∀ c a w, Q (.panic c) (a.put oi.dst v) w → Q (.panic c) a w) (hy : YieldsIf P ops S oi v a) (hS : S w)
    (h : wpAnyH P md ops Q S f (done.setIfInBounds i true) (a.put oi.dst v) w) : wpAnyH P md ops Q S (f + 1) done a w :=
  have hi : ops[i]? = some oi := by rw [← hi', Array.getElem?_toList]
  wpAnyH_take hi hs hf hr hQ hy hS h
theorem HT.step (i : Nat) {o : Oper} {f : Nat} {done : Array Bool} {a : Act} {w : World} (ho' : ops.toList[i]? = some o) (hr : Region.ready md ops done = [i])
    (h : ∀ K : Act → World → Prop, Hid (∀ a w, S w → wpAnyH P md ops Q S f (done.setIfInBounds i true) a w → K a w) → if Region.wanted o (yielded ops a.tmps) = true then Oper.wp P o a w K Q else K (a.put o.dst undef) w) : wpAnyH P md ops Q S (f + 1) done a w := by
  have ho : ops[i]? = some o := by rw [← ho', Array.getElem?_toList]
  refine ⟨fun e => (by rw [hr] at e; cases e), fun j hj => ?_⟩
  rw [hr] at hj
  obtain rfl : j = i := by simpa using hj
  exact wpOp_step ho fun K hK => h K (Lib.hid fun a w h1 h2 => hK a w ⟨h1, h2⟩)
end
end Go.Proofs.YtmhlgbpgdhhfnaaGreat
