import Derived.Test.YtociadicjbkjcaaKd35
import Derived.Test.YtociadicjbkjcaaKd18
import Derived.Test.YtociadicjbkjcaaDrw
/- KeydirOrder: two rows that grow side by side in two cells; plain facts on ranks, places and ranges. -/
namespace Go.Proofs.Ytociadicjbkjcaa
open Go.RowKit Go.Maps Go.Shelf

theorem wpListIn_app {F : Fence} {n : Nat} {P : Program} (w : World) {ops : Array Oper} {rest : List Oper} {o : Oper} {a : Act} {Q : Exit → Act → World → Prop}
    (hg : o.guard = none) (s x : Operand) (t : TypeId) (hop : o.op = Op.call { callee := Callee.builtin Builtin.append, args := #[s, x], argTypes := #[t, t] })
    (base : Nat) (e : TypeId) (i : TypeInfo) (z : Value) (size bytes : Nat) (ht : P.underlying t = some (.slice e)) (hi : P.info? e = some i) (hz : i.zero = some z)
    (hsize : i.size = size) (hby : i.bytes = bytes) (hzs : z.cells.size = size) (hsz : 0 < size)
    (v : Value) (k : Nat) (xs : List Value) (hs : a.eval s = v) (hown : w.ownsRow base e size v k xs)
    (B : Nat) (A : Option Addr) (m c : Nat) (news : List Value) (hx : a.eval x = .slice A m c) (hl : news.length = m * size) (hr : Rd w B A news) (h1 : ∀ u ∈ news, u.oneCell' = true)
    (h63 : k + m ≤ maxLen) (hbytes : (k + m) * bytes ≤ 140737488355328) (hbase : base ≤ w.heap.size)
    (h : ∀ v' w', w'.ownsRow base e size v' (k + m) (xs ++ news) → w.grownBy w' v.ownBlock → (v'.ownBlock = v.ownBlock ∨ v'.ownBlock = some w.heap.size) → wpListIn F n P ops Q rest (a.put o.dst v') w') :
    wpListIn F n P ops Q (o :: rest) a w := by
  refine wpListIn_plain hg fun K hK' => ?_
  obtain ⟨v', w', hrun, r1, r2, r3⟩ := run_app (P := P) w base t o.type e i z size bytes ht hi hz hsize hby hzs hsz v k xs hown B A m c news hl hr h1 h63 hbytes hbase
  unfold Oper.wpIn
  refine ⟨?_, ?_⟩
  · simp [Oper.about, hop, resolve, Target.leads, Sem.run_pure]
  · rw [Oper.semAt_plain F _ _ (by rw [hop]; intro c hc'; cases hc')]
    simp [execOp, hop, resolve, invoke, builtin, hs, hx, hrun, Result.andThen]
    exact hK' _ _ (h v' w' r1 r2 r3)

theorem step_app {P : Program} {w : World} {o : Oper} {a : Act} {K : Act → World → Prop} {Q : Exit → Act → World → Prop} (s x : Operand) (t : TypeId)
    (hop : o.op = Op.call { callee := Callee.builtin Builtin.append, args := #[s, x], argTypes := #[t, t] })
    (base : Nat) (e : TypeId) (i : TypeInfo) (z : Value) (size bytes : Nat) (ht : P.underlying t = some (.slice e)) (hi : P.info? e = some i) (hz : i.zero = some z)
    (hsize : i.size = size) (hby : i.bytes = bytes) (hzs : z.cells.size = size) (hsz : 0 < size)
    (v : Value) (k : Nat) (xs : List Value) (hs : a.eval s = v) (hown : w.ownsRow base e size v k xs)
    (B : Nat) (A : Option Addr) (m c : Nat) (news : List Value) (hx : a.eval x = .slice A m c) (hl : news.length = m * size) (hr : Rd w B A news) (h1 : ∀ u ∈ news, u.oneCell' = true)
    (h63 : k + m ≤ maxLen) (hbytes : (k + m) * bytes ≤ 140737488355328) (hbase : base ≤ w.heap.size)
    (h : ∀ v' w', w'.ownsRow base e size v' (k + m) (xs ++ news) → w.grownBy w' v.ownBlock → (v'.ownBlock = v.ownBlock ∨ v'.ownBlock = some w.heap.size) → K (a.put o.dst v') w') :
    Oper.wp P o a w K Q := by
  obtain ⟨v', w', hrun, r1, r2, r3⟩ := run_app (P := P) w base t o.type e i z size bytes ht hi hz hsize hby hzs hsz v k xs hown B A m c news hl hr h1 h63 hbytes hbase
  unfold Oper.wp execOp
  simp only [hop, resolve, invoke, builtin, Sem.run_bind, Sem.run_pure, Result.andThen_ok, List.map_toArray, List.map_cons, List.map_nil, hs, hx, hrun]
  exact h _ _ r1 r2 r3

/-- What is asked where nothing but going on is let by. -/
def QN (Q : Exit → Act → World → Prop) : Exit → Act → World → Prop
  | .normal, a, w => Q .normal a w
  | _, _, _ => False
theorem qn_mono {Q : Exit → Act → World → Prop} : ∀ e a w, QN Q e a w → Q e a w := fun e a w h => by
  cases e with
  | normal => exact h
  | _ => exact h.elim
theorem qn_panic {Q : Exit → Act → World → Prop} {f : Act → Act} : ∀ c a w, QN Q (.panic c) (f a) w → QN Q (.panic c) a w := fun _ _ _ h => h
theorem qn_in {Q : Exit → Act → World → Prop} {a : Act} {w : World} (h : Q .normal a w) : QN Q .normal a w := h

/-- Two rows of entries, each held by a cell of its own. -/
structure TR2 (B c1 c2 : Nat) (v1 v2 : Value) (xs ys : List KE) (W : World) : Prop where
  b1 : Boxed W c1 24 v1
  b2 : Boxed W c2 24 v2
  r1 : W.ownsRow B 28 7 v1 xs.length (xs.flatMap keC)
  r2 : W.ownsRow B 28 7 v2 ys.length (ys.flatMap keC)
  far : v1.ownBlock = none ∨ v1.ownBlock ≠ v2.ownBlock
section
variable {B c1 c2 : Nat} {v1 v2 : Value} {xs ys : List KE} {W : World}
theorem TR2.swap (h : TR2 B c1 c2 v1 v2 xs ys W) : TR2 B c2 c1 v2 v1 ys xs W := ⟨h.b2, h.b1, h.r2, h.r1, by
  rcases h.far with e | e
  · cases h2 : v2.ownBlock with
    | none => exact .inl rfl
    | some j => exact .inr (by rw [e]; simp)
  · exact .inr fun e2 => e e2.symm⟩
theorem ne_ke : 24 ≠ 28 := by decide
theorem TR2.grow (h : TR2 B c1 c2 v1 v2 xs ys W) (hc : c1 ≠ c2) (hB1 : B ≤ c1) (hBW : B ≤ W.heap.size) {o : Obj} {w1 : World} {v' : Value} {x : KE} {m : Nat} {zs : List Value}
    (hown : w1.ownsRow B 28 7 v' m zs) (hm : m = xs.length + 1) (hzs : zs = xs.flatMap keC ++ keC x) (hgr : (W.alloc o).grownBy w1 v1.ownBlock) (hor : v'.ownBlock = v1.ownBlock ∨ v'.ownBlock = some (W.alloc o).heap.size) :
    Boxed w1 c1 24 v1 ∧ TR2 B c1 c2 v' v2 (xs ++ [x]) ys (w1.setCell ⟨c1, 0, none⟩ v') ∧ Below B W (w1.setCell ⟨c1, 0, none⟩ v') := by
  subst hm hzs
  have k1 : Boxed w1 c1 24 v1 := (h.b1.alloc o).kept hgr (h.b1.not_row ne_ke h.r1)
  have k2 : Boxed w1 c2 24 v2 := (h.b2.alloc o).kept hgr (h.b2.not_row ne_ke h.r1)
  have q2 : w1.ownsRow B 28 7 v2 ys.length (ys.flatMap keC) := (h.r2.alloc o).kept hgr (by
    rcases h.swap.far with e | e
    · exact .inl e
    · exact .inr e)
  refine ⟨k1, ⟨k1.set v', k2.other (fun e => hc e.symm) v', ?_, q2.kept (grownBy_setCell' w1 c1 v') (.inr (k1.not_row ne_ke q2).symm), ?_⟩, ?_⟩
  · have := hown.kept (grownBy_setCell' w1 c1 v') (.inr (k1.not_row ne_ke hown).symm)
    rw [List.flatMap_append, List.flatMap_singleton, List.length_append, List.length_singleton]
    exact this
  · rcases hor with e | e
    · rw [e]; exact h.far
    · right
      rw [e]
      intro e2
      have := (h.r2.lt _ e2.symm).2
      simp at this
      omega
  · refine (((Below.refl B W).alloc hBW o).grown hgr (by simp; omega) (fun k e => (h.r1.lt k e).1)).setCell (p := ⟨c1, 0, none⟩) hB1 _
theorem TR2.start (w : World) (B : Nat) (_ : B ≤ w.heap.size) : TR2 B w.heap.size (w.heap.size + 1) (.slice none 0 0) (.slice none 0 0) [] [] ((w.alloc (.cells #[.slice none 0 0] 24)).alloc (.cells #[.slice none 0 0] 24)) := by
  have b := Boxed.new (w.alloc (.cells #[.slice none 0 0] 24)) 24 (.slice none 0 0)
  rw [World.size_alloc] at b
  exact ⟨(Boxed.new w _ _).alloc _, b, World.ownsRow_nil _ _ _ _, World.ownsRow_nil _ _ _ _, .inl rfl⟩
theorem own_none (v : Value) : v.ownBlock = none ∨ v.ownBlock ≠ none := Classical.em _
theorem TR2.kept {W' : World} (h : TR2 B c1 c2 v1 v2 xs ys W) (hg : W.grownBy W' none) : TR2 B c1 c2 v1 v2 xs ys W' := ⟨h.b1.kept hg (by simp), h.b2.kept hg (by simp), h.r1.kept hg (own_none _), h.r2.kept hg (own_none _), h.far⟩
end

theorem sel_whole (xs : List KE) : sel ⟨#[]⟩ ⟨#[]⟩ xs = xs := by
  unfold sel
  refine filter_all fun x _ => ?_
  unfold inR
  have h1 : kc x.1 ⟨#[]⟩ ≠ -1 := by
    unfold kc
    show cmpB x.1.data.toList [] ≠ -1
    cases x.1.data.toList <;> simp [cmpB]
  simp [h1]
  rfl
theorem split_at (xs : List KE) (i : Nat) (h : i < xs.length) : xs = xs.take i ++ xs[i] :: xs.drop (i + 1) := by rw [← List.drop_eq_getElem_cons h, List.take_append_drop]
theorem rank_at {xs : List KE} (hs : Sorted xs) (i : Nat) (h : i < xs.length) : (lo xs[i].1 xs).length = i := by
  have e := split_at xs i h
  generalize hx : xs[i] = x at e
  obtain ⟨k, en⟩ := x
  have hs2 : Sorted (xs.take i ++ (k, en) :: xs.drop (i + 1)) := by rw [← e]; exact hs
  have := (lo_same hs2).1
  rw [← e] at this
  show (lo k xs).length = i
  rw [this, List.length_take]
  omega
theorem rank_of {xs : List KE} (hs : Sorted xs) {k : ByteArray} {en : En} (h : (k, en) ∈ xs) : ∃ hi : (lo k xs).length < xs.length, xs[(lo k xs).length].1 = k := by
  obtain ⟨i, hi, e⟩ := List.getElem_of_mem h
  have hr := rank_at hs i hi
  rw [e] at hr
  have hr' : (lo k xs).length = i := hr
  refine ⟨by omega, ?_⟩
  simp only [hr', e]
theorem sorted_at {xs : List KE} (hs : Sorted xs) (i : Nat) (h : i + 1 < xs.length) : kc (xs[i]'(by omega)).1 xs[i + 1].1 = -1 := List.pairwise_iff_getElem.1 hs i (i + 1) (by omega) h (by omega)
theorem lastL_has {key : ByteArray} {l : List KE} {x : KE} (h : x ∈ l) (hk : x.1 = key) : ∃ e, lastL key l = some e := by
  unfold lastL
  cases hf : l.reverse.find? (fun x => decide (x.1 = key)) with
  | none =>
    have := List.find?_eq_none.1 hf x (by simpa using h)
    simp [hk] at this
  | some y => exact ⟨y.2, rfl⟩
/-- A key of the items that may be one is among what was laid. -/
theorem build_has {l : List KE} {x : KE} (h : x ∈ l) (hg : goodB x.1 = true) : ∃ en, (x.1, en) ∈ build l := by
  obtain ⟨e, he⟩ := lastL_has h rfl
  have hs : Sorted (build l) := by have := (build_get x.1 l l.length (Nat.le_refl _)).1; rwa [List.take_length] at this
  refine ⟨e, (get_mem hs).1 ?_⟩
  rw [getL_build]
  unfold lastB
  rw [if_pos hg, he]
theorem pre_iff (p : ByteArray) (x : KE) : preB p x = true ↔ p.size ≤ x.1.size ∧ x.1.extract 0 p.size = p := by
  unfold preB
  have hp : p.data.toList.length = p.size := by simp
  have hx : x.1.data.toList.length = x.1.size := by simp
  rw [List.isPrefixOf_iff_prefix, List.prefix_iff_eq_take]
  constructor
  · intro h
    have h1 := congrArg List.length h
    rw [List.length_take] at h1
    refine ⟨by omega, ?_⟩
    apply WideShapes.bytes_inj
    rw [h]
    simp [hp]
  · rintro ⟨h1, h2⟩
    have := congrArg (fun b : ByteArray => b.data.toList) h2
    simp at this
    rw [← this]
    simp
end Go.Proofs.Ytociadicjbkjcaa
