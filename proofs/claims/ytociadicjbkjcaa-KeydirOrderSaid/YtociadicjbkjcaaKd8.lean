import Derived.Test.YtociadicjbkjcaaKd7
namespace Go.Proofs.Ytociadicjbkjcaa
open Go.RowKit Go.Maps

/-- The nodes that were there are there. -/
structure NK (w w' : World) : Prop where
  size : w.heap.size ≤ w'.heap.size
  node : ∀ (b : Nat) (cs : Array Value), w.heap[b]? = some (.cells cs 82 (0, 0)) → w'.heap[b]? = some (.cells cs 82 (0, 0))
theorem bal (W : World) (o : Obj) : Below W.heap.size W (W.alloc o) := (Below.refl _ _).alloc (Nat.le_refl _) o
theorem NK.refl (w : World) : NK w w := ⟨Nat.le_refl _, fun _ _ h => h⟩
theorem NK.trans {a b c : World} (h : NK a b) (k : NK b c) : NK a c := ⟨Nat.le_trans h.size k.size, fun i _ hi => k.node i _ (h.node i _ hi)⟩
theorem NK.of_below {w w' : World} (h : Below w.heap.size w w') : NK w w' := ⟨h.size, fun b _ hb => (h.block b (Array.getElem?_eq_some_iff.1 hb).1).trans hb⟩
theorem NK.of_chg {S : Nat → Prop} {w w' : World} (h : Chg S w w') (hS : ∀ k, S k → ∀ cs, w.heap[k]? ≠ some (.cells cs 82 (0, 0))) : NK w w' :=
  ⟨h.size, fun b cs hb => (h.block b (Array.getElem?_eq_some_iff.1 hb).1 fun hs => hS b hs cs hb).trans hb⟩
theorem Tr.nk {w w' : World} (h : NK w w') {B B' : Nat} (hB : B ≤ B') : ∀ {t : Tn} {p : Option Addr}, Tr w B t p → Tr w' B' t p
  | .leaf, _, h => h
  | .node _ _ _ _, _, ⟨b, p1, p2, h1, h2, h3, h4, h5⟩ => ⟨b, p1, p2, h1, by omega, h.node b _ h3, Tr.nk h hB h4, Tr.nk h hB h5⟩
theorem box_not {w : World} {d : Nat} {t : TypeId} {ar : Array Value} (h : Box w d t ar) (ht : t ≠ 82) (cs : Array Value) : w.heap[d]? ≠ some (.cells cs 82 (0, 0)) := by
  unfold Box at h
  rw [h]
  intro e
  injection e with e
  injection e with _ e
  exact ht e

/-! A dir: a box with the tree's root. -/
def DR (w : World) (d : Nat) (xs : List KE) : Prop := ∃ (t : Tn) (p : Option Addr), Box w d 64 #[.pointer p] ∧ Tr w w.heap.size t p ∧ t.flat = xs ∧ Sorted xs ∧ KeysOk xs
section
variable {w w' : World} {d : Nat} {xs : List KE}
theorem DR.sorted (h : DR w d xs) : Sorted xs := let ⟨_, _, _, _, _, h, _⟩ := h; h
theorem DR.keys (h : DR w d xs) : KeysOk xs := let ⟨_, _, _, _, _, _, h⟩ := h; h
theorem DR.lt (h : DR w d xs) : d < w.heap.size := let ⟨_, _, h, _⟩ := h; h.lt
theorem DR.next (h : DR w d xs) (hb : Below w.heap.size w w') : DR w' d xs := let ⟨t, p, h1, h2, h3, h4, h5⟩ := h; ⟨t, p, h1.below hb h1.lt, h2.below hb, h3, h4, h5⟩
/-- Of the blocks that were there only d may have changed. -/
abbrev Dch (d : Nat) (w w' : World) : Prop := Chg (fun k => k = d) w w'
end
theorem DR.not {w : World} {d : Nat} {xs : List KE} (h : DR w d xs) (cs : Array Value) : w.heap[d]? ≠ some (.cells cs 82 (0, 0)) := let ⟨_, _, h, _⟩ := h; box_not h (by decide) cs
/-- Another dir's turn leaves this one. -/
theorem DR.chg {S : Nat → Prop} {w w' : World} {d : Nat} {xs : List KE} (h : DR w d xs) (hc : Chg S w w') (hS : ∀ k, S k → ∀ cs, w.heap[k]? ≠ some (.cells cs 82 (0, 0))) (hd : ¬ S d) : DR w' d xs :=
  let ⟨t, p, h1, h2, h3, h4, h5⟩ := h; ⟨t, p, h1.chg hc hd, h2.nk (NK.of_chg hc hS) hc.size, h3, h4, h5⟩
def entV (o : Option En) : Value := match o with
  | some e => .tuple #[e.v, .bool true]
  | none => .tuple #[En.zero.v, .bool false]

theorem entV_eq (o : Option En) : entV o = .tuple #[(o.getD En.zero).v, .bool o.isSome] := by cases o <;> rfl

set_option maxRecDepth 100000 in
theorem top_any (d : Nat) (p : Option Addr) (w : World) (h : Box w d 64 #[.pointer p]) : Calls Try.prog 38 #[.pointer (some ⟨d, 0, none⟩)] w fun e w' => e = .returned (.pointer p) ∧ w = w' := by
  have h0 : w.cell? ⟨d, 0, none⟩ = some (.pointer p) := h.cell 0
  clear h
  go_enter Try.func38, Try.ntmps38
  go_wp2
  go_ret
  exact ⟨rfl, rfl⟩
set_option maxRecDepth 100000 in
theorem top_nil (w : World) : Calls Try.prog 38 #[.pointer none] w fun e w' => e = .returned (.pointer none) ∧ w = w' := by
  go_enter Try.func38, Try.ntmps38
  go_wp2
  go_ret
  exact ⟨rfl, rfl⟩
set_option maxRecDepth 100000 in
theorem refused_ok (d : Nat) (key : ByteArray) (w : World) (h : 1 ≤ key.size ∧ key.size ≤ 64) : Calls Try.prog 35 #[.pointer (some ⟨d, 0, none⟩), .string key] w fun e w' => e = .returned (.int .i64 0) ∧ w = w' := by
  obtain ⟨h1, h2⟩ := h
  go_enter Try.func35, Try.ntmps35
  go_wp2
  go_ret
  exact ⟨rfl, rfl⟩
set_option maxRecDepth 100000 in
theorem refused_key (d : Nat) (key : ByteArray) (w : World) (h : ¬ (1 ≤ key.size ∧ key.size ≤ 64)) (hm : key.size ≤ maxLen) : Calls Try.prog 35 #[.pointer (some ⟨d, 0, none⟩), .string key] w fun e w' => e = .returned (.int .i64 42) ∧ w = w' := by
  unfold maxLen at hm
  rcases (show key.size < 1 ∨ (1 ≤ key.size ∧ 64 < key.size) by omega) with h1 | ⟨h1, h2⟩
  all_goals
    clear h
    go_enter Try.func35, Try.ntmps35
    go_wp2
    go_ret
    exact ⟨rfl, rfl⟩
set_option maxRecDepth 100000 in
theorem refused_nil (key : ByteArray) (w : World) : Calls Try.prog 35 #[.pointer none, .string key] w fun e w' => e = .returned (.int .i64 1) ∧ w = w' := by
  go_enter Try.func35, Try.ntmps35
  go_wp2
  go_ret
  exact ⟨rfl, rfl⟩

/-- find, for a key of any length. -/
theorem getL_long {key : ByteArray} {xs : List KE} (hk : KeysOk xs) (h : ¬ key.size ≤ 64) : getL key xs = none := get_none.2 fun x hx e => by have := hk x hx; rw [e] at this; omega
theorem FD.none_ {xs : List KE} {key : ByteArray} {w : World} {e : Ending} (h : FD xs key w e) (hg : getL key xs = none) : e = .returned (.pointer none) := by
  rcases h with ⟨_, h⟩ | ⟨en, b, p1, p2, h, _⟩
  · exact h
  · rw [hg] at h; cases h
theorem FD.some_ {xs : List KE} {key : ByteArray} {w : World} {e : Ending} {en : En} (h : FD xs key w e) (hg : getL key xs = some en) : ∃ b p1 p2, e = .returned (.pointer (some ⟨b, 0, none⟩)) ∧ b < w.heap.size ∧ NC w b key en p1 p2 := by
  rcases h with ⟨h, _⟩ | ⟨en', b, p1, p2, h, h2, h3, h4⟩
  · rw [hg] at h; cases h
  · rw [hg] at h; cases h; exact ⟨b, p1, p2, h2, h3, h4⟩
set_option maxRecDepth 100000 in
set_option maxHeartbeats 4000000 in
theorem get_any (d : Nat) (key : ByteArray) (xs : List KE) (w : World) (h : DR w d xs) (hz : key.size ≤ maxLen) :
    Calls Try.prog 14 #[.pointer (some ⟨d, 0, none⟩), .string key] w fun e w' => e = .returned (entV (getL key xs)) ∧ Below w.heap.size w w' := by
  obtain ⟨t, p, h1, h2, rfl, h4, h5⟩ := h
  have hb0 : Below w.heap.size w (w.alloc (.cells #[.int .i64 0, .int .i64 0, .int .i64 0, .int .i64 0, .int .i64 0, .bool false] 26)) := (Below.refl _ _).alloc (Nat.le_refl _) _
  have HX := Lib.hid (Box.new w 26 #[.int .i64 0, .int .i64 0, .int .i64 0, .int .i64 0, .int .i64 0, .bool false])
  have HB := Lib.hid hb0
  have H := Lib.hid (And.intro (h1.below hb0 h1.lt) (And.intro (h2.below hb0) (And.intro h4 h5)))
  clear h1 h2 h4 h5 hb0
  cases hg : getL key t.flat with
  | none =>
    have HG := Lib.hid hg
    clear hg
    go_enter Try.func14, Try.ntmps14
    go_wp2_with (first
      | (go_at_call 38; refine (top_any d p _ H.out.1).mono ?_; rintro e w' ⟨rfl, rfl⟩)
      | (go_at_call 37; refine (find_any t p key _ H.out.2.1 H.out.2.2.1 H.out.2.2.2 hz).mono ?_; rintro e w1 ⟨hf, nq, rfl⟩; obtain rfl := hf.none_ HG.out; clear hf; generalize hW1 : World.drewN _ _ = W1; have hb1 : Below w.heap.size w W1 := (by rw [← hW1]; exact below_drewN HB.out _); have hX1 : Box W1 w.heap.size 26 #[.int .i64 0, .int .i64 0, .int .i64 0, .int .i64 0, .int .i64 0, .bool false] := (by rw [← hW1]; exact HX.out); have hxc := hX1.cell; have hxf := hX1.free; have HB1 := Lib.hid hb1; clear hb1 hX1 hW1))
    refine bodyPost_ret (v := .tuple #[En.zero.v, .bool false]) ?_ rfl ?_
    · simp [results, Try.results14, go_sem, hxc, En.zero]
    refine ⟨rfl, ?_⟩
    repeat (first | with_reducible exact HB1.out | refine Below.setCell ?_ (by simp) _)
  | some en =>
    have HG := Lib.hid hg
    clear hg
    go_enter Try.func14, Try.ntmps14
    go_wp2_with (first
      | (go_at_call 38; refine (top_any d p _ H.out.1).mono ?_; rintro e w' ⟨rfl, rfl⟩)
      | (go_at_call 37; refine (find_any t p key _ H.out.2.1 H.out.2.2.1 H.out.2.2.2 hz).mono ?_; rintro e w1 ⟨hf, nq, rfl⟩; obtain ⟨b, p1, p2, rfl, _, hN⟩ := hf.some_ HG.out; clear hf; generalize hW1 : World.drewN _ _ = W1; have hb1 : Below w.heap.size w W1 := (by rw [← hW1]; exact below_drewN HB.out _); have hX1 : Box W1 w.heap.size 26 #[.int .i64 0, .int .i64 0, .int .i64 0, .int .i64 0, .int .i64 0, .bool false] := (by rw [← hW1]; exact HX.out); have hN1 : NC W1 b key en p1 p2 := (by rw [← hW1]; exact hN); obtain ⟨n0, n1, n2, n3, n4, n5, n6, n8, n9⟩ := hN1; have hxc := hX1.cell; have hxf := hX1.free; have HB1 := Lib.hid hb1; clear hb1 hX1 hW1 hN))
    refine bodyPost_ret (v := .tuple #[en.v, .bool true]) ?_ rfl ?_
    · simp [results, Try.results14, go_sem, hxc]
    refine ⟨rfl, ?_⟩
    repeat (first | with_reducible exact HB1.out | refine Below.setCell ?_ (by simp) _)
end Go.Proofs.Ytociadicjbkjcaa
