import Derived.Test.YtociadicjbkjcaaKd9
import Derived.RangeFuncNested
import Derived.RangeFuncBound
import Derived.RangeFuncCalls
import Derived.RangeFuncLeaves
import Derived.Shelf.Abstract
import Derived.Shelf.RegionOpen
import Derived.OwnWalkIn
import Derived.TacticsInMore
import Derived.LoopNIn
import Derived.LoopIn
import Derived.RangeFuncBox
import Derived.Stop.RegionWithIn
import Derived.Sort.QuietIn
import Derived.Sort.CutIn
import Derived.Test.YtociadicjbkjcaaStl
namespace Go.Proofs.Ytociadicjbkjcaa
open Go.RowKit Go.Maps Go.Shelf
attribute [local go_sem] Oper.semAt_some

/-! All: the walk over the tree, handing each entry to the round. -/
def inR (lo hi : ByteArray) (x : KE) : Bool := decide (kc x.1 lo ≠ -1) && (decide (hi.size = 0) || decide (kc x.1 hi = -1))
def sel (lo hi : ByteArray) (xs : List KE) : List KE := xs.filter (inR lo hi)
/-- What a round that goes on keeps: nodes, texts, functions. -/
def KpT (t : TypeId) : Prop := t = 82 ∨ t = 9 ∨ t = 85 ∨ t = 86 ∨ t = 29
structure Kp (W W' : World) : Prop where
  size : W.heap.size ≤ W'.heap.size
  cells : ∀ (b : Nat) (cs : Array Value) (t : TypeId), KpT t → W.heap[b]? = some (.cells cs t (0, 0)) → W'.heap[b]? = some (.cells cs t (0, 0))
theorem Kp.refl (W : World) : Kp W W := ⟨Nat.le_refl _, fun _ _ _ _ h => h⟩
theorem Kp.trans {A B C : World} (h : Kp A B) (k : Kp B C) : Kp A C := ⟨Nat.le_trans h.size k.size, fun b cs t ht hb => k.cells b cs t ht (h.cells b cs t ht hb)⟩
theorem Kp.of_below {W W' : World} (h : Below W.heap.size W W') : Kp W W' := ⟨h.size, fun b _ _ _ hb => (h.block b (Array.getElem?_eq_some_iff.1 hb).1).trans hb⟩
theorem Kp.drewN {W W' : World} (h : Kp W W') (n : Nat) : Kp W (W'.drewN n) := ⟨h.size, h.cells⟩
theorem Kp.drew {W W' : World} (h : Kp W W') : Kp W W'.drew := ⟨h.size, h.cells⟩
theorem Kp.nk {W W' : World} (h : Kp W W') : NK W W' := ⟨h.size, fun b cs hb => h.cells b cs _ (.inl rfl) hb⟩
theorem Kp.box {W W' : World} {b : Nat} {t : TypeId} {ar : Array Value} (h : Kp W W') (ht : KpT t) (hb : Box W b t ar) : Box W' b t ar := h.cells b ar t ht hb

/-- What the walk's function value has caught. -/
structure WE (W : World) (lob hib wkb yb : Nat) (lo hi : ByteArray) (l : Nat) : Prop where
  lo : Box W lob 9 #[.string lo]
  hi : Box W hib 9 #[.string hi]
  wk : Box W wkb 86 #[.func (.func 43) #[] #[.pointer (some ⟨lob, 0, none⟩), .pointer (some ⟨hib, 0, none⟩), .pointer (some ⟨wkb, 0, none⟩), .pointer (some ⟨yb, 0, none⟩)]]
  y : Box W yb 85 #[.func (.yield l) #[] #[]]
theorem WE.kp {W W' : World} {lob hib wkb yb : Nat} {lo hi : ByteArray} {l : Nat} (h : WE W lob hib wkb yb lo hi l) (k : Kp W W') : WE W' lob hib wkb yb lo hi l :=
  ⟨k.box (.inr (.inl rfl)) h.lo, k.box (.inr (.inl rfl)) h.hi, k.box (.inr (.inr (.inr (.inl rfl)))) h.wk, k.box (.inr (.inr (.inl rfl))) h.y⟩
def encK (x : KE) : Array Value := #[.string x.1, x.2.v]
/-- What the walk answers of the list ys behind pre. -/
def WR (J Jx : List KE → World → Prop) (pre ys : List KE) (W : World) (bb : Bool) (W' : World) : Prop :=
  (bb = true ∧ J (pre ++ ys) W' ∧ Kp W W') ∨ (bb = false ∧ ∃ q, q <+: ys ∧ Jx (pre ++ q) W')
theorem grown_drewN1 (w : World) (n : Nat) : w.grownBy (w.drewN n) none := ⟨rfl, rfl, rfl, Nat.le_refl _, fun _ _ _ => rfl⟩
theorem grown_drew1 (w : World) : w.grownBy w.drew none := ⟨rfl, rfl, rfl, Nat.le_refl _, fun _ _ _ => rfl⟩
theorem grown_below {w w' : World} (h : w.grownBy w' none) : Below w.heap.size w w' := (Below.refl _ w).grown h (Nat.le_refl _) (fun k e => by cases e)
theorem sel_app (lo hi : ByteArray) (a b : List KE) : sel lo hi (a ++ b) = sel lo hi a ++ sel lo hi b := List.filter_append ..
theorem sel_cons_in {lo hi : ByteArray} {x : KE} {b : List KE} (h : inR lo hi x = true) : sel lo hi (x :: b) = x :: sel lo hi b := by simp [sel, h]
theorem sel_cons_out {lo hi : ByteArray} {x : KE} {b : List KE} (h : inR lo hi x = false) : sel lo hi (x :: b) = sel lo hi b := by simp [sel, h]
theorem sel_none {lo hi : ByteArray} {xs : List KE} (h : ∀ x ∈ xs, inR lo hi x = false) : sel lo hi xs = [] := filter_none h
theorem inR_low {lo hi : ByteArray} {x : KE} (h : kc x.1 lo = -1) : inR lo hi x = false := by simp [inR, h]
theorem inR_high {lo hi : ByteArray} {x : KE} (h0 : hi.size ≠ 0) (h : kc x.1 hi ≠ -1) : inR lo hi x = false := by simp [inR, h, h0]
theorem inR_yes {lo hi : ByteArray} {x : KE} (h1 : kc x.1 lo ≠ -1) (h : hi.size = 0 ∨ kc x.1 hi = -1) : inR lo hi x = true := by
  rcases h with h | h <;> simp [inR, h, h1]
theorem not_lt_up {a b c : ByteArray} (h1 : kc a b = -1) (h2 : kc a c ≠ -1) : kc b c ≠ -1 := fun h => h2 (kc_trans h1 h)

section
variable {J Jx : List KE → World → Prop} {pre ys zs : List KE} {x : KE} {W W0 W' : World} {bb : Bool}
theorem WR.yes (h : WR J Jx pre ys W true W') : J (pre ++ ys) W' ∧ Kp W W' := by
  rcases h with ⟨_, h⟩ | ⟨h, _⟩
  · exact h
  · cases h
theorem WR.no (h : WR J Jx pre ys W false W') : ∃ q, q <+: ys ∧ Jx (pre ++ q) W' := by
  rcases h with ⟨h, _⟩ | ⟨_, h⟩
  · cases h
  · exact h
theorem WR.stop (h : WR J Jx pre ys W false W') (zs : List KE) : ∃ q, q <+: ys ++ zs ∧ Jx (pre ++ q) W' := by
  obtain ⟨q, h1, h2⟩ := h.no
  exact ⟨q, h1.trans (List.prefix_append _ _), h2⟩
theorem WR.base (h : WR J Jx pre ys W bb W') (k : Kp W0 W) : WR J Jx pre ys W0 bb W' := by
  rcases h with ⟨h1, h2, h3⟩ | h
  · exact .inl ⟨h1, h2, k.trans h3⟩
  · exact .inr h
theorem WR.join (h : WR J Jx (pre ++ ys ++ [x]) zs W bb W') : WR J Jx pre (ys ++ x :: zs) W bb W' := by
  rcases h with ⟨h1, h2, h3⟩ | ⟨h1, q, h2, h3⟩
  · exact .inl ⟨h1, by simpa using h2, h3⟩
  · refine .inr ⟨h1, ys ++ x :: q, ?_, by simpa using h3⟩
    obtain ⟨r, rfl⟩ := h2
    exact ⟨r, by simp⟩
/-- What one round answers. -/
def YR (J Jx : List KE → World → Prop) (pre : List KE) (x : KE) (W : World) (bb : Bool) (W' : World) : Prop :=
  (bb = true ∧ J (pre ++ [x]) W' ∧ Kp W W') ∨ (bb = false ∧ Jx (pre ++ [x]) W')
theorem YR.of {e : Ending} (h : (e = .returned (.bool true) ∧ J (pre ++ [x]) W' ∧ Kp W W') ∨ (e = .returned (.bool false) ∧ Jx (pre ++ [x]) W')) : ∃ bb, e = .returned (.bool bb) ∧ YR J Jx pre x W bb W' := by
  rcases h with ⟨h1, h2⟩ | ⟨h1, h2⟩
  · exact ⟨true, h1, .inl ⟨rfl, h2⟩⟩
  · exact ⟨false, h1, .inr ⟨rfl, h2⟩⟩
theorem YR.yes (h : YR J Jx pre x W true W') : J (pre ++ [x]) W' ∧ Kp W W' := by
  rcases h with ⟨_, h⟩ | ⟨h, _⟩
  · exact h
  · cases h
theorem YR.no (h : YR J Jx pre x W false W') : Jx (pre ++ [x]) W' := by
  rcases h with ⟨h, _⟩ | ⟨_, h⟩
  · cases h
  · exact h
end

set_option maxRecDepth 100000 in
set_option maxHeartbeats 8000000 in
theorem tree_in (l : Nat) (lo hi : ByteArray) (hlo : lo.size ≤ maxLen) (hhi : hi.size ≤ maxLen) (lob hib wkb yb : Nat) (J Jx : List KE → World → Prop) (N : Nat)
    (hJ : ∀ s W W', J s W → W.grownBy W' none → J s W')
    (hY : ∀ m pre x W, J pre W → pre.length < N → YieldAt Wf m Try.prog l (encK x) W fun e W' => (e = .returned (.bool true) ∧ J (pre ++ [x]) W' ∧ Kp W W') ∨ (e = .returned (.bool false) ∧ Jx (pre ++ [x]) W')) (T : Tn) :
    ∀ (n : Nat) (p : Option Addr) (pre : List KE) (W : World), Tr W W.heap.size T p → Sorted T.flat → KeysOk T.flat → WE W lob hib wkb yb lo hi l → J pre W → pre.length + (sel lo hi T.flat).length ≤ N →
      CallsIn Wf n Try.prog 43 #[.pointer p, .pointer (some ⟨lob, 0, none⟩), .pointer (some ⟨hib, 0, none⟩), .pointer (some ⟨wkb, 0, none⟩), .pointer (some ⟨yb, 0, none⟩)] W fun e W' =>
        ∃ bb, e = .returned (.bool bb) ∧ WR J Jx pre (sel lo hi T.flat) W bb W' := by
  induction T with
  | leaf =>
    intro n p pre W h _ _ _ hj _
    obtain rfl : p = none := h
    refine callsIn_of_wp Try.func43 rfl trivial ?_ rfl
    simp only [Try.ntmps43, List.size_toArray, List.length_cons, List.length_nil, Nat.reduceAdd, Nat.reduceSub, Array.replicate_succ, Array.replicate_zero, List.push_toArray, List.append_toArray, List.nil_append, List.cons_append]
    gi_wp2
    go_ret
    exact ⟨true, rfl, .inl ⟨rfl, by simpa [sel, Tn.flat] using hj, Kp.refl _⟩⟩
  | node k0 e0 tl tr ihl ihr =>
    intro n p pre W h hs hk hw hj hN
    obtain ⟨b, p1, p2, rfl, hb, h1, h2, hx⟩ := h.cells
    have hN0 := NC.of hx
    obtain ⟨n0, n1, n2, n3, n4, n5, n6, n8, n9⟩ := hN0
    have cl : W.cell? ⟨lob, 0, none⟩ = some (.string lo) := hw.lo.cell 0
    have ch : W.cell? ⟨hib, 0, none⟩ = some (.string hi) := hw.hi.cell 0
    have H := Lib.hid (And.intro h1 (And.intro h2 (And.intro hx (And.intro hs (And.intro hk (And.intro hw (And.intro hj hN)))))))
    have hk2 : KeysOk (tl.flat ++ (k0, e0) :: tr.flat) := hk
    have o4 := Lib.hid (sz64 hk2.parts.2.2.2)
    have Hk2 := Lib.hid hk2
    clear h1 h2 hx hs hk hw hj hN h hk2
    have hs2 := Lib.hid (show Sorted (tl.flat ++ (k0, e0) :: tr.flat) from H.out.2.2.2.1)
    have hq : ∀ W', W.grownBy W' none → W'.cell? ⟨lob, 0, none⟩ = some (.string lo) ∧ W'.cell? ⟨hib, 0, none⟩ = some (.string hi) ∧ NC W' b k0 e0 p1 p2 ∧ Below W.heap.size W W' := fun W' g => by
      have hb' := grown_below g
      have hw' := H.out.2.2.2.2.2.1.kp (Kp.of_below hb')
      exact ⟨hw'.lo.cell 0, hw'.hi.cell 0, NC.of (H.out.2.2.1.below hb' (H.out.2.2.1.lt)), hb'⟩
    have HQ := Lib.hid hq
    clear hq
    have hto : hi.size = 0 ∨ (hi.size ≠ 0 ∧ kc k0 hi = -1) ∨ (hi.size ≠ 0 ∧ kc k0 hi ≠ -1) := by omega
    by_cases hf : kc k0 lo = -1
    · rcases hto with ht | ⟨ht, ht2⟩ | ⟨ht, ht2⟩
      · have ht' : hi.toList = [] := by rw [ByteArray.toList_eq]; exact List.length_eq_zero_iff.1 (by rw [Array.length_toList, ByteArray.size_data]; exact ht)
        have ht'' : hi.toList.isEmpty = true := by rw [ht']; rfl
        have HS := Lib.hid (show sel lo hi (tl.flat ++ (k0, e0) :: tr.flat) = sel lo hi tr.flat by
          rw [sel_app, sel_none (fun x hx => inR_low (kc_trans (hs2.out.parts.2.2.1 x hx) hf)), sel_cons_out (inR_low hf)]; rfl)
        refine callsIn_of_wp Try.func43 rfl trivial ?_ rfl
        simp only [Try.ntmps43, List.size_toArray, List.length_cons, List.length_nil, Nat.reduceAdd, Nat.reduceSub, Array.replicate_succ, Array.replicate_zero, List.push_toArray, List.append_toArray, List.nil_append, List.cons_append]
        gi_wp2
        gi_quiet ((gi_at_call 41; exact CallsIn.quiet_of (wfc (cmp_is o4.out hlo hf))))
        generalize hW1 : World.drewN _ _ = W1
        have g1 : W.grownBy W1 none := by rw [← hW1]; exact grown_drewN1 _ _
        have G1 : W.grownBy W1 none := g1
        obtain ⟨cl, ch, ⟨n0, n1, n2, n3, n4, n5, n6, n8, n9⟩, _⟩ := HQ.out _ G1
        clear hW1 g1
        gi_wp2
        gi_quiet (fail)
        generalize hW2 : World.drewN _ _ = W2
        have g2 : W1.grownBy W2 none := by rw [← hW2]; exact grown_drewN1 _ _
        have G2 : W.grownBy W2 none := G1.trans g2
        obtain ⟨cl, ch, ⟨n0, n1, n2, n3, n4, n5, n6, n8, n9⟩, _⟩ := HQ.out _ G2
        clear hW2 g2
        gi_wp2
        gi_quiet (fail)
        generalize hW3 : World.drewN _ _ = W3
        have g3 : W2.grownBy W3 none := by rw [← hW3]; exact grown_drewN1 _ _
        have G3 : W.grownBy W3 none := G2.trans g3
        obtain ⟨cl, ch, ⟨n0, n1, n2, n3, n4, n5, n6, n8, n9⟩, _⟩ := HQ.out _ G3
        clear hW3 g3
        gi_wp2
        gi_quiet (fail)
        generalize hW4 : World.drewN _ _ = W4
        have g4 : W3.grownBy W4 none := by rw [← hW4]; exact grown_drewN1 _ _
        have G4 : W.grownBy W4 none := G3.trans g4
        obtain ⟨cl, ch, ⟨n0, n1, n2, n3, n4, n5, n6, n8, n9⟩, _⟩ := HQ.out _ G4
        clear hW4 g4
        gi_wp2
        have hb4 := grown_below (G4.trans (grown_drew1 W4))
        have wk : W4.cell? ⟨wkb, 0, none⟩ = some (.func (.func 43) #[] #[.pointer (some ⟨lob, 0, none⟩), .pointer (some ⟨hib, 0, none⟩), .pointer (some ⟨wkb, 0, none⟩), .pointer (some ⟨yb, 0, none⟩)]) := (H.out.2.2.2.2.2.1.kp (Kp.of_below (grown_below G4))).wk.cell 0
        have ih2 := ihr (n - 1) p2 pre W4.drew (H.out.2.1.below hb4) (hs2.out.parts.2.1) (Hk2.out.parts.2.1) (H.out.2.2.2.2.2.1.kp (Kp.of_below hb4)) (hJ _ _ _ H.out.2.2.2.2.2.2.1 (G4.trans (grown_drew1 W4))) (by have := H.out.2.2.2.2.2.2.2; rw [show sel lo hi (Tn.node k0 e0 tl tr).flat = sel lo hi tr.flat from HS.out] at this; exact this)
        have IH2 := Lib.hid ih2
        clear ih2 hb4
        refine wpIn_region_tail 8 (by kernel_rfl) (by kernel_rfl) ?_
        simp only [List.take_succ_cons, List.take_zero, List.drop_succ_cons, List.drop_zero]
        repeat still_step
        refine wpStill_nil ?_
        gi_wp2_with (first
          | (gi_at_call 43
             refine IH2.out.mono ?_
             rintro e W5 ⟨bb, rfl, hw5⟩
             have HW5 := Lib.hid hw5
             clear hw5 IH2))
        all_goals
          go_ret
          rw [show sel lo hi (Tn.node k0 e0 tl tr).flat = sel lo hi tr.flat from HS.out]
          exact ⟨bb, rfl, HW5.out.base (Kp.of_below (grown_below (G4.trans (grown_drew1 W4))))⟩
      · have ht' : ¬ hi.toList = [] := fun e => by
          rw [ByteArray.toList_eq] at e
          exact ht (by rw [← ByteArray.size_data, ← Array.length_toList, e]; rfl)
        have ht'' : hi.toList.isEmpty = false := by simpa using ht'
        have HS := Lib.hid (show sel lo hi (tl.flat ++ (k0, e0) :: tr.flat) = sel lo hi tr.flat by
          rw [sel_app, sel_none (fun x hx => inR_low (kc_trans (hs2.out.parts.2.2.1 x hx) hf)), sel_cons_out (inR_low hf)]; rfl)
        refine callsIn_of_wp Try.func43 rfl trivial ?_ rfl
        simp only [Try.ntmps43, List.size_toArray, List.length_cons, List.length_nil, Nat.reduceAdd, Nat.reduceSub, Array.replicate_succ, Array.replicate_zero, List.push_toArray, List.append_toArray, List.nil_append, List.cons_append]
        gi_wp2
        gi_quiet ((gi_at_call 41; exact CallsIn.quiet_of (wfc (cmp_is o4.out hlo hf))))
        generalize hW1 : World.drewN _ _ = W1
        have g1 : W.grownBy W1 none := by rw [← hW1]; exact grown_drewN1 _ _
        have G1 : W.grownBy W1 none := g1
        obtain ⟨cl, ch, ⟨n0, n1, n2, n3, n4, n5, n6, n8, n9⟩, _⟩ := HQ.out _ G1
        clear hW1 g1
        gi_wp2
        gi_quiet ((gi_at_call 41; exact CallsIn.quiet_of (wfc (cmp_is o4.out hhi ht2))))
        generalize hW2 : World.drewN _ _ = W2
        have g2 : W1.grownBy W2 none := by rw [← hW2]; exact grown_drewN1 _ _
        have G2 : W.grownBy W2 none := G1.trans g2
        obtain ⟨cl, ch, ⟨n0, n1, n2, n3, n4, n5, n6, n8, n9⟩, _⟩ := HQ.out _ G2
        clear hW2 g2
        gi_wp2
        gi_quiet (fail)
        generalize hW3 : World.drewN _ _ = W3
        have g3 : W2.grownBy W3 none := by rw [← hW3]; exact grown_drewN1 _ _
        have G3 : W.grownBy W3 none := G2.trans g3
        obtain ⟨cl, ch, ⟨n0, n1, n2, n3, n4, n5, n6, n8, n9⟩, _⟩ := HQ.out _ G3
        clear hW3 g3
        gi_wp2
        gi_quiet (fail)
        generalize hW4 : World.drewN _ _ = W4
        have g4 : W3.grownBy W4 none := by rw [← hW4]; exact grown_drewN1 _ _
        have G4 : W.grownBy W4 none := G3.trans g4
        obtain ⟨cl, ch, ⟨n0, n1, n2, n3, n4, n5, n6, n8, n9⟩, _⟩ := HQ.out _ G4
        clear hW4 g4
        gi_wp2
        have hb4 := grown_below (G4.trans (grown_drew1 W4))
        have wk : W4.cell? ⟨wkb, 0, none⟩ = some (.func (.func 43) #[] #[.pointer (some ⟨lob, 0, none⟩), .pointer (some ⟨hib, 0, none⟩), .pointer (some ⟨wkb, 0, none⟩), .pointer (some ⟨yb, 0, none⟩)]) := (H.out.2.2.2.2.2.1.kp (Kp.of_below (grown_below G4))).wk.cell 0
        have ih2 := ihr (n - 1) p2 pre W4.drew (H.out.2.1.below hb4) (hs2.out.parts.2.1) (Hk2.out.parts.2.1) (H.out.2.2.2.2.2.1.kp (Kp.of_below hb4)) (hJ _ _ _ H.out.2.2.2.2.2.2.1 (G4.trans (grown_drew1 W4))) (by have := H.out.2.2.2.2.2.2.2; rw [show sel lo hi (Tn.node k0 e0 tl tr).flat = sel lo hi tr.flat from HS.out] at this; exact this)
        have IH2 := Lib.hid ih2
        clear ih2 hb4
        refine wpIn_region_tail 8 (by kernel_rfl) (by kernel_rfl) ?_
        simp only [List.take_succ_cons, List.take_zero, List.drop_succ_cons, List.drop_zero]
        repeat still_step
        refine wpStill_nil ?_
        gi_wp2_with (first
          | (gi_at_call 43
             refine IH2.out.mono ?_
             rintro e W5 ⟨bb, rfl, hw5⟩
             have HW5 := Lib.hid hw5
             clear hw5 IH2))
        all_goals
          go_ret
          rw [show sel lo hi (Tn.node k0 e0 tl tr).flat = sel lo hi tr.flat from HS.out]
          exact ⟨bb, rfl, HW5.out.base (Kp.of_below (grown_below (G4.trans (grown_drew1 W4))))⟩
      · have ht' : ¬ hi.toList = [] := fun e => by
          rw [ByteArray.toList_eq] at e
          exact ht (by rw [← ByteArray.size_data, ← Array.length_toList, e]; rfl)
        have ht'' : hi.toList.isEmpty = false := by simpa using ht'
        have HS := Lib.hid (show sel lo hi (tl.flat ++ (k0, e0) :: tr.flat) = [] by
          rw [sel_app, sel_none (fun x hx => inR_low (kc_trans (hs2.out.parts.2.2.1 x hx) hf)), sel_cons_out (inR_low hf), sel_none (fun x hx => inR_high ht (not_lt_up (hs2.out.parts.2.2.2.1 x hx) ht2))]; rfl)
        obtain ⟨c2, hc2⟩ : ∃ c, kc k0 hi = c := ⟨_, rfl⟩
        have hd2 : 0 ≤ c2 := by have := kc_range k0 hi; omega
        have hd2' : decide (c2 < 0) = false := by simp; omega
        refine callsIn_of_wp Try.func43 rfl trivial ?_ rfl
        simp only [Try.ntmps43, List.size_toArray, List.length_cons, List.length_nil, Nat.reduceAdd, Nat.reduceSub, Array.replicate_succ, Array.replicate_zero, List.push_toArray, List.append_toArray, List.nil_append, List.cons_append]
        gi_wp2
        gi_quiet ((gi_at_call 41; exact CallsIn.quiet_of (wfc (cmp_is o4.out hlo hf))))
        generalize hW1 : World.drewN _ _ = W1
        have g1 : W.grownBy W1 none := by rw [← hW1]; exact grown_drewN1 _ _
        have G1 : W.grownBy W1 none := g1
        obtain ⟨cl, ch, ⟨n0, n1, n2, n3, n4, n5, n6, n8, n9⟩, _⟩ := HQ.out _ G1
        clear hW1 g1
        gi_wp2
        gi_quiet ((gi_at_call 41; exact CallsIn.quiet_of (wfc (cmp_is o4.out hhi hc2))))
        generalize hW2 : World.drewN _ _ = W2
        have g2 : W1.grownBy W2 none := by rw [← hW2]; exact grown_drewN1 _ _
        have G2 : W.grownBy W2 none := G1.trans g2
        obtain ⟨cl, ch, ⟨n0, n1, n2, n3, n4, n5, n6, n8, n9⟩, _⟩ := HQ.out _ G2
        clear hW2 g2
        gi_wp2
        gi_quiet (fail)
        generalize hW3 : World.drewN _ _ = W3
        have g3 : W2.grownBy W3 none := by rw [← hW3]; exact grown_drewN1 _ _
        have G3 : W.grownBy W3 none := G2.trans g3
        obtain ⟨cl, ch, ⟨n0, n1, n2, n3, n4, n5, n6, n8, n9⟩, _⟩ := HQ.out _ G3
        clear hW3 g3
        gi_wp2
        gi_quiet (fail)
        generalize hW4 : World.drewN _ _ = W4
        have g4 : W3.grownBy W4 none := by rw [← hW4]; exact grown_drewN1 _ _
        have G4 : W.grownBy W4 none := G3.trans g4
        obtain ⟨cl, ch, ⟨n0, n1, n2, n3, n4, n5, n6, n8, n9⟩, _⟩ := HQ.out _ G4
        clear hW4 g4
        gi_wp2
        gi_quiet (fail)
        generalize hW5 : World.drewN _ _ = W5
        have g5 : W4.grownBy W5 none := by rw [← hW5]; exact grown_drewN1 _ _
        have G5 : W.grownBy W5 none := G4.trans g5
        obtain ⟨cl, ch, ⟨n0, n1, n2, n3, n4, n5, n6, n8, n9⟩, _⟩ := HQ.out _ G5
        clear hW5 g5
        gi_wp2
        go_ret
        exact ⟨true, rfl, .inl ⟨rfl, by rw [show sel lo hi (Tn.node k0 e0 tl tr).flat = [] from HS.out]; simpa using hJ _ _ _ H.out.2.2.2.2.2.2.1 G5, Kp.of_below (grown_below G5)⟩⟩
    · rcases hto with ht | ⟨ht, ht2⟩ | ⟨ht, ht2⟩
      · have ht' : hi.toList = [] := by rw [ByteArray.toList_eq]; exact List.length_eq_zero_iff.1 (by rw [Array.length_toList, ByteArray.size_data]; exact ht)
        have ht'' : hi.toList.isEmpty = true := by rw [ht']; rfl
        obtain ⟨c, hc⟩ : ∃ c, kc k0 lo = c := ⟨_, rfl⟩
        have hd : 0 ≤ c := by have := kc_range k0 lo; omega
        have hd' : decide (0 ≤ c) = true := by simpa using hd
        have hsl : sel lo hi (tl.flat ++ (k0, e0) :: tr.flat) = sel lo hi tl.flat ++ (k0, e0) :: sel lo hi tr.flat := by rw [sel_app, sel_cons_in (inR_yes hf (.inl ht))]
        have HS := Lib.hid (And.intro (show sel lo hi (Tn.node k0 e0 tl tr).flat = sel lo hi tl.flat ++ (k0, e0) :: sel lo hi tr.flat from hsl) (show (sel lo hi tl.flat).length + (sel lo hi tr.flat).length + 1 = (sel lo hi (Tn.node k0 e0 tl tr).flat).length by rw [show sel lo hi (Tn.node k0 e0 tl tr).flat = _ from hsl]; simp; omega))
        clear hsl
        refine callsIn_of_wp Try.func43 rfl trivial ?_ rfl
        simp only [Try.ntmps43, List.size_toArray, List.length_cons, List.length_nil, Nat.reduceAdd, Nat.reduceSub, Array.replicate_succ, Array.replicate_zero, List.push_toArray, List.append_toArray, List.nil_append, List.cons_append]
        gi_wp2
        gi_quiet ((gi_at_call 41; exact CallsIn.quiet_of (wfc (cmp_is o4.out hlo hc))))
        generalize hW1 : World.drewN _ _ = W1
        have g1 : W.grownBy W1 none := by rw [← hW1]; exact grown_drewN1 _ _
        have G1 : W.grownBy W1 none := g1
        obtain ⟨cl, ch, ⟨n0, n1, n2, n3, n4, n5, n6, n8, n9⟩, _⟩ := HQ.out _ G1
        clear hW1 g1
        gi_wp2
        gi_quiet (fail)
        generalize hW2 : World.drewN _ _ = W2
        have g2 : W1.grownBy W2 none := by rw [← hW2]; exact grown_drewN1 _ _
        have G2 : W.grownBy W2 none := G1.trans g2
        obtain ⟨cl, ch, ⟨n0, n1, n2, n3, n4, n5, n6, n8, n9⟩, _⟩ := HQ.out _ G2
        clear hW2 g2
        gi_wp2
        have hb2 := grown_below (G2.trans (grown_drew1 W2))
        have wk : W2.cell? ⟨wkb, 0, none⟩ = some (.func (.func 43) #[] #[.pointer (some ⟨lob, 0, none⟩), .pointer (some ⟨hib, 0, none⟩), .pointer (some ⟨wkb, 0, none⟩), .pointer (some ⟨yb, 0, none⟩)]) := (H.out.2.2.2.2.2.1.kp (Kp.of_below (grown_below G2))).wk.cell 0
        have ih1 := ihl (n - 1) p1 pre W2.drew (H.out.1.below hb2) (hs2.out.parts.1) (Hk2.out.parts.1) (H.out.2.2.2.2.2.1.kp (Kp.of_below hb2)) (hJ _ _ _ H.out.2.2.2.2.2.2.1 (G2.trans (grown_drew1 W2))) (by have := H.out.2.2.2.2.2.2.2; have := HS.out.2; omega)
        have IH1 := Lib.hid ih1
        clear ih1 hb2
        refine wpIn_region_tail 7 (by kernel_rfl) (by kernel_rfl) ?_
        simp only [List.take_succ_cons, List.take_zero, List.drop_succ_cons, List.drop_zero]
        repeat still_step
        refine wpStill_nil ?_
        gi_upto_if 38 with (first
          | (gi_at_call 43
             refine IH1.out.mono ?_
             rintro e W3 ⟨bb, rfl, hw3⟩
             have HW3 := Lib.hid hw3
             clear hw3 IH1))
        all_goals
          clear cl ch n0 n1 n2 n3 n4 n5 n6 n8 n9 wk
          cases bb with
          | false =>
            gi_wp2
            go_ret
            exact ⟨false, rfl, .inr ⟨rfl, (by rw [HS.out.1]; exact HW3.out.stop _)⟩⟩
          | true =>
            have hk3 : Kp W W3 := (Kp.of_below (grown_below (G2.trans (grown_drew1 W2)))).trans HW3.out.yes.2
            have hj3 := HW3.out.yes.1
            have HK3 := Lib.hid (And.intro hk3 hj3)
            have HQ3 := Lib.hid (show ∀ W', W3.grownBy W' none → W'.cell? ⟨lob, 0, none⟩ = some (.string lo) ∧ W'.cell? ⟨hib, 0, none⟩ = some (.string hi) ∧ NC W' b k0 e0 p1 p2 ∧ Kp W W' from fun W' g => by
              have kk := hk3.trans (Kp.of_below (grown_below g))
              have hw' := H.out.2.2.2.2.2.1.kp kk
              exact ⟨hw'.lo.cell 0, hw'.hi.cell 0, NC.of (kk.box (.inl rfl) H.out.2.2.1), kk⟩)
            obtain ⟨cl, ch, ⟨n0, n1, n2, n3, n4, n5, n6, n8, n9⟩, _⟩ := HQ3.out _ (World.grownBy.refl _ _)
            clear hk3 hj3
            gi_wp2
            have hy0 := hY (n - 1) (pre ++ sel lo hi tl.flat) (k0, e0) W3.drew (hJ _ _ _ HK3.out.2 (grown_drew1 W3)) (by have := H.out.2.2.2.2.2.2.2; have := HS.out.2; simp only [List.length_append]; omega)
            have yv : W3.cell? ⟨yb, 0, none⟩ = some (.func (.yield l) #[] #[]) := (H.out.2.2.2.2.2.1.kp HK3.out.1).y.cell 0
            obtain ⟨fn, tmps, assign, body, hy, hR⟩ := hy0
            dsimp only [encK] at hy
            have hR2 := RoundIn.mono hR (R' := fun e W4 => ∃ b4, e = .returned (.bool b4) ∧ YR J Jx (pre ++ sel lo hi tl.flat) (k0, e0) W3.drew b4 W4) (fun e W4 h => YR.of h)
            have HR := Lib.hid hR2
            clear hR hR2
            refine wpIn_region_tail 14 (by kernel_rfl) (by kernel_rfl) ?_
            simp only [List.take_succ_cons, List.take_zero, List.drop_succ_cons, List.drop_zero]
            repeat still_step
            refine wpStill_nil ?_
            gi_upto_if 55 with (first
              | ((try refine ⟨fun h => (by cases h), ?_⟩)
                 (with_reducible refine RoundIn.mono HR.out ?_)
                 rintro e W4 ⟨b4, rfl, hw4⟩
                 have HW4 := Lib.hid hw4
                 clear hw4 HR))
            clear cl ch n0 n1 n2 n3 n4 n5 n6 n8 n9 yv hy
            cases b4 with
            | false =>
              gi_wp2
              go_ret
              refine ⟨false, rfl, .inr ⟨rfl, sel lo hi tl.flat ++ [(k0, e0)], ?_, ?_⟩⟩
              · rw [HS.out.1]; exact ⟨sel lo hi tr.flat, by simp⟩
              · rw [← List.append_assoc]; exact HW4.out.no
            | true =>
              have hk4 : Kp W W4 := (HK3.out.1.trans (Kp.refl W3).drew).trans HW4.out.yes.2
              have hj4 := HW4.out.yes.1
              have HK4 := Lib.hid (And.intro hk4 hj4)
              have hw4 := H.out.2.2.2.2.2.1.kp hk4
              have cl : W4.cell? ⟨lob, 0, none⟩ = some (.string lo) := hw4.lo.cell 0
              have wk : W4.cell? ⟨wkb, 0, none⟩ = some (.func (.func 43) #[] #[.pointer (some ⟨lob, 0, none⟩), .pointer (some ⟨hib, 0, none⟩), .pointer (some ⟨wkb, 0, none⟩), .pointer (some ⟨yb, 0, none⟩)]) := hw4.wk.cell 0
              obtain ⟨n0, n1, n2, n3, n4, n5, n6, n8, n9⟩ : NC W4 b k0 e0 p1 p2 := NC.of (hk4.box (.inl rfl) H.out.2.2.1)
              have ih2 := ihr (n - 1) p2 (pre ++ sel lo hi tl.flat ++ [(k0, e0)]) W4.drew ((H.out.2.1).nk hk4.drew.nk hk4.size) (hs2.out.parts.2.1) (Hk2.out.parts.2.1) (H.out.2.2.2.2.2.1.kp hk4.drew) (hJ _ _ _ hj4 (grown_drew1 W4)) (by have := H.out.2.2.2.2.2.2.2; have := HS.out.2; simp only [List.length_append, List.length_cons, List.length_nil]; omega)
              have IH2 := Lib.hid ih2
              clear ih2 hk4 hj4 hw4
              gi_wp2
              refine wpIn_region_tail 8 (by kernel_rfl) (by kernel_rfl) ?_
              simp only [List.take_succ_cons, List.take_zero, List.drop_succ_cons, List.drop_zero]
              repeat still_step
              refine wpStill_nil ?_
              gi_wp2_with (first
                | (gi_at_call 43
                   refine IH2.out.mono ?_
                   rintro e W5 ⟨bb, rfl, hw5⟩
                   have HW5 := Lib.hid hw5
                   clear hw5 IH2))
              go_ret
              refine ⟨bb, rfl, ?_⟩
              rw [HS.out.1]
              exact (HW5.out.base HK4.out.1.drew).join
      · have ht' : ¬ hi.toList = [] := fun e => by
          rw [ByteArray.toList_eq] at e
          exact ht (by rw [← ByteArray.size_data, ← Array.length_toList, e]; rfl)
        have ht'' : hi.toList.isEmpty = false := by simpa using ht'
        obtain ⟨c, hc⟩ : ∃ c, kc k0 lo = c := ⟨_, rfl⟩
        have hd : 0 ≤ c := by have := kc_range k0 lo; omega
        have hd' : decide (0 ≤ c) = true := by simpa using hd
        have hsl : sel lo hi (tl.flat ++ (k0, e0) :: tr.flat) = sel lo hi tl.flat ++ (k0, e0) :: sel lo hi tr.flat := by rw [sel_app, sel_cons_in (inR_yes hf (.inr ht2))]
        have HS := Lib.hid (And.intro (show sel lo hi (Tn.node k0 e0 tl tr).flat = sel lo hi tl.flat ++ (k0, e0) :: sel lo hi tr.flat from hsl) (show (sel lo hi tl.flat).length + (sel lo hi tr.flat).length + 1 = (sel lo hi (Tn.node k0 e0 tl tr).flat).length by rw [show sel lo hi (Tn.node k0 e0 tl tr).flat = _ from hsl]; simp; omega))
        clear hsl
        refine callsIn_of_wp Try.func43 rfl trivial ?_ rfl
        simp only [Try.ntmps43, List.size_toArray, List.length_cons, List.length_nil, Nat.reduceAdd, Nat.reduceSub, Array.replicate_succ, Array.replicate_zero, List.push_toArray, List.append_toArray, List.nil_append, List.cons_append]
        gi_wp2
        gi_quiet ((gi_at_call 41; exact CallsIn.quiet_of (wfc (cmp_is o4.out hlo hc))))
        generalize hW1 : World.drewN _ _ = W1
        have g1 : W.grownBy W1 none := by rw [← hW1]; exact grown_drewN1 _ _
        have G1 : W.grownBy W1 none := g1
        obtain ⟨cl, ch, ⟨n0, n1, n2, n3, n4, n5, n6, n8, n9⟩, _⟩ := HQ.out _ G1
        clear hW1 g1
        gi_wp2
        gi_quiet ((gi_at_call 41; exact CallsIn.quiet_of (wfc (cmp_is o4.out hhi ht2))))
        generalize hW2 : World.drewN _ _ = W2
        have g2 : W1.grownBy W2 none := by rw [← hW2]; exact grown_drewN1 _ _
        have G2 : W.grownBy W2 none := G1.trans g2
        obtain ⟨cl, ch, ⟨n0, n1, n2, n3, n4, n5, n6, n8, n9⟩, _⟩ := HQ.out _ G2
        clear hW2 g2
        gi_wp2
        have hb2 := grown_below (G2.trans (grown_drew1 W2))
        have wk : W2.cell? ⟨wkb, 0, none⟩ = some (.func (.func 43) #[] #[.pointer (some ⟨lob, 0, none⟩), .pointer (some ⟨hib, 0, none⟩), .pointer (some ⟨wkb, 0, none⟩), .pointer (some ⟨yb, 0, none⟩)]) := (H.out.2.2.2.2.2.1.kp (Kp.of_below (grown_below G2))).wk.cell 0
        have ih1 := ihl (n - 1) p1 pre W2.drew (H.out.1.below hb2) (hs2.out.parts.1) (Hk2.out.parts.1) (H.out.2.2.2.2.2.1.kp (Kp.of_below hb2)) (hJ _ _ _ H.out.2.2.2.2.2.2.1 (G2.trans (grown_drew1 W2))) (by have := H.out.2.2.2.2.2.2.2; have := HS.out.2; omega)
        have IH1 := Lib.hid ih1
        clear ih1 hb2
        refine wpIn_region_tail 7 (by kernel_rfl) (by kernel_rfl) ?_
        simp only [List.take_succ_cons, List.take_zero, List.drop_succ_cons, List.drop_zero]
        repeat still_step
        refine wpStill_nil ?_
        gi_upto_if 38 with (first
          | (gi_at_call 43
             refine IH1.out.mono ?_
             rintro e W3 ⟨bb, rfl, hw3⟩
             have HW3 := Lib.hid hw3
             clear hw3 IH1))
        all_goals
          clear cl ch n0 n1 n2 n3 n4 n5 n6 n8 n9 wk
          cases bb with
          | false =>
            gi_wp2
            go_ret
            exact ⟨false, rfl, .inr ⟨rfl, (by rw [HS.out.1]; exact HW3.out.stop _)⟩⟩
          | true =>
            have hk3 : Kp W W3 := (Kp.of_below (grown_below (G2.trans (grown_drew1 W2)))).trans HW3.out.yes.2
            have hj3 := HW3.out.yes.1
            have HK3 := Lib.hid (And.intro hk3 hj3)
            have HQ3 := Lib.hid (show ∀ W', W3.grownBy W' none → W'.cell? ⟨lob, 0, none⟩ = some (.string lo) ∧ W'.cell? ⟨hib, 0, none⟩ = some (.string hi) ∧ NC W' b k0 e0 p1 p2 ∧ Kp W W' from fun W' g => by
              have kk := hk3.trans (Kp.of_below (grown_below g))
              have hw' := H.out.2.2.2.2.2.1.kp kk
              exact ⟨hw'.lo.cell 0, hw'.hi.cell 0, NC.of (kk.box (.inl rfl) H.out.2.2.1), kk⟩)
            obtain ⟨cl, ch, ⟨n0, n1, n2, n3, n4, n5, n6, n8, n9⟩, _⟩ := HQ3.out _ (World.grownBy.refl _ _)
            clear hk3 hj3
            gi_wp2
            have hy0 := hY (n - 1) (pre ++ sel lo hi tl.flat) (k0, e0) W3.drew (hJ _ _ _ HK3.out.2 (grown_drew1 W3)) (by have := H.out.2.2.2.2.2.2.2; have := HS.out.2; simp only [List.length_append]; omega)
            have yv : W3.cell? ⟨yb, 0, none⟩ = some (.func (.yield l) #[] #[]) := (H.out.2.2.2.2.2.1.kp HK3.out.1).y.cell 0
            obtain ⟨fn, tmps, assign, body, hy, hR⟩ := hy0
            dsimp only [encK] at hy
            have hR2 := RoundIn.mono hR (R' := fun e W4 => ∃ b4, e = .returned (.bool b4) ∧ YR J Jx (pre ++ sel lo hi tl.flat) (k0, e0) W3.drew b4 W4) (fun e W4 h => YR.of h)
            have HR := Lib.hid hR2
            clear hR hR2
            refine wpIn_region_tail 14 (by kernel_rfl) (by kernel_rfl) ?_
            simp only [List.take_succ_cons, List.take_zero, List.drop_succ_cons, List.drop_zero]
            repeat still_step
            refine wpStill_nil ?_
            gi_upto_if 55 with (first
              | ((try refine ⟨fun h => (by cases h), ?_⟩)
                 (with_reducible refine RoundIn.mono HR.out ?_)
                 rintro e W4 ⟨b4, rfl, hw4⟩
                 have HW4 := Lib.hid hw4
                 clear hw4 HR))
            clear cl ch n0 n1 n2 n3 n4 n5 n6 n8 n9 yv hy
            cases b4 with
            | false =>
              gi_wp2
              go_ret
              refine ⟨false, rfl, .inr ⟨rfl, sel lo hi tl.flat ++ [(k0, e0)], ?_, ?_⟩⟩
              · rw [HS.out.1]; exact ⟨sel lo hi tr.flat, by simp⟩
              · rw [← List.append_assoc]; exact HW4.out.no
            | true =>
              have hk4 : Kp W W4 := (HK3.out.1.trans (Kp.refl W3).drew).trans HW4.out.yes.2
              have hj4 := HW4.out.yes.1
              have HK4 := Lib.hid (And.intro hk4 hj4)
              have hw4 := H.out.2.2.2.2.2.1.kp hk4
              have cl : W4.cell? ⟨lob, 0, none⟩ = some (.string lo) := hw4.lo.cell 0
              have wk : W4.cell? ⟨wkb, 0, none⟩ = some (.func (.func 43) #[] #[.pointer (some ⟨lob, 0, none⟩), .pointer (some ⟨hib, 0, none⟩), .pointer (some ⟨wkb, 0, none⟩), .pointer (some ⟨yb, 0, none⟩)]) := hw4.wk.cell 0
              obtain ⟨n0, n1, n2, n3, n4, n5, n6, n8, n9⟩ : NC W4 b k0 e0 p1 p2 := NC.of (hk4.box (.inl rfl) H.out.2.2.1)
              have ih2 := ihr (n - 1) p2 (pre ++ sel lo hi tl.flat ++ [(k0, e0)]) W4.drew ((H.out.2.1).nk hk4.drew.nk hk4.size) (hs2.out.parts.2.1) (Hk2.out.parts.2.1) (H.out.2.2.2.2.2.1.kp hk4.drew) (hJ _ _ _ hj4 (grown_drew1 W4)) (by have := H.out.2.2.2.2.2.2.2; have := HS.out.2; simp only [List.length_append, List.length_cons, List.length_nil]; omega)
              have IH2 := Lib.hid ih2
              clear ih2 hk4 hj4 hw4
              gi_wp2
              refine wpIn_region_tail 8 (by kernel_rfl) (by kernel_rfl) ?_
              simp only [List.take_succ_cons, List.take_zero, List.drop_succ_cons, List.drop_zero]
              repeat still_step
              refine wpStill_nil ?_
              gi_wp2_with (first
                | (gi_at_call 43
                   refine IH2.out.mono ?_
                   rintro e W5 ⟨bb, rfl, hw5⟩
                   have HW5 := Lib.hid hw5
                   clear hw5 IH2))
              go_ret
              refine ⟨bb, rfl, ?_⟩
              rw [HS.out.1]
              exact (HW5.out.base HK4.out.1.drew).join
      · have ht' : ¬ hi.toList = [] := fun e => by
          rw [ByteArray.toList_eq] at e
          exact ht (by rw [← ByteArray.size_data, ← Array.length_toList, e]; rfl)
        have ht'' : hi.toList.isEmpty = false := by simpa using ht'
        obtain ⟨c, hc⟩ : ∃ c, kc k0 lo = c := ⟨_, rfl⟩
        have hd : 0 ≤ c := by have := kc_range k0 lo; omega
        have hd' : decide (0 ≤ c) = true := by simpa using hd
        have hsl : sel lo hi (tl.flat ++ (k0, e0) :: tr.flat) = sel lo hi tl.flat := by
          rw [sel_app, sel_cons_out (inR_high ht ht2), sel_none (fun x hx => inR_high ht (not_lt_up (hs2.out.parts.2.2.2.1 x hx) ht2)), List.append_nil]
        have HS := Lib.hid (And.intro (show sel lo hi (Tn.node k0 e0 tl tr).flat = sel lo hi tl.flat from hsl) (show (sel lo hi tl.flat).length ≤ (sel lo hi (Tn.node k0 e0 tl tr).flat).length by rw [show sel lo hi (Tn.node k0 e0 tl tr).flat = _ from hsl]; exact Nat.le_refl _))
        obtain ⟨c2, hc2⟩ : ∃ c, kc k0 hi = c := ⟨_, rfl⟩
        have hd2 : 0 ≤ c2 := by have := kc_range k0 hi; omega
        have hd2' : decide (c2 < 0) = false := by simp; omega
        clear hsl
        refine callsIn_of_wp Try.func43 rfl trivial ?_ rfl
        simp only [Try.ntmps43, List.size_toArray, List.length_cons, List.length_nil, Nat.reduceAdd, Nat.reduceSub, Array.replicate_succ, Array.replicate_zero, List.push_toArray, List.append_toArray, List.nil_append, List.cons_append]
        gi_wp2
        gi_quiet ((gi_at_call 41; exact CallsIn.quiet_of (wfc (cmp_is o4.out hlo hc))))
        generalize hW1 : World.drewN _ _ = W1
        have g1 : W.grownBy W1 none := by rw [← hW1]; exact grown_drewN1 _ _
        have G1 : W.grownBy W1 none := g1
        obtain ⟨cl, ch, ⟨n0, n1, n2, n3, n4, n5, n6, n8, n9⟩, _⟩ := HQ.out _ G1
        clear hW1 g1
        gi_wp2
        gi_quiet ((gi_at_call 41; exact CallsIn.quiet_of (wfc (cmp_is o4.out hhi hc2))))
        generalize hW2 : World.drewN _ _ = W2
        have g2 : W1.grownBy W2 none := by rw [← hW2]; exact grown_drewN1 _ _
        have G2 : W.grownBy W2 none := G1.trans g2
        obtain ⟨cl, ch, ⟨n0, n1, n2, n3, n4, n5, n6, n8, n9⟩, _⟩ := HQ.out _ G2
        clear hW2 g2
        gi_wp2
        have hb2 := grown_below (G2.trans (grown_drew1 W2))
        have wk : W2.cell? ⟨wkb, 0, none⟩ = some (.func (.func 43) #[] #[.pointer (some ⟨lob, 0, none⟩), .pointer (some ⟨hib, 0, none⟩), .pointer (some ⟨wkb, 0, none⟩), .pointer (some ⟨yb, 0, none⟩)]) := (H.out.2.2.2.2.2.1.kp (Kp.of_below (grown_below G2))).wk.cell 0
        have ih1 := ihl (n - 1) p1 pre W2.drew (H.out.1.below hb2) (hs2.out.parts.1) (Hk2.out.parts.1) (H.out.2.2.2.2.2.1.kp (Kp.of_below hb2)) (hJ _ _ _ H.out.2.2.2.2.2.2.1 (G2.trans (grown_drew1 W2))) (by have := H.out.2.2.2.2.2.2.2; have := HS.out.2; omega)
        have IH1 := Lib.hid ih1
        clear ih1 hb2
        refine wpIn_region_tail 7 (by kernel_rfl) (by kernel_rfl) ?_
        simp only [List.take_succ_cons, List.take_zero, List.drop_succ_cons, List.drop_zero]
        repeat still_step
        refine wpStill_nil ?_
        gi_upto_if 38 with (first
          | (gi_at_call 43
             refine IH1.out.mono ?_
             rintro e W3 ⟨bb, rfl, hw3⟩
             have HW3 := Lib.hid hw3
             clear hw3 IH1))
        all_goals
          clear cl ch n0 n1 n2 n3 n4 n5 n6 n8 n9 wk
          cases bb with
          | false =>
            gi_wp2
            go_ret
            exact ⟨false, rfl, .inr ⟨rfl, (by rw [show sel lo hi (Tn.node k0 e0 tl tr).flat = sel lo hi tl.flat from HS.out.1]; exact HW3.out.no)⟩⟩
          | true =>
            have hk3 : Kp W W3 := (Kp.of_below (grown_below (G2.trans (grown_drew1 W2)))).trans HW3.out.yes.2
            have hj3 := HW3.out.yes.1
            have HK3 := Lib.hid (And.intro hk3 hj3)
            have HQ3 := Lib.hid (show ∀ W', W3.grownBy W' none → W'.cell? ⟨lob, 0, none⟩ = some (.string lo) ∧ W'.cell? ⟨hib, 0, none⟩ = some (.string hi) ∧ NC W' b k0 e0 p1 p2 ∧ Kp W W' from fun W' g => by
              have kk := hk3.trans (Kp.of_below (grown_below g))
              have hw' := H.out.2.2.2.2.2.1.kp kk
              exact ⟨hw'.lo.cell 0, hw'.hi.cell 0, NC.of (kk.box (.inl rfl) H.out.2.2.1), kk⟩)
            obtain ⟨cl, ch, ⟨n0, n1, n2, n3, n4, n5, n6, n8, n9⟩, _⟩ := HQ3.out _ (World.grownBy.refl _ _)
            clear hk3 hj3
            gi_wp2
            gi_quiet (fail)
            generalize hW4 : World.drewN _ _ = W4
            have g4 : W3.grownBy W4 none := by rw [← hW4]; exact grown_drewN1 _ _
            obtain ⟨cl, ch, ⟨n0, n1, n2, n3, n4, n5, n6, n8, n9⟩, _⟩ := HQ3.out _ g4
            clear hW4
            gi_wp2
            gi_quiet (fail)
            generalize hW5 : World.drewN _ _ = W5
            have g5 : W4.grownBy W5 none := by rw [← hW5]; exact grown_drewN1 _ _
            clear hW5
            gi_wp2
            go_ret
            exact ⟨true, rfl, .inl ⟨rfl, by rw [show sel lo hi (Tn.node k0 e0 tl tr).flat = sel lo hi tl.flat from HS.out.1]; exact hJ _ _ _ HK3.out.2 (g4.trans g5), HK3.out.1.trans (Kp.of_below (grown_below (g4.trans g5)))⟩⟩
end Go.Proofs.Ytociadicjbkjcaa
