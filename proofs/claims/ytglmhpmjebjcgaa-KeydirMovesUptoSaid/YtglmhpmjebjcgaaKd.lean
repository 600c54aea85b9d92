import Derived.StillTail
import Derived.StillTactics
import Derived.RegionIn
import Derived.TacticsIn
import Derived.CallsIn
import Derived.Test.YtglmhpmjebjcgaaKc
import Derived.RangeFuncNested
import Derived.RangeFuncBound
import Derived.RangeFuncCalls
import Derived.RangeFuncLeaves
import Derived.Shelf.Abstract
import Derived.Shelf.RegionOpen
import Derived.OwnWalkIn
import Derived.TacticsInMore
import Derived.LoopNIn
import Derived.LoopIn
import Derived.RangeFuncBox
import Derived.Stop.RegionWithIn
import Derived.Sort.QuietIn
import Derived.Sort.CutIn
import Derived.Laws.EntriesVeiled
import Derived.Deep.AppendLies
import Derived.Laws.RangeAny
import Derived.Laws.IdiomStrings
namespace Go.Proofs.Ytglmhpmjebjcgaa

/-! A region that draws its order, reads and quiet calls ahead of a tail in the order of the text, inside the wide fence. No program in sight. -/
/-- The wide fence, written out. -/
abbrev Wf : Fence := { fn := fun _ => True, depth := none, alive := false }
theorem wfc {n : Nat} {P : Program} {f : FuncId} {args : Array Value} {w : World} {R : Ending → World → Prop} (hc : Calls P f args w R) : CallsIn Wf n P f args w R := callsIn_wide.2 hc
theorem cfw {n : Nat} {P : Program} {f : FuncId} {args : Array Value} {w : World} {R : Ending → World → Prop} (hc : CallsIn Wf n P f args w R) : Calls P f args w R := callsIn_wide.1 hc

section
variable {P : Program} {ops : Array Oper} {md : Region.Mode} {w : World} {m : Nat}
theorem wpIn_of_still {o : Oper} {a : Act} {K : Act → Prop} {K' : Act → World → Prop} {Q' : Exit → Act → World → Prop} (h : ∀ a, K a → K' a w) (hh : o.still P a w K) : o.wpIn Wf m P a w K' Q' := by
  refine ⟨fun _ _ => trivial, ?_⟩
  rw [show Wf.round = none from rfl, Oper.semAt_none]
  unfold Oper.still at hh
  generalize (execOp a.eval o).run P w = r at *
  cases r with
  | ok n w' =>
    cases n <;> simp only [Oper.stillUpon] at hh
    case value v => obtain ⟨rfl, hk⟩ := hh; exact h _ hk
    case skip => obtain ⟨rfl, hk⟩ := hh; exact h _ hk
    case enter f args =>
      obtain ⟨rfl, v, hc, hn⟩ := hh
      refine ⟨fun h => (by cases h), (wfc hc).mono ?_⟩
      rintro e w'' ⟨rfl, rfl⟩
      exact h _ hn
  | halt x w' => simp only [Oper.stillUpon] at hh
theorem wpOpIn_of_stOp {i : Nat} {a : Act} {K : Act → Prop} {K' : Act → World → Prop} {Q' : Exit → Act → World → Prop} (h : ∀ a, K a → K' a w) (hh : stOp P ops w i K a) : wpOpIn Wf m P ops Q' i K' a w := by
  unfold stOp at hh
  unfold wpOpIn
  split
  · rename_i ho; simp only [ho] at hh; exact h _ hh
  · rename_i o ho
    simp only [ho] at hh
    split
    · rename_i hw; simp only [hw, if_true] at hh; exact wpIn_of_still h hh
    · rename_i hw; simp only [hw] at hh; exact ⟨fun _ _ => trivial, h _ hh⟩
theorem wpAnyIn_of_head {n g : Nat} {L : Array Bool → Act → Prop} {Q' : Exit → Act → World → Prop} (hL : ∀ listed a, L listed a → wpAnyIn Wf m P md ops Q' g listed a w) :
    ∀ (f : Nat) (listed : Array Bool) (a : Act), wpAnyL P md ops w n L f listed a → wpAnyIn Wf m P md ops Q' (f + g) listed a w
  | 0, listed, a, h => by rw [Nat.zero_add]; exact hL _ _ h
  | f + 1, listed, a, h => by
    rw [show f + 1 + g = (f + g) + 1 by omega]
    exact ⟨fun h0 => absurd h0 h.1, fun i hi => wpOpIn_of_stOp (fun a' h' => wpAnyIn_of_head hL f _ a' h') (h.2 i hi).2⟩
theorem wpAnyIn_of_seq {Q' : Exit → Act → World → Prop} : ∀ (l : List Oper) (k : Nat) (listed : Array Bool) (a : Act) (w : World), (∀ j, l[j]? = ops[k + j]?) →
    Region.seqB md ops l.length k listed = true → wpListIn Wf m P ops Q' l a w → wpAnyIn Wf m P md ops Q' l.length listed a w
  | [], k, listed, a, w, _, hB, h => ⟨by simpa [Region.seqB] using hB, h⟩
  | o :: l, k, listed, a, w, hl, hB, h => by
    have h0 : ops[k]? = some o := by simpa using (hl 0).symm
    simp only [List.length_cons, Region.seqB, Bool.and_eq_true, decide_eq_true_eq] at hB
    refine ⟨fun h1 => (by rw [hB.1] at h1; cases h1), fun i hi => ?_⟩
    rw [hB.1] at hi
    have hik : i = k := by simpa using hi
    subst hik
    have hw : wpOpIn Wf m P ops Q' i (wpListIn Wf m P ops Q' l) a w := by unfold wpOpIn; simp only [h0]; exact h
    exact wpOpIn_mono (fun a' w' h' => wpAnyIn_of_seq l (i + 1) _ a' w' (fun j => by have := hl (j + 1); simpa [Nat.add_assoc, Nat.add_comm 1 j] using this) hB.2 h') hw
theorem wpIn_region_tail {id : Nat} {Q : Exit → Act → World → Prop} {a : Act} {w : World} {l : List Oper} (n : Nat) (hm : P.follows .mixedOrders = true) (hB : Region.lexTailB .any l.toArray n = true)
    (h : wpStill P l.toArray w.drew (fun a' => wpListIn Wf m P l.toArray Q (l.drop n) a' w.drew) (l.take n) a) : (Code.region id l.toArray true).wpIn Wf m P Q a w := by
  simp only [Region.lexTailB, Bool.and_eq_true, decide_eq_true_eq] at hB
  obtain ⟨⟨⟨⟨hsel, hn⟩, hs⟩, hc⟩, hlex⟩ := hB
  have hn' : n < l.length := by simpa using hn
  have htl : (l.take n).length = n := by simp; omega
  have hdl : (l.drop n).length = l.toArray.size - n := by simp
  have inv0 : HeadInv .any l.toArray n (Array.replicate l.toArray.size false) :=
    ⟨by simp, fun j oj _ hl => (by rw [getD_replicate_false] at hl; cases hl), fun t _ ht => getD_in (by simpa using ht) (getD_replicate_false _ _)⟩
  have H := wpAnyL_lex (md := .any) (g := l.toArray.size - n) hsel hs hc hn (l.take n) 0 _ a (fun j hj => by
    have hj' : j < n := by rw [htl] at hj; exact hj
    simp [hj']) (by simpa using htl) inv0 (by rw [htl]; exact hlex) h
  refine wpIn_region_any hm ?_
  have := wpAnyIn_of_head (m := m) (Q' := Q) (g := l.toArray.size - n) (fun listed a' hL => by
    have := wpAnyIn_of_seq (m := m) (md := .any) (Q' := Q) (l.drop n) n listed a' w.drew (fun j => by simp [List.getElem?_drop]) (by rw [hdl]; exact hL.1) hL.2
    rwa [hdl] at this) _ _ _ H
  rw [htl, show n + (l.toArray.size - n) = l.toArray.size by omega] at this
  exact this
end
end Go.Proofs.Ytglmhpmjebjcgaa
namespace Go.Proofs.Ytglmhpmjebjcgaa
open Go.RowKit Go.Maps Go.Shelf
attribute [local go_sem] Oper.semAt_some

/-! All: the walk over the tree, handing each entry to the round. -/
def inR (lo hi : ByteArray) (x : KE) : Bool := decide (kc x.1 lo ≠ -1) && (decide (hi.size = 0) || decide (kc x.1 hi = -1))
def sel (lo hi : ByteArray) (xs : List KE) : List KE := xs.filter (inR lo hi)
/-- What a round that goes on keeps: nodes, texts, functions. -/
def KpT (t : TypeId) : Prop := t = 79 ∨ t = 9 ∨ t = 87 ∨ t = 88 ∨ t = 23
structure Kp (W W' : World) : Prop where
  size : W.heap.size ≤ W'.heap.size
  cells : ∀ (b : Nat) (cs : Array Value) (t : TypeId), KpT t → W.heap[b]? = some (.cells cs t (0, 0)) → W'.heap[b]? = some (.cells cs t (0, 0))
theorem Kp.refl (W : World) : Kp W W := ⟨Nat.le_refl _, fun _ _ _ _ h => h⟩
theorem Kp.trans {A B C : World} (h : Kp A B) (k : Kp B C) : Kp A C := ⟨Nat.le_trans h.size k.size, fun b cs t ht hb => k.cells b cs t ht (h.cells b cs t ht hb)⟩
theorem Kp.of_below {W W' : World} (h : Below W.heap.size W W') : Kp W W' := ⟨h.size, fun b _ _ _ hb => (h.block b (Array.getElem?_eq_some_iff.1 hb).1).trans hb⟩
theorem Kp.drewN {W W' : World} (h : Kp W W') (n : Nat) : Kp W (W'.drewN n) := ⟨h.size, h.cells⟩
theorem Kp.drew {W W' : World} (h : Kp W W') : Kp W W'.drew := ⟨h.size, h.cells⟩
theorem Kp.nk {W W' : World} (h : Kp W W') : NK W W' := ⟨h.size, fun b cs hb => h.cells b cs _ (.inl rfl) hb⟩
theorem Kp.box {W W' : World} {b : Nat} {t : TypeId} {ar : Array Value} (h : Kp W W') (ht : KpT t) (hb : Box W b t ar) : Box W' b t ar := h.cells b ar t ht hb

/-- What the walk's function value has caught. -/
structure WE (W : World) (lob hib wkb yb : Nat) (lo hi : ByteArray) (l : Nat) : Prop where
  lo : Box W lob 9 #[.string lo]
  hi : Box W hib 9 #[.string hi]
  wk : Box W wkb 88 #[.func (.func 54) #[] #[.pointer (some ⟨lob, 0, none⟩), .pointer (some ⟨hib, 0, none⟩), .pointer (some ⟨wkb, 0, none⟩), .pointer (some ⟨yb, 0, none⟩)]]
  y : Box W yb 87 #[.func (.yield l) #[] #[]]
theorem WE.kp {W W' : World} {lob hib wkb yb : Nat} {lo hi : ByteArray} {l : Nat} (h : WE W lob hib wkb yb lo hi l) (k : Kp W W') : WE W' lob hib wkb yb lo hi l :=
  ⟨k.box (.inr (.inl rfl)) h.lo, k.box (.inr (.inl rfl)) h.hi, k.box (.inr (.inr (.inr (.inl rfl)))) h.wk, k.box (.inr (.inr (.inl rfl))) h.y⟩
def encK (x : KE) : Array Value := #[.string x.1, x.2.v]
/-- What the walk answers of the list ys behind pre. -/
def WR (J Jx : List KE → World → Prop) (pre ys : List KE) (W : World) (bb : Bool) (W' : World) : Prop :=
  (bb = true ∧ J (pre ++ ys) W' ∧ Kp W W') ∨ (bb = false ∧ ∃ q, q <+: ys ∧ Jx (pre ++ q) W')
theorem grown_drewN1 (w : World) (n : Nat) : w.grownBy (w.drewN n) none := ⟨rfl, rfl, rfl, Nat.le_refl _, fun _ _ _ => rfl⟩
theorem grown_drew1 (w : World) : w.grownBy w.drew none := ⟨rfl, rfl, rfl, Nat.le_refl _, fun _ _ _ => rfl⟩
theorem grown_below {w w' : World} (h : w.grownBy w' none) : Below w.heap.size w w' := (Below.refl _ w).grown h (Nat.le_refl _) (fun k e => by cases e)
theorem sel_app (lo hi : ByteArray) (a b : List KE) : sel lo hi (a ++ b) = sel lo hi a ++ sel lo hi b := List.filter_append ..
theorem sel_cons_in {lo hi : ByteArray} {x : KE} {b : List KE} (h : inR lo hi x = true) : sel lo hi (x :: b) = x :: sel lo hi b := by simp [sel, h]
theorem sel_cons_out {lo hi : ByteArray} {x : KE} {b : List KE} (h : inR lo hi x = false) : sel lo hi (x :: b) = sel lo hi b := by simp [sel, h]
theorem sel_none {lo hi : ByteArray} {xs : List KE} (h : ∀ x ∈ xs, inR lo hi x = false) : sel lo hi xs = [] := filter_none h
theorem inR_low {lo hi : ByteArray} {x : KE} (h : kc x.1 lo = -1) : inR lo hi x = false := by simp [inR, h]
theorem inR_high {lo hi : ByteArray} {x : KE} (h0 : hi.size ≠ 0) (h : kc x.1 hi ≠ -1) : inR lo hi x = false := by simp [inR, h, h0]
theorem inR_yes {lo hi : ByteArray} {x : KE} (h1 : kc x.1 lo ≠ -1) (h : hi.size = 0 ∨ kc x.1 hi = -1) : inR lo hi x = true := by
  rcases h with h | h <;> simp [inR, h, h1]
theorem not_lt_up {a b c : ByteArray} (h1 : kc a b = -1) (h2 : kc a c ≠ -1) : kc b c ≠ -1 := fun h => h2 (kc_trans h1 h)

section
variable {J Jx : List KE → World → Prop} {pre ys zs : List KE} {x : KE} {W W0 W' : World} {bb : Bool}
theorem WR.yes (h : WR J Jx pre ys W true W') : J (pre ++ ys) W' ∧ Kp W W' := by
  rcases h with ⟨_, h⟩ | ⟨h, _⟩
  · exact h
  · cases h
theorem WR.no (h : WR J Jx pre ys W false W') : ∃ q, q <+: ys ∧ Jx (pre ++ q) W' := by
  rcases h with ⟨h, _⟩ | ⟨_, h⟩
  · cases h
  · exact h
theorem WR.stop (h : WR J Jx pre ys W false W') (zs : List KE) : ∃ q, q <+: ys ++ zs ∧ Jx (pre ++ q) W' := by
  obtain ⟨q, h1, h2⟩ := h.no
  exact ⟨q, h1.trans (List.prefix_append _ _), h2⟩
theorem WR.base (h : WR J Jx pre ys W bb W') (k : Kp W0 W) : WR J Jx pre ys W0 bb W' := by
  rcases h with ⟨h1, h2, h3⟩ | h
  · exact .inl ⟨h1, h2, k.trans h3⟩
  · exact .inr h
theorem WR.join (h : WR J Jx (pre ++ ys ++ [x]) zs W bb W') : WR J Jx pre (ys ++ x :: zs) W bb W' := by
  rcases h with ⟨h1, h2, h3⟩ | ⟨h1, q, h2, h3⟩
  · exact .inl ⟨h1, by simpa using h2, h3⟩
  · refine .inr ⟨h1, ys ++ x :: q, ?_, by simpa using h3⟩
    obtain ⟨r, rfl⟩ := h2
    exact ⟨r, by simp⟩
/-- What one round answers. -/
def YR (J Jx : List KE → World → Prop) (pre : List KE) (x : KE) (W : World) (bb : Bool) (W' : World) : Prop :=
  (bb = true ∧ J (pre ++ [x]) W' ∧ Kp W W') ∨ (bb = false ∧ Jx (pre ++ [x]) W')
theorem YR.of {e : Ending} (h : (e = .returned (.bool true) ∧ J (pre ++ [x]) W' ∧ Kp W W') ∨ (e = .returned (.bool false) ∧ Jx (pre ++ [x]) W')) : ∃ bb, e = .returned (.bool bb) ∧ YR J Jx pre x W bb W' := by
  rcases h with ⟨h1, h2⟩ | ⟨h1, h2⟩
  · exact ⟨true, h1, .inl ⟨rfl, h2⟩⟩
  · exact ⟨false, h1, .inr ⟨rfl, h2⟩⟩
theorem YR.yes (h : YR J Jx pre x W true W') : J (pre ++ [x]) W' ∧ Kp W W' := by
  rcases h with ⟨_, h⟩ | ⟨h, _⟩
  · exact h
  · cases h
theorem YR.no (h : YR J Jx pre x W false W') : Jx (pre ++ [x]) W' := by
  rcases h with ⟨h, _⟩ | ⟨_, h⟩
  · cases h
  · exact h
end

set_option maxRecDepth 100000 in
set_option maxHeartbeats 8000000 in
theorem tree_in (l : Nat) (lo hi : ByteArray) (hlo : lo.size ≤ maxLen) (hhi : hi.size ≤ maxLen) (lob hib wkb yb : Nat) (J Jx : List KE → World → Prop) (N : Nat)
    (hJ : ∀ s W W', J s W → W.grownBy W' none → J s W')
    (hY : ∀ m pre x W, J pre W → pre.length < N → YieldAt Wf m Try.prog l (encK x) W fun e W' => (e = .returned (.bool true) ∧ J (pre ++ [x]) W' ∧ Kp W W') ∨ (e = .returned (.bool false) ∧ Jx (pre ++ [x]) W')) (T : Tn) :
    ∀ (n : Nat) (p : Option Addr) (pre : List KE) (W : World), Tr W W.heap.size T p → Sorted T.flat → KeysOk T.flat → WE W lob hib wkb yb lo hi l → J pre W → pre.length + (sel lo hi T.flat).length ≤ N →
      CallsIn Wf n Try.prog 54 #[.pointer p, .pointer (some ⟨lob, 0, none⟩), .pointer (some ⟨hib, 0, none⟩), .pointer (some ⟨wkb, 0, none⟩), .pointer (some ⟨yb, 0, none⟩)] W fun e W' =>
        ∃ bb, e = .returned (.bool bb) ∧ WR J Jx pre (sel lo hi T.flat) W bb W' := by
  induction T with
  | leaf =>
    intro n p pre W h _ _ _ hj _
    obtain rfl : p = none := h
    refine callsIn_of_wp Try.func54 rfl trivial ?_ rfl
    simp only [Try.ntmps54, List.size_toArray, List.length_cons, List.length_nil, Nat.reduceAdd, Nat.reduceSub, Array.replicate_succ, Array.replicate_zero, List.push_toArray, List.append_toArray, List.nil_append, List.cons_append]
    gi_wp2
    go_ret
    exact ⟨true, rfl, .inl ⟨rfl, by simpa [sel, Tn.flat] using hj, Kp.refl _⟩⟩
  | node k0 e0 tl tr ihl ihr =>
    intro n p pre W h hs hk hw hj hN
    obtain ⟨b, p1, p2, rfl, hb, h1, h2, hx⟩ := h.cells
    have hN0 := NC.of hx
    obtain ⟨n0, n1, n2, n3, n4, n5, n6, n8, n9⟩ := hN0
    have cl : W.cell? ⟨lob, 0, none⟩ = some (.string lo) := hw.lo.cell 0
    have ch : W.cell? ⟨hib, 0, none⟩ = some (.string hi) := hw.hi.cell 0
    have H := Lib.hid (And.intro h1 (And.intro h2 (And.intro hx (And.intro hs (And.intro hk (And.intro hw (And.intro hj hN)))))))
    have hk2 : KeysOk (tl.flat ++ (k0, e0) :: tr.flat) := hk
    have o4 := Lib.hid (sz64 hk2.parts.2.2.2)
    have Hk2 := Lib.hid hk2
    clear h1 h2 hx hs hk hw hj hN h hk2
    have hs2 := Lib.hid (show Sorted (tl.flat ++ (k0, e0) :: tr.flat) from H.out.2.2.2.1)
    have hq : ∀ W', W.grownBy W' none → W'.cell? ⟨lob, 0, none⟩ = some (.string lo) ∧ W'.cell? ⟨hib, 0, none⟩ = some (.string hi) ∧ NC W' b k0 e0 p1 p2 ∧ Below W.heap.size W W' := fun W' g => by
      have hb' := grown_below g
      have hw' := H.out.2.2.2.2.2.1.kp (Kp.of_below hb')
      exact ⟨hw'.lo.cell 0, hw'.hi.cell 0, NC.of (H.out.2.2.1.below hb' (H.out.2.2.1.lt)), hb'⟩
    have HQ := Lib.hid hq
    clear hq
    have hto : hi.size = 0 ∨ (hi.size ≠ 0 ∧ kc k0 hi = -1) ∨ (hi.size ≠ 0 ∧ kc k0 hi ≠ -1) := by omega
    by_cases hf : kc k0 lo = -1
    · rcases hto with ht | ⟨ht, ht2⟩ | ⟨ht, ht2⟩
      · have ht' : hi.toList = [] := by rw [ByteArray.toList_eq]; exact List.length_eq_zero_iff.1 (by rw [Array.length_toList, ByteArray.size_data]; exact ht)
        have ht'' : hi.toList.isEmpty = true := by rw [ht']; rfl
        have HS := Lib.hid (show sel lo hi (tl.flat ++ (k0, e0) :: tr.flat) = sel lo hi tr.flat by
          rw [sel_app, sel_none (fun x hx => inR_low (kc_trans (hs2.out.parts.2.2.1 x hx) hf)), sel_cons_out (inR_low hf)]; rfl)
        refine callsIn_of_wp Try.func54 rfl trivial ?_ rfl
        simp only [Try.ntmps54, List.size_toArray, List.length_cons, List.length_nil, Nat.reduceAdd, Nat.reduceSub, Array.replicate_succ, Array.replicate_zero, List.push_toArray, List.append_toArray, List.nil_append, List.cons_append]
        gi_wp2
        gi_quiet ((gi_at_call 46; exact CallsIn.quiet_of (wfc (cmp_is o4.out hlo hf))))
        generalize hW1 : World.drewN _ _ = W1
        have g1 : W.grownBy W1 none := by rw [← hW1]; exact grown_drewN1 _ _
        have G1 : W.grownBy W1 none := g1
        obtain ⟨cl, ch, ⟨n0, n1, n2, n3, n4, n5, n6, n8, n9⟩, _⟩ := HQ.out _ G1
        clear hW1 g1
        gi_wp2
        gi_quiet (fail)
        generalize hW2 : World.drewN _ _ = W2
        have g2 : W1.grownBy W2 none := by rw [← hW2]; exact grown_drewN1 _ _
        have G2 : W.grownBy W2 none := G1.trans g2
        obtain ⟨cl, ch, ⟨n0, n1, n2, n3, n4, n5, n6, n8, n9⟩, _⟩ := HQ.out _ G2
        clear hW2 g2
        gi_wp2
        gi_quiet (fail)
        generalize hW3 : World.drewN _ _ = W3
        have g3 : W2.grownBy W3 none := by rw [← hW3]; exact grown_drewN1 _ _
        have G3 : W.grownBy W3 none := G2.trans g3
        obtain ⟨cl, ch, ⟨n0, n1, n2, n3, n4, n5, n6, n8, n9⟩, _⟩ := HQ.out _ G3
        clear hW3 g3
        gi_wp2
        gi_quiet (fail)
        generalize hW4 : World.drewN _ _ = W4
        have g4 : W3.grownBy W4 none := by rw [← hW4]; exact grown_drewN1 _ _
        have G4 : W.grownBy W4 none := G3.trans g4
        obtain ⟨cl, ch, ⟨n0, n1, n2, n3, n4, n5, n6, n8, n9⟩, _⟩ := HQ.out _ G4
        clear hW4 g4
        gi_wp2
        have hb4 := grown_below (G4.trans (grown_drew1 W4))
        have wk : W4.cell? ⟨wkb, 0, none⟩ = some (.func (.func 54) #[] #[.pointer (some ⟨lob, 0, none⟩), .pointer (some ⟨hib, 0, none⟩), .pointer (some ⟨wkb, 0, none⟩), .pointer (some ⟨yb, 0, none⟩)]) := (H.out.2.2.2.2.2.1.kp (Kp.of_below (grown_below G4))).wk.cell 0
        have ih2 := ihr (n - 1) p2 pre W4.drew (H.out.2.1.below hb4) (hs2.out.parts.2.1) (Hk2.out.parts.2.1) (H.out.2.2.2.2.2.1.kp (Kp.of_below hb4)) (hJ _ _ _ H.out.2.2.2.2.2.2.1 (G4.trans (grown_drew1 W4))) (by have := H.out.2.2.2.2.2.2.2; rw [show sel lo hi (Tn.node k0 e0 tl tr).flat = sel lo hi tr.flat from HS.out] at this; exact this)
        have IH2 := Lib.hid ih2
        clear ih2 hb4
        refine wpIn_region_tail 8 (by kernel_rfl) (by kernel_rfl) ?_
        simp only [List.take_succ_cons, List.take_zero, List.drop_succ_cons, List.drop_zero]
        repeat still_step
        refine wpStill_nil ?_
        gi_wp2_with (first
          | (gi_at_call 54
             refine IH2.out.mono ?_
             rintro e W5 ⟨bb, rfl, hw5⟩
             have HW5 := Lib.hid hw5
             clear hw5 IH2))
        all_goals
          go_ret
          rw [show sel lo hi (Tn.node k0 e0 tl tr).flat = sel lo hi tr.flat from HS.out]
          exact ⟨bb, rfl, HW5.out.base (Kp.of_below (grown_below (G4.trans (grown_drew1 W4))))⟩
      · have ht' : ¬ hi.toList = [] := fun e => by
          rw [ByteArray.toList_eq] at e
          exact ht (by rw [← ByteArray.size_data, ← Array.length_toList, e]; rfl)
        have ht'' : hi.toList.isEmpty = false := by simpa using ht'
        have HS := Lib.hid (show sel lo hi (tl.flat ++ (k0, e0) :: tr.flat) = sel lo hi tr.flat by
          rw [sel_app, sel_none (fun x hx => inR_low (kc_trans (hs2.out.parts.2.2.1 x hx) hf)), sel_cons_out (inR_low hf)]; rfl)
        refine callsIn_of_wp Try.func54 rfl trivial ?_ rfl
        simp only [Try.ntmps54, List.size_toArray, List.length_cons, List.length_nil, Nat.reduceAdd, Nat.reduceSub, Array.replicate_succ, Array.replicate_zero, List.push_toArray, List.append_toArray, List.nil_append, List.cons_append]
        gi_wp2
        gi_quiet ((gi_at_call 46; exact CallsIn.quiet_of (wfc (cmp_is o4.out hlo hf))))
        generalize hW1 : World.drewN _ _ = W1
        have g1 : W.grownBy W1 none := by rw [← hW1]; exact grown_drewN1 _ _
        have G1 : W.grownBy W1 none := g1
        obtain ⟨cl, ch, ⟨n0, n1, n2, n3, n4, n5, n6, n8, n9⟩, _⟩ := HQ.out _ G1
        clear hW1 g1
        gi_wp2
        gi_quiet ((gi_at_call 46; exact CallsIn.quiet_of (wfc (cmp_is o4.out hhi ht2))))
        generalize hW2 : World.drewN _ _ = W2
        have g2 : W1.grownBy W2 none := by rw [← hW2]; exact grown_drewN1 _ _
        have G2 : W.grownBy W2 none := G1.trans g2
        obtain ⟨cl, ch, ⟨n0, n1, n2, n3, n4, n5, n6, n8, n9⟩, _⟩ := HQ.out _ G2
        clear hW2 g2
        gi_wp2
        gi_quiet (fail)
        generalize hW3 : World.drewN _ _ = W3
        have g3 : W2.grownBy W3 none := by rw [← hW3]; exact grown_drewN1 _ _
        have G3 : W.grownBy W3 none := G2.trans g3
        obtain ⟨cl, ch, ⟨n0, n1, n2, n3, n4, n5, n6, n8, n9⟩, _⟩ := HQ.out _ G3
        clear hW3 g3
        gi_wp2
        gi_quiet (fail)
        generalize hW4 : World.drewN _ _ = W4
        have g4 : W3.grownBy W4 none := by rw [← hW4]; exact grown_drewN1 _ _
        have G4 : W.grownBy W4 none := G3.trans g4
        obtain ⟨cl, ch, ⟨n0, n1, n2, n3, n4, n5, n6, n8, n9⟩, _⟩ := HQ.out _ G4
        clear hW4 g4
        gi_wp2
        have hb4 := grown_below (G4.trans (grown_drew1 W4))
        have wk : W4.cell? ⟨wkb, 0, none⟩ = some (.func (.func 54) #[] #[.pointer (some ⟨lob, 0, none⟩), .pointer (some ⟨hib, 0, none⟩), .pointer (some ⟨wkb, 0, none⟩), .pointer (some ⟨yb, 0, none⟩)]) := (H.out.2.2.2.2.2.1.kp (Kp.of_below (grown_below G4))).wk.cell 0
        have ih2 := ihr (n - 1) p2 pre W4.drew (H.out.2.1.below hb4) (hs2.out.parts.2.1) (Hk2.out.parts.2.1) (H.out.2.2.2.2.2.1.kp (Kp.of_below hb4)) (hJ _ _ _ H.out.2.2.2.2.2.2.1 (G4.trans (grown_drew1 W4))) (by have := H.out.2.2.2.2.2.2.2; rw [show sel lo hi (Tn.node k0 e0 tl tr).flat = sel lo hi tr.flat from HS.out] at this; exact this)
        have IH2 := Lib.hid ih2
        clear ih2 hb4
        refine wpIn_region_tail 8 (by kernel_rfl) (by kernel_rfl) ?_
        simp only [List.take_succ_cons, List.take_zero, List.drop_succ_cons, List.drop_zero]
        repeat still_step
        refine wpStill_nil ?_
        gi_wp2_with (first
          | (gi_at_call 54
             refine IH2.out.mono ?_
             rintro e W5 ⟨bb, rfl, hw5⟩
             have HW5 := Lib.hid hw5
             clear hw5 IH2))
        all_goals
          go_ret
          rw [show sel lo hi (Tn.node k0 e0 tl tr).flat = sel lo hi tr.flat from HS.out]
          exact ⟨bb, rfl, HW5.out.base (Kp.of_below (grown_below (G4.trans (grown_drew1 W4))))⟩
      · have ht' : ¬ hi.toList = [] := fun e => by
          rw [ByteArray.toList_eq] at e
          exact ht (by rw [← ByteArray.size_data, ← Array.length_toList, e]; rfl)
        have ht'' : hi.toList.isEmpty = false := by simpa using ht'
        have HS := Lib.hid (show sel lo hi (tl.flat ++ (k0, e0) :: tr.flat) = [] by
          rw [sel_app, sel_none (fun x hx => inR_low (kc_trans (hs2.out.parts.2.2.1 x hx) hf)), sel_cons_out (inR_low hf), sel_none (fun x hx => inR_high ht (not_lt_up (hs2.out.parts.2.2.2.1 x hx) ht2))]; rfl)
        obtain ⟨c2, hc2⟩ : ∃ c, kc k0 hi = c := ⟨_, rfl⟩
        have hd2 : 0 ≤ c2 := by have := kc_range k0 hi; omega
        have hd2' : decide (c2 < 0) = false := by simp; omega
        refine callsIn_of_wp Try.func54 rfl trivial ?_ rfl
        simp only [Try.ntmps54, List.size_toArray, List.length_cons, List.length_nil, Nat.reduceAdd, Nat.reduceSub, Array.replicate_succ, Array.replicate_zero, List.push_toArray, List.append_toArray, List.nil_append, List.cons_append]
        gi_wp2
        gi_quiet ((gi_at_call 46; exact CallsIn.quiet_of (wfc (cmp_is o4.out hlo hf))))
        generalize hW1 : World.drewN _ _ = W1
        have g1 : W.grownBy W1 none := by rw [← hW1]; exact grown_drewN1 _ _
        have G1 : W.grownBy W1 none := g1
        obtain ⟨cl, ch, ⟨n0, n1, n2, n3, n4, n5, n6, n8, n9⟩, _⟩ := HQ.out _ G1
        clear hW1 g1
        gi_wp2
        gi_quiet ((gi_at_call 46; exact CallsIn.quiet_of (wfc (cmp_is o4.out hhi hc2))))
        generalize hW2 : World.drewN _ _ = W2
        have g2 : W1.grownBy W2 none := by rw [← hW2]; exact grown_drewN1 _ _
        have G2 : W.grownBy W2 none := G1.trans g2
        obtain ⟨cl, ch, ⟨n0, n1, n2, n3, n4, n5, n6, n8, n9⟩, _⟩ := HQ.out _ G2
        clear hW2 g2
        gi_wp2
        gi_quiet (fail)
        generalize hW3 : World.drewN _ _ = W3
        have g3 : W2.grownBy W3 none := by rw [← hW3]; exact grown_drewN1 _ _
        have G3 : W.grownBy W3 none := G2.trans g3
        obtain ⟨cl, ch, ⟨n0, n1, n2, n3, n4, n5, n6, n8, n9⟩, _⟩ := HQ.out _ G3
        clear hW3 g3
        gi_wp2
        gi_quiet (fail)
        generalize hW4 : World.drewN _ _ = W4
        have g4 : W3.grownBy W4 none := by rw [← hW4]; exact grown_drewN1 _ _
        have G4 : W.grownBy W4 none := G3.trans g4
        obtain ⟨cl, ch, ⟨n0, n1, n2, n3, n4, n5, n6, n8, n9⟩, _⟩ := HQ.out _ G4
        clear hW4 g4
        gi_wp2
        gi_quiet (fail)
        generalize hW5 : World.drewN _ _ = W5
        have g5 : W4.grownBy W5 none := by rw [← hW5]; exact grown_drewN1 _ _
        have G5 : W.grownBy W5 none := G4.trans g5
        obtain ⟨cl, ch, ⟨n0, n1, n2, n3, n4, n5, n6, n8, n9⟩, _⟩ := HQ.out _ G5
        clear hW5 g5
        gi_wp2
        go_ret
        exact ⟨true, rfl, .inl ⟨rfl, by rw [show sel lo hi (Tn.node k0 e0 tl tr).flat = [] from HS.out]; simpa using hJ _ _ _ H.out.2.2.2.2.2.2.1 G5, Kp.of_below (grown_below G5)⟩⟩
    · rcases hto with ht | ⟨ht, ht2⟩ | ⟨ht, ht2⟩
      · have ht' : hi.toList = [] := by rw [ByteArray.toList_eq]; exact List.length_eq_zero_iff.1 (by rw [Array.length_toList, ByteArray.size_data]; exact ht)
        have ht'' : hi.toList.isEmpty = true := by rw [ht']; rfl
        obtain ⟨c, hc⟩ : ∃ c, kc k0 lo = c := ⟨_, rfl⟩
        have hd : 0 ≤ c := by have := kc_range k0 lo; omega
        have hd' : decide (0 ≤ c) = true := by simpa using hd
        have hsl : sel lo hi (tl.flat ++ (k0, e0) :: tr.flat) = sel lo hi tl.flat ++ (k0, e0) :: sel lo hi tr.flat := by rw [sel_app, sel_cons_in (inR_yes hf (.inl ht))]
        have HS := Lib.hid (And.intro (show sel lo hi (Tn.node k0 e0 tl tr).flat = sel lo hi tl.flat ++ (k0, e0) :: sel lo hi tr.flat from hsl) (show (sel lo hi tl.flat).length + (sel lo hi tr.flat).length + 1 = (sel lo hi (Tn.node k0 e0 tl tr).flat).length by rw [show sel lo hi (Tn.node k0 e0 tl tr).flat = _ from hsl]; simp; omega))
        clear hsl
        refine callsIn_of_wp Try.func54 rfl trivial ?_ rfl
        simp only [Try.ntmps54, List.size_toArray, List.length_cons, List.length_nil, Nat.reduceAdd, Nat.reduceSub, Array.replicate_succ, Array.replicate_zero, List.push_toArray, List.append_toArray, List.nil_append, List.cons_append]
        gi_wp2
        gi_quiet ((gi_at_call 46; exact CallsIn.quiet_of (wfc (cmp_is o4.out hlo hc))))
        generalize hW1 : World.drewN _ _ = W1
        have g1 : W.grownBy W1 none := by rw [← hW1]; exact grown_drewN1 _ _
        have G1 : W.grownBy W1 none := g1
        obtain ⟨cl, ch, ⟨n0, n1, n2, n3, n4, n5, n6, n8, n9⟩, _⟩ := HQ.out _ G1
        clear hW1 g1
        gi_wp2
        gi_quiet (fail)
        generalize hW2 : World.drewN _ _ = W2
        have g2 : W1.grownBy W2 none := by rw [← hW2]; exact grown_drewN1 _ _
        have G2 : W.grownBy W2 none := G1.trans g2
        obtain ⟨cl, ch, ⟨n0, n1, n2, n3, n4, n5, n6, n8, n9⟩, _⟩ := HQ.out _ G2
        clear hW2 g2
        gi_wp2
        have hb2 := grown_below (G2.trans (grown_drew1 W2))
        have wk : W2.cell? ⟨wkb, 0, none⟩ = some (.func (.func 54) #[] #[.pointer (some ⟨lob, 0, none⟩), .pointer (some ⟨hib, 0, none⟩), .pointer (some ⟨wkb, 0, none⟩), .pointer (some ⟨yb, 0, none⟩)]) := (H.out.2.2.2.2.2.1.kp (Kp.of_below (grown_below G2))).wk.cell 0
        have ih1 := ihl (n - 1) p1 pre W2.drew (H.out.1.below hb2) (hs2.out.parts.1) (Hk2.out.parts.1) (H.out.2.2.2.2.2.1.kp (Kp.of_below hb2)) (hJ _ _ _ H.out.2.2.2.2.2.2.1 (G2.trans (grown_drew1 W2))) (by have := H.out.2.2.2.2.2.2.2; have := HS.out.2; omega)
        have IH1 := Lib.hid ih1
        clear ih1 hb2
        refine wpIn_region_tail 7 (by kernel_rfl) (by kernel_rfl) ?_
        simp only [List.take_succ_cons, List.take_zero, List.drop_succ_cons, List.drop_zero]
        repeat still_step
        refine wpStill_nil ?_
        gi_upto_if 38 with (first
          | (gi_at_call 54
             refine IH1.out.mono ?_
             rintro e W3 ⟨bb, rfl, hw3⟩
             have HW3 := Lib.hid hw3
             clear hw3 IH1))
        all_goals
          clear cl ch n0 n1 n2 n3 n4 n5 n6 n8 n9 wk
          cases bb with
          | false =>
            gi_wp2
            go_ret
            exact ⟨false, rfl, .inr ⟨rfl, (by rw [HS.out.1]; exact HW3.out.stop _)⟩⟩
          | true =>
            have hk3 : Kp W W3 := (Kp.of_below (grown_below (G2.trans (grown_drew1 W2)))).trans HW3.out.yes.2
            have hj3 := HW3.out.yes.1
            have HK3 := Lib.hid (And.intro hk3 hj3)
            have HQ3 := Lib.hid (show ∀ W', W3.grownBy W' none → W'.cell? ⟨lob, 0, none⟩ = some (.string lo) ∧ W'.cell? ⟨hib, 0, none⟩ = some (.string hi) ∧ NC W' b k0 e0 p1 p2 ∧ Kp W W' from fun W' g => by
              have kk := hk3.trans (Kp.of_below (grown_below g))
              have hw' := H.out.2.2.2.2.2.1.kp kk
              exact ⟨hw'.lo.cell 0, hw'.hi.cell 0, NC.of (kk.box (.inl rfl) H.out.2.2.1), kk⟩)
            obtain ⟨cl, ch, ⟨n0, n1, n2, n3, n4, n5, n6, n8, n9⟩, _⟩ := HQ3.out _ (World.grownBy.refl _ _)
            clear hk3 hj3
            gi_wp2
            have hy0 := hY (n - 1) (pre ++ sel lo hi tl.flat) (k0, e0) W3.drew (hJ _ _ _ HK3.out.2 (grown_drew1 W3)) (by have := H.out.2.2.2.2.2.2.2; have := HS.out.2; simp only [List.length_append]; omega)
            have yv : W3.cell? ⟨yb, 0, none⟩ = some (.func (.yield l) #[] #[]) := (H.out.2.2.2.2.2.1.kp HK3.out.1).y.cell 0
            obtain ⟨fn, tmps, assign, body, hy, hR⟩ := hy0
            dsimp only [encK] at hy
            have hR2 := RoundIn.mono hR (R' := fun e W4 => ∃ b4, e = .returned (.bool b4) ∧ YR J Jx (pre ++ sel lo hi tl.flat) (k0, e0) W3.drew b4 W4) (fun e W4 h => YR.of h)
            have HR := Lib.hid hR2
            clear hR hR2
            refine wpIn_region_tail 14 (by kernel_rfl) (by kernel_rfl) ?_
            simp only [List.take_succ_cons, List.take_zero, List.drop_succ_cons, List.drop_zero]
            repeat still_step
            refine wpStill_nil ?_
            gi_upto_if 55 with (first
              | ((try refine ⟨fun h => (by cases h), ?_⟩)
                 (with_reducible refine RoundIn.mono HR.out ?_)
                 rintro e W4 ⟨b4, rfl, hw4⟩
                 have HW4 := Lib.hid hw4
                 clear hw4 HR))
            clear cl ch n0 n1 n2 n3 n4 n5 n6 n8 n9 yv hy
            cases b4 with
            | false =>
              gi_wp2
              go_ret
              refine ⟨false, rfl, .inr ⟨rfl, sel lo hi tl.flat ++ [(k0, e0)], ?_, ?_⟩⟩
              · rw [HS.out.1]; exact ⟨sel lo hi tr.flat, by simp⟩
              · rw [← List.append_assoc]; exact HW4.out.no
            | true =>
              have hk4 : Kp W W4 := (HK3.out.1.trans (Kp.refl W3).drew).trans HW4.out.yes.2
              have hj4 := HW4.out.yes.1
              have HK4 := Lib.hid (And.intro hk4 hj4)
              have hw4 := H.out.2.2.2.2.2.1.kp hk4
              have cl : W4.cell? ⟨lob, 0, none⟩ = some (.string lo) := hw4.lo.cell 0
              have wk : W4.cell? ⟨wkb, 0, none⟩ = some (.func (.func 54) #[] #[.pointer (some ⟨lob, 0, none⟩), .pointer (some ⟨hib, 0, none⟩), .pointer (some ⟨wkb, 0, none⟩), .pointer (some ⟨yb, 0, none⟩)]) := hw4.wk.cell 0
              obtain ⟨n0, n1, n2, n3, n4, n5, n6, n8, n9⟩ : NC W4 b k0 e0 p1 p2 := NC.of (hk4.box (.inl rfl) H.out.2.2.1)
              have ih2 := ihr (n - 1) p2 (pre ++ sel lo hi tl.flat ++ [(k0, e0)]) W4.drew ((H.out.2.1).nk hk4.drew.nk hk4.size) (hs2.out.parts.2.1) (Hk2.out.parts.2.1) (H.out.2.2.2.2.2.1.kp hk4.drew) (hJ _ _ _ hj4 (grown_drew1 W4)) (by have := H.out.2.2.2.2.2.2.2; have := HS.out.2; simp only [List.length_append, List.length_cons, List.length_nil]; omega)
              have IH2 := Lib.hid ih2
              clear ih2 hk4 hj4 hw4
              gi_wp2
              refine wpIn_region_tail 8 (by kernel_rfl) (by kernel_rfl) ?_
              simp only [List.take_succ_cons, List.take_zero, List.drop_succ_cons, List.drop_zero]
              repeat still_step
              refine wpStill_nil ?_
              gi_wp2_with (first
                | (gi_at_call 54
                   refine IH2.out.mono ?_
                   rintro e W5 ⟨bb, rfl, hw5⟩
                   have HW5 := Lib.hid hw5
                   clear hw5 IH2))
              go_ret
              refine ⟨bb, rfl, ?_⟩
              rw [HS.out.1]
              exact (HW5.out.base HK4.out.1.drew).join
      · have ht' : ¬ hi.toList = [] := fun e => by
          rw [ByteArray.toList_eq] at e
          exact ht (by rw [← ByteArray.size_data, ← Array.length_toList, e]; rfl)
        have ht'' : hi.toList.isEmpty = false := by simpa using ht'
        obtain ⟨c, hc⟩ : ∃ c, kc k0 lo = c := ⟨_, rfl⟩
        have hd : 0 ≤ c := by have := kc_range k0 lo; omega
        have hd' : decide (0 ≤ c) = true := by simpa using hd
        have hsl : sel lo hi (tl.flat ++ (k0, e0) :: tr.flat) = sel lo hi tl.flat ++ (k0, e0) :: sel lo hi tr.flat := by rw [sel_app, sel_cons_in (inR_yes hf (.inr ht2))]
        have HS := Lib.hid (And.intro (show sel lo hi (Tn.node k0 e0 tl tr).flat = sel lo hi tl.flat ++ (k0, e0) :: sel lo hi tr.flat from hsl) (show (sel lo hi tl.flat).length + (sel lo hi tr.flat).length + 1 = (sel lo hi (Tn.node k0 e0 tl tr).flat).length by rw [show sel lo hi (Tn.node k0 e0 tl tr).flat = _ from hsl]; simp; omega))
        clear hsl
        refine callsIn_of_wp Try.func54 rfl trivial ?_ rfl
        simp only [Try.ntmps54, List.size_toArray, List.length_cons, List.length_nil, Nat.reduceAdd, Nat.reduceSub, Array.replicate_succ, Array.replicate_zero, List.push_toArray, List.append_toArray, List.nil_append, List.cons_append]
        gi_wp2
        gi_quiet ((gi_at_call 46; exact CallsIn.quiet_of (wfc (cmp_is o4.out hlo hc))))
        generalize hW1 : World.drewN _ _ = W1
        have g1 : W.grownBy W1 none := by rw [← hW1]; exact grown_drewN1 _ _
        have G1 : W.grownBy W1 none := g1
        obtain ⟨cl, ch, ⟨n0, n1, n2, n3, n4, n5, n6, n8, n9⟩, _⟩ := HQ.out _ G1
        clear hW1 g1
        gi_wp2
        gi_quiet ((gi_at_call 46; exact CallsIn.quiet_of (wfc (cmp_is o4.out hhi ht2))))
        generalize hW2 : World.drewN _ _ = W2
        have g2 : W1.grownBy W2 none := by rw [← hW2]; exact grown_drewN1 _ _
        have G2 : W.grownBy W2 none := G1.trans g2
        obtain ⟨cl, ch, ⟨n0, n1, n2, n3, n4, n5, n6, n8, n9⟩, _⟩ := HQ.out _ G2
        clear hW2 g2
        gi_wp2
        have hb2 := grown_below (G2.trans (grown_drew1 W2))
        have wk : W2.cell? ⟨wkb, 0, none⟩ = some (.func (.func 54) #[] #[.pointer (some ⟨lob, 0, none⟩), .pointer (some ⟨hib, 0, none⟩), .pointer (some ⟨wkb, 0, none⟩), .pointer (some ⟨yb, 0, none⟩)]) := (H.out.2.2.2.2.2.1.kp (Kp.of_below (grown_below G2))).wk.cell 0
        have ih1 := ihl (n - 1) p1 pre W2.drew (H.out.1.below hb2) (hs2.out.parts.1) (Hk2.out.parts.1) (H.out.2.2.2.2.2.1.kp (Kp.of_below hb2)) (hJ _ _ _ H.out.2.2.2.2.2.2.1 (G2.trans (grown_drew1 W2))) (by have := H.out.2.2.2.2.2.2.2; have := HS.out.2; omega)
        have IH1 := Lib.hid ih1
        clear ih1 hb2
        refine wpIn_region_tail 7 (by kernel_rfl) (by kernel_rfl) ?_
        simp only [List.take_succ_cons, List.take_zero, List.drop_succ_cons, List.drop_zero]
        repeat still_step
        refine wpStill_nil ?_
        gi_upto_if 38 with (first
          | (gi_at_call 54
             refine IH1.out.mono ?_
             rintro e W3 ⟨bb, rfl, hw3⟩
             have HW3 := Lib.hid hw3
             clear hw3 IH1))
        all_goals
          clear cl ch n0 n1 n2 n3 n4 n5 n6 n8 n9 wk
          cases bb with
          | false =>
            gi_wp2
            go_ret
            exact ⟨false, rfl, .inr ⟨rfl, (by rw [HS.out.1]; exact HW3.out.stop _)⟩⟩
          | true =>
            have hk3 : Kp W W3 := (Kp.of_below (grown_below (G2.trans (grown_drew1 W2)))).trans HW3.out.yes.2
            have hj3 := HW3.out.yes.1
            have HK3 := Lib.hid (And.intro hk3 hj3)
            have HQ3 := Lib.hid (show ∀ W', W3.grownBy W' none → W'.cell? ⟨lob, 0, none⟩ = some (.string lo) ∧ W'.cell? ⟨hib, 0, none⟩ = some (.string hi) ∧ NC W' b k0 e0 p1 p2 ∧ Kp W W' from fun W' g => by
              have kk := hk3.trans (Kp.of_below (grown_below g))
              have hw' := H.out.2.2.2.2.2.1.kp kk
              exact ⟨hw'.lo.cell 0, hw'.hi.cell 0, NC.of (kk.box (.inl rfl) H.out.2.2.1), kk⟩)
            obtain ⟨cl, ch, ⟨n0, n1, n2, n3, n4, n5, n6, n8, n9⟩, _⟩ := HQ3.out _ (World.grownBy.refl _ _)
            clear hk3 hj3
            gi_wp2
            have hy0 := hY (n - 1) (pre ++ sel lo hi tl.flat) (k0, e0) W3.drew (hJ _ _ _ HK3.out.2 (grown_drew1 W3)) (by have := H.out.2.2.2.2.2.2.2; have := HS.out.2; simp only [List.length_append]; omega)
            have yv : W3.cell? ⟨yb, 0, none⟩ = some (.func (.yield l) #[] #[]) := (H.out.2.2.2.2.2.1.kp HK3.out.1).y.cell 0
            obtain ⟨fn, tmps, assign, body, hy, hR⟩ := hy0
            dsimp only [encK] at hy
            have hR2 := RoundIn.mono hR (R' := fun e W4 => ∃ b4, e = .returned (.bool b4) ∧ YR J Jx (pre ++ sel lo hi tl.flat) (k0, e0) W3.drew b4 W4) (fun e W4 h => YR.of h)
            have HR := Lib.hid hR2
            clear hR hR2
            refine wpIn_region_tail 14 (by kernel_rfl) (by kernel_rfl) ?_
            simp only [List.take_succ_cons, List.take_zero, List.drop_succ_cons, List.drop_zero]
            repeat still_step
            refine wpStill_nil ?_
            gi_upto_if 55 with (first
              | ((try refine ⟨fun h => (by cases h), ?_⟩)
                 (with_reducible refine RoundIn.mono HR.out ?_)
                 rintro e W4 ⟨b4, rfl, hw4⟩
                 have HW4 := Lib.hid hw4
                 clear hw4 HR))
            clear cl ch n0 n1 n2 n3 n4 n5 n6 n8 n9 yv hy
            cases b4 with
            | false =>
              gi_wp2
              go_ret
              refine ⟨false, rfl, .inr ⟨rfl, sel lo hi tl.flat ++ [(k0, e0)], ?_, ?_⟩⟩
              · rw [HS.out.1]; exact ⟨sel lo hi tr.flat, by simp⟩
              · rw [← List.append_assoc]; exact HW4.out.no
            | true =>
              have hk4 : Kp W W4 := (HK3.out.1.trans (Kp.refl W3).drew).trans HW4.out.yes.2
              have hj4 := HW4.out.yes.1
              have HK4 := Lib.hid (And.intro hk4 hj4)
              have hw4 := H.out.2.2.2.2.2.1.kp hk4
              have cl : W4.cell? ⟨lob, 0, none⟩ = some (.string lo) := hw4.lo.cell 0
              have wk : W4.cell? ⟨wkb, 0, none⟩ = some (.func (.func 54) #[] #[.pointer (some ⟨lob, 0, none⟩), .pointer (some ⟨hib, 0, none⟩), .pointer (some ⟨wkb, 0, none⟩), .pointer (some ⟨yb, 0, none⟩)]) := hw4.wk.cell 0
              obtain ⟨n0, n1, n2, n3, n4, n5, n6, n8, n9⟩ : NC W4 b k0 e0 p1 p2 := NC.of (hk4.box (.inl rfl) H.out.2.2.1)
              have ih2 := ihr (n - 1) p2 (pre ++ sel lo hi tl.flat ++ [(k0, e0)]) W4.drew ((H.out.2.1).nk hk4.drew.nk hk4.size) (hs2.out.parts.2.1) (Hk2.out.parts.2.1) (H.out.2.2.2.2.2.1.kp hk4.drew) (hJ _ _ _ hj4 (grown_drew1 W4)) (by have := H.out.2.2.2.2.2.2.2; have := HS.out.2; simp only [List.length_append, List.length_cons, List.length_nil]; omega)
              have IH2 := Lib.hid ih2
              clear ih2 hk4 hj4 hw4
              gi_wp2
              refine wpIn_region_tail 8 (by kernel_rfl) (by kernel_rfl) ?_
              simp only [List.take_succ_cons, List.take_zero, List.drop_succ_cons, List.drop_zero]
              repeat still_step
              refine wpStill_nil ?_
              gi_wp2_with (first
                | (gi_at_call 54
                   refine IH2.out.mono ?_
                   rintro e W5 ⟨bb, rfl, hw5⟩
                   have HW5 := Lib.hid hw5
                   clear hw5 IH2))
              go_ret
              refine ⟨bb, rfl, ?_⟩
              rw [HS.out.1]
              exact (HW5.out.base HK4.out.1.drew).join
      · have ht' : ¬ hi.toList = [] := fun e => by
          rw [ByteArray.toList_eq] at e
          exact ht (by rw [← ByteArray.size_data, ← Array.length_toList, e]; rfl)
        have ht'' : hi.toList.isEmpty = false := by simpa using ht'
        obtain ⟨c, hc⟩ : ∃ c, kc k0 lo = c := ⟨_, rfl⟩
        have hd : 0 ≤ c := by have := kc_range k0 lo; omega
        have hd' : decide (0 ≤ c) = true := by simpa using hd
        have hsl : sel lo hi (tl.flat ++ (k0, e0) :: tr.flat) = sel lo hi tl.flat := by
          rw [sel_app, sel_cons_out (inR_high ht ht2), sel_none (fun x hx => inR_high ht (not_lt_up (hs2.out.parts.2.2.2.1 x hx) ht2)), List.append_nil]
        have HS := Lib.hid (And.intro (show sel lo hi (Tn.node k0 e0 tl tr).flat = sel lo hi tl.flat from hsl) (show (sel lo hi tl.flat).length ≤ (sel lo hi (Tn.node k0 e0 tl tr).flat).length by rw [show sel lo hi (Tn.node k0 e0 tl tr).flat = _ from hsl]; exact Nat.le_refl _))
        obtain ⟨c2, hc2⟩ : ∃ c, kc k0 hi = c := ⟨_, rfl⟩
        have hd2 : 0 ≤ c2 := by have := kc_range k0 hi; omega
        have hd2' : decide (c2 < 0) = false := by simp; omega
        clear hsl
        refine callsIn_of_wp Try.func54 rfl trivial ?_ rfl
        simp only [Try.ntmps54, List.size_toArray, List.length_cons, List.length_nil, Nat.reduceAdd, Nat.reduceSub, Array.replicate_succ, Array.replicate_zero, List.push_toArray, List.append_toArray, List.nil_append, List.cons_append]
        gi_wp2
        gi_quiet ((gi_at_call 46; exact CallsIn.quiet_of (wfc (cmp_is o4.out hlo hc))))
        generalize hW1 : World.drewN _ _ = W1
        have g1 : W.grownBy W1 none := by rw [← hW1]; exact grown_drewN1 _ _
        have G1 : W.grownBy W1 none := g1
        obtain ⟨cl, ch, ⟨n0, n1, n2, n3, n4, n5, n6, n8, n9⟩, _⟩ := HQ.out _ G1
        clear hW1 g1
        gi_wp2
        gi_quiet ((gi_at_call 46; exact CallsIn.quiet_of (wfc (cmp_is o4.out hhi hc2))))
        generalize hW2 : World.drewN _ _ = W2
        have g2 : W1.grownBy W2 none := by rw [← hW2]; exact grown_drewN1 _ _
        have G2 : W.grownBy W2 none := G1.trans g2
        obtain ⟨cl, ch, ⟨n0, n1, n2, n3, n4, n5, n6, n8, n9⟩, _⟩ := HQ.out _ G2
        clear hW2 g2
        gi_wp2
        have hb2 := grown_below (G2.trans (grown_drew1 W2))
        have wk : W2.cell? ⟨wkb, 0, none⟩ = some (.func (.func 54) #[] #[.pointer (some ⟨lob, 0, none⟩), .pointer (some ⟨hib, 0, none⟩), .pointer (some ⟨wkb, 0, none⟩), .pointer (some ⟨yb, 0, none⟩)]) := (H.out.2.2.2.2.2.1.kp (Kp.of_below (grown_below G2))).wk.cell 0
        have ih1 := ihl (n - 1) p1 pre W2.drew (H.out.1.below hb2) (hs2.out.parts.1) (Hk2.out.parts.1) (H.out.2.2.2.2.2.1.kp (Kp.of_below hb2)) (hJ _ _ _ H.out.2.2.2.2.2.2.1 (G2.trans (grown_drew1 W2))) (by have := H.out.2.2.2.2.2.2.2; have := HS.out.2; omega)
        have IH1 := Lib.hid ih1
        clear ih1 hb2
        refine wpIn_region_tail 7 (by kernel_rfl) (by kernel_rfl) ?_
        simp only [List.take_succ_cons, List.take_zero, List.drop_succ_cons, List.drop_zero]
        repeat still_step
        refine wpStill_nil ?_
        gi_upto_if 38 with (first
          | (gi_at_call 54
             refine IH1.out.mono ?_
             rintro e W3 ⟨bb, rfl, hw3⟩
             have HW3 := Lib.hid hw3
             clear hw3 IH1))
        all_goals
          clear cl ch n0 n1 n2 n3 n4 n5 n6 n8 n9 wk
          cases bb with
          | false =>
            gi_wp2
            go_ret
            exact ⟨false, rfl, .inr ⟨rfl, (by rw [show sel lo hi (Tn.node k0 e0 tl tr).flat = sel lo hi tl.flat from HS.out.1]; exact HW3.out.no)⟩⟩
          | true =>
            have hk3 : Kp W W3 := (Kp.of_below (grown_below (G2.trans (grown_drew1 W2)))).trans HW3.out.yes.2
            have hj3 := HW3.out.yes.1
            have HK3 := Lib.hid (And.intro hk3 hj3)
            have HQ3 := Lib.hid (show ∀ W', W3.grownBy W' none → W'.cell? ⟨lob, 0, none⟩ = some (.string lo) ∧ W'.cell? ⟨hib, 0, none⟩ = some (.string hi) ∧ NC W' b k0 e0 p1 p2 ∧ Kp W W' from fun W' g => by
              have kk := hk3.trans (Kp.of_below (grown_below g))
              have hw' := H.out.2.2.2.2.2.1.kp kk
              exact ⟨hw'.lo.cell 0, hw'.hi.cell 0, NC.of (kk.box (.inl rfl) H.out.2.2.1), kk⟩)
            obtain ⟨cl, ch, ⟨n0, n1, n2, n3, n4, n5, n6, n8, n9⟩, _⟩ := HQ3.out _ (World.grownBy.refl _ _)
            clear hk3 hj3
            gi_wp2
            gi_quiet (fail)
            generalize hW4 : World.drewN _ _ = W4
            have g4 : W3.grownBy W4 none := by rw [← hW4]; exact grown_drewN1 _ _
            obtain ⟨cl, ch, ⟨n0, n1, n2, n3, n4, n5, n6, n8, n9⟩, _⟩ := HQ3.out _ g4
            clear hW4
            gi_wp2
            gi_quiet (fail)
            generalize hW5 : World.drewN _ _ = W5
            have g5 : W4.grownBy W5 none := by rw [← hW5]; exact grown_drewN1 _ _
            clear hW5
            gi_wp2
            go_ret
            exact ⟨true, rfl, .inl ⟨rfl, by rw [show sel lo hi (Tn.node k0 e0 tl tr).flat = sel lo hi tl.flat from HS.out.1]; exact hJ _ _ _ HK3.out.2 (g4.trans g5), HK3.out.1.trans (Kp.of_below (grown_below (g4.trans g5)))⟩⟩
end Go.Proofs.Ytglmhpmjebjcgaa
namespace Go.Proofs.Ytglmhpmjebjcgaa
open Go.RowKit Go.Maps Go.Shelf
attribute [local go_sem] Oper.semAt_some

/-- The dir that dp leads to has the root p; no dir has none. -/
def DTop (W : World) (dp p : Option Addr) : Prop := (dp = none ∧ p = none) ∨ (∃ d, dp = some ⟨d, 0, none⟩ ∧ Box W d 28 #[.pointer p])
theorem DTop.below {W W' : World} {dp p : Option Addr} (h : DTop W dp p) (hb : Below W.heap.size W W') : DTop W' dp p := by
  rcases h with h | ⟨d, h1, h2⟩
  · exact .inl h
  · exact .inr ⟨d, h1, h2.below hb h2.lt⟩
theorem top_dt {W : World} {dp p : Option Addr} (h : DTop W dp p) : Calls Try.prog 44 #[.pointer dp] W fun e w' => e = .returned (.pointer p) ∧ w' = W := by
  rcases h with ⟨rfl, rfl⟩ | ⟨d, rfl, h2⟩
  · exact (top_nil W).mono fun _ _ ⟨h1, h2⟩ => ⟨h1, h2.symm⟩
  · exact (top_any d p W h2).mono fun _ _ ⟨h1, h2⟩ => ⟨h1, h2.symm⟩

set_option maxRecDepth 100000 in
set_option maxHeartbeats 4000000 in
theorem all1_in (n l : Nat) (lo hi : ByteArray) (hlo : lo.size ≤ maxLen) (hhi : hi.size ≤ maxLen) (lob hib db : Nat) (dp p : Option Addr) (T : Tn) (J Jx : List KE → World → Prop) (W : World)
    (hJ : ∀ s W W', J s W → W.grownBy W' none → J s W')
    (hY : ∀ m pre x W, J pre W → pre.length < (sel lo hi T.flat).length → YieldAt Wf m Try.prog l (encK x) W fun e W' => (e = .returned (.bool true) ∧ J (pre ++ [x]) W' ∧ Kp W W') ∨ (e = .returned (.bool false) ∧ Jx (pre ++ [x]) W'))
    (hs : Sorted T.flat) (hk : KeysOk T.flat) (hT : Tr W W.heap.size T p) (hd : DTop W dp p) (h1 : Box W lob 9 #[.string lo]) (h2 : Box W hib 9 #[.string hi]) (h3 : Box W db 23 #[.pointer dp]) (h0 : J [] W) :
    CallsIn Wf n Try.prog 53 #[.func (.yield l) #[] #[], .pointer (some ⟨lob, 0, none⟩), .pointer (some ⟨hib, 0, none⟩), .pointer (some ⟨db, 0, none⟩)] W fun e W' => (∃ v, e = .returned v) ∧
      ((∃ ys, ys = sel lo hi T.flat ∧ J ys W') ∨ (∃ pre, pre <+: sel lo hi T.flat ∧ Jx pre W')) := by
  have hg : ∀ o o', W.grownBy ((W.alloc o).alloc o').drew none := fun o o' => ((World.grownBy_alloc W o none).trans (World.grownBy_alloc _ o' none)).trans (grown_drew1 _)
  obtain ⟨W2, hW2⟩ : ∃ W2, W2 = ((W.alloc (.cells #[.func (.yield l) #[] #[]] 87)).alloc (.cells #[.func (.func 54) #[] #[.pointer (some ⟨lob, 0, none⟩), .pointer (some ⟨hib, 0, none⟩), .pointer (some ⟨W.heap.size + 1, 0, none⟩), .pointer (some ⟨W.heap.size, 0, none⟩)]] 88)).drew := ⟨_, rfl⟩
  have g2 : W.grownBy W2 none := by rw [hW2]; exact hg _ _
  have hb2 := grown_below g2
  have hy2 : Box W2 W.heap.size 87 #[.func (.yield l) #[] #[]] := by rw [hW2]; exact ((Box.new W _ _).alloc _).drew
  have hw2 : Box W2 (W.heap.size + 1) 88 #[.func (.func 54) #[] #[.pointer (some ⟨lob, 0, none⟩), .pointer (some ⟨hib, 0, none⟩), .pointer (some ⟨W.heap.size + 1, 0, none⟩), .pointer (some ⟨W.heap.size, 0, none⟩)]] := by
    rw [hW2]
    have := Box.new (W.alloc (.cells #[.func (.yield l) #[] #[]] 87)) 88 #[.func (.func 54) #[] #[.pointer (some ⟨lob, 0, none⟩), .pointer (some ⟨hib, 0, none⟩), .pointer (some ⟨W.heap.size + 1, 0, none⟩), .pointer (some ⟨W.heap.size, 0, none⟩)]]
    rw [World.size_alloc] at this
    exact this.drew
  have hp := tree_in l lo hi hlo hhi lob hib (W.heap.size + 1) W.heap.size J Jx (sel lo hi T.flat).length hJ hY T (n - 1) p [] W2 (hT.below hb2) hs hk ⟨h1.below hb2 h1.lt, h2.below hb2 h2.lt, hw2, hy2⟩ (hJ _ _ _ h0 g2) (by simp)
  have HP := Lib.hid hp
  have htop := top_dt (hd.below hb2)
  have hc3 : W.cell? ⟨db, 0, none⟩ = some (.pointer dp) := h3.cell 0
  have hl3 := h3.lt
  rw [hW2] at htop
  have HTp := Lib.hid htop
  have HW2 := Lib.hid hW2
  clear hp htop hW2 hg g2 hb2 hy2 hw2 hY hJ
  refine callsIn_of_wp Try.func53 rfl trivial ?_ rfl
  simp only [Try.ntmps53, List.size_toArray, List.length_cons, List.length_nil, Nat.reduceAdd, Nat.reduceSub, Array.replicate_succ, Array.replicate_zero, List.push_toArray, List.append_toArray, List.nil_append, List.cons_append]
  gi_wp2
  refine wpIn_region_tail 3 (by kernel_rfl) (by kernel_rfl) ?_
  simp only [List.take_succ_cons, List.take_zero, List.drop_succ_cons, List.drop_zero]
  repeat still_step
  still_call HTp.out
  refine wpStill_nil ?_
  rw [← HW2.out]
  gi_wp2_with (first
    | (gi_at_call 54
       refine HP.out.mono ?_
       rintro e W5 ⟨bb, rfl, hw5⟩
       have HW5 := Lib.hid hw5
       clear hw5 HP))
  go_end0
  refine ⟨⟨_, rfl⟩, ?_⟩
  rcases HW5.out with ⟨_, h, _⟩ | ⟨_, q, h1, h2⟩
  · exact .inl ⟨_, rfl, h⟩
  · exact .inr ⟨q, h1, h2⟩

set_option maxRecDepth 100000 in
theorem all_any (dp : Option Addr) (lo hi : ByteArray) (w : World) :
    Calls Try.prog 49 #[.pointer dp, .string lo, .string hi] w fun e w' =>
      e = .returned (.func (.func 53) #[] #[.pointer (some ⟨w.heap.size + 1, 0, none⟩), .pointer (some ⟨w.heap.size + 2, 0, none⟩), .pointer (some ⟨w.heap.size, 0, none⟩)]) ∧
      w' = ((w.alloc (.cells #[.pointer dp] 23)).alloc (.cells #[.string lo] 9)).alloc (.cells #[.string hi] 9) := by
  go_enter Try.func49, Try.ntmps49
  go_wp2
  go_ret
  exact ⟨rfl, rfl⟩
end Go.Proofs.Ytglmhpmjebjcgaa
namespace Go.Proofs.Ytglmhpmjebjcgaa
open Go.RowKit Go.Maps Go.Shelf
attribute [local go_sem] Oper.semAt_some

theorem room_none (k : Nat) : Wf.room k := fun d h => by cases h
theorem YieldAt.any {m m' : Nat} {P : Program} {l : Nat} {args : Array Value} {W : World} {R : Ending → World → Prop} (h : YieldAt Wf m P l args W R) : YieldAt Wf m' P l args W R := by
  obtain ⟨fn, tmps, assign, body, hy, hR⟩ := h
  exact ⟨fn, tmps, assign, body, hy, hR.1, fun c cs _ => hR.2 c cs (room_none _)⟩
theorem all_stops (n : Nat) (lo hi : ByteArray) (hlo : lo.size ≤ maxLen) (hhi : hi.size ≤ maxLen) (lob hib db : Nat) (dp p : Option Addr) (T : Tn) (w : World) (hs : Sorted T.flat) (hk : KeysOk T.flat) (hT : Tr w w.heap.size T p) (hd : DTop w dp p)
    (h1 : Box w lob 9 #[.string lo]) (h2 : Box w hib 9 #[.string hi]) (h3 : Box w db 23 #[.pointer dp]) :
    SeqStopsK Wf n Try.prog 53 #[.pointer (some ⟨lob, 0, none⟩), .pointer (some ⟨hib, 0, none⟩), .pointer (some ⟨db, 0, none⟩)] encK Kp (fun ys => ys = sel lo hi T.flat) (fun pre => pre <+: sel lo hi T.flat) (sel lo hi T.flat).length w :=
  fun l J Jx W hW hJ _ hY h0 => all1_in n l lo hi hlo hhi lob hib db dp p T J Jx W (fun s A B h g => hJ s A B none h g (fun r e => by cases e)) (fun m pre x W1 hj hl => YieldAt.any (hY pre x W1 hj hl))
    hs hk (hT.below hW) (hd.below hW) (h1.below hW h1.lt) (h2.below hW h2.lt) (h3.below hW h3.lt) h0

def keC (x : KE) : List Value := .string x.1 :: x.2.cells
theorem keC_len (l : List KE) : (l.flatMap keC).length = l.length * 7 := by
  induction l with
  | nil => rfl
  | cons p l ih => simp only [List.flatMap_cons, List.length_append, ih, List.length_cons]; show 7 + _ = _; omega
theorem one_ke (l : List KE) : ∀ u ∈ l.flatMap keC, u.oneCell' = true := by
  intro u hu
  obtain ⟨p, _, hp⟩ := List.mem_flatMap.1 hu
  simp only [keC, En.cells, List.mem_cons, List.not_mem_nil, or_false] at hp
  rcases hp with rfl | rfl | rfl | rfl | rfl | rfl | rfl <;> rfl
theorem infoKE : (Try.prog.info? 58).map (fun i => (i.zero, i.size, i.bytes)) = some (some (.agg #[.string ⟨#[]⟩, .int .i64 0, .int .i64 0, .int .i64 0, .int .i64 0, .int .i64 0, .bool false]), 7, 64) := by kernel_rfl
theorem kp_put (W : World) (l : Nat) (o o' : Obj) (h : W.heap[l]? = some o) (hc : o.isCells = false) : Kp W (W.putObj l o') :=
  ⟨by simp, fun b cs t _ hb => by
    have hne : b ≠ l := fun e => by subst e; rw [h] at hb; cases hb; cases hc
    exact (World.putObj_heap_other hne).trans hb⟩
/-- A turn of one block that holds no node, text or function. -/
theorem Kp.grown {W W' : World} {row : Option Nat} (hg : W.grownBy W' row) (hr : ∀ k, row = some k → ∀ cs t, KpT t → W.heap[k]? ≠ some (.cells cs t (0, 0))) : Kp W W' :=
  ⟨hg.size, fun b cs t ht hb => (hg.block b (Array.getElem?_eq_some_iff.1 hb).1 fun e => hr b e.symm cs t ht hb).trans hb⟩
theorem kp_row {W : World} {base : Nat} {e : TypeId} {size : Nat} {v : Value} {n : Nat} {xs : List Value} (h : W.ownsRow base e size v n xs) (he : ¬ KpT e) : ∀ k, v.ownBlock = some k → ∀ cs t, KpT t → W.heap[k]? ≠ some (.cells cs t (0, 0)) := by
  intro k hk cs t ht hc
  rcases h.2 with ⟨rfl, _⟩ | ⟨g, cap, cur, rfl, _, hh, _⟩
  · cases hk
  · have e1 : g = k := by simpa [Value.ownBlock] using hk
    subst e1
    rw [hh] at hc
    injection hc with hc
    injection hc with _ hc
    exact he (hc ▸ ht)
theorem kp_box {W : World} {b : Nat} {e : TypeId} {v : Value} (h : Boxed W b e v) (he : ¬ KpT e) : ∀ cs t, KpT t → W.heap[b]? ≠ some (.cells cs t (0, 0)) := by
  intro cs t ht hc
  rw [show W.heap[b]? = _ from h] at hc
  injection hc with hc
  injection hc with _ hc
  exact he (hc ▸ ht)
theorem box_own1 {β : Type} (B b : Nat) (t : TypeId) (ar : Array Value) : OwnFrom B (fun (_ : β) W => Box W b t ar) := fun _ W W' row h hg hr =>
  h.grown hg fun e => by
    obtain ⟨_, o, ho, hc⟩ := hr b e.symm
    unfold Box at h
    rw [h] at ho; cases ho; cases hc

/-- What Range answers: xs in a row of its own. -/
def RV (xs : List KE) (w : World) (e : Ending) (w' : World) : Prop := ∃ v, e = .returned v ∧ w'.ownsRow w.heap.size 58 7 v xs.length (xs.flatMap keC) ∧ Below w.heap.size w w'

set_option maxRecDepth 100000 in
set_option maxHeartbeats 4000000 in
theorem range_any (dp p : Option Addr) (T : Tn) (lo hi : ByteArray) (lim : Int) (w : World) (hlo : lo.size ≤ maxLen) (hhi : hi.size ≤ maxLen) (hs : Sorted T.flat) (hk : KeysOk T.flat) (hT : Tr w w.heap.size T p) (hd : DTop w dp p)
    (hN : T.flat.length ≤ 2199023255488) (hl1 : 1 ≤ lim) (hl2 : lim ≤ 9223372036854775807) :
    Calls Try.prog 27 #[.pointer dp, .string lo, .string hi, .int .i64 lim] w (RV ((sel lo hi T.flat).take lim.toNat) w) := by
  obtain ⟨i0, hi0, hz0, hs0, hy0⟩ := info_parts infoKE
  have hsl : (sel lo hi T.flat).length ≤ 2199023255488 := Nat.le_trans (List.length_filter_le _ _) hN
  have hlm : Hid (∀ m : Nat, m = lim.toNat → (m : Int) = lim) := fun m h => by omega
  refine cfw (n := 9) ?_
  refine callsIn_of_wp_marks Try.func27 rfl trivial ?_ rfl
  simp only [Try.ntmps27, List.size_toArray, List.length_cons, List.length_nil, Nat.reduceAdd, Nat.reduceSub, Array.replicate_succ, Array.replicate_zero, List.push_toArray, List.append_toArray, List.nil_append, List.cons_append]
  have hdl : decide (lim < 1) = false := by simp; omega
  gi_wp2_with (first
    | (gi_at_call 49
       refine (wfc (all_any dp lo hi _)).mono ?_
       rintro e w' ⟨rfl, rfl⟩))
  have b1 := Boxed.new w 3 (.int .i64 lim)
  have b2 := Boxed.new (w.alloc (.cells #[.int .i64 lim] 3)) 43 (.slice none 0 0)
  have b3 := Box.new ((w.alloc (.cells #[.int .i64 lim] 3)).alloc (.cells #[.slice none 0 0] 43)) 23 #[.pointer dp]
  have b4 := Box.new (((w.alloc (.cells #[.int .i64 lim] 3)).alloc (.cells #[.slice none 0 0] 43)).alloc (.cells #[.pointer dp] 23)) 9 #[.string lo]
  have b5 := Box.new ((((w.alloc (.cells #[.int .i64 lim] 3)).alloc (.cells #[.slice none 0 0] 43)).alloc (.cells #[.pointer dp] 23)).alloc (.cells #[.string lo] 9)) 9 #[.string hi]
  have hb0 : Below w.heap.size w (((((w.alloc (.cells #[.int .i64 lim] 3)).alloc (.cells #[.slice none 0 0] 43)).alloc (.cells #[.pointer dp] 23)).alloc (.cells #[.string lo] 9)).alloc (.cells #[.string hi] 9)) :=
    (((((Below.refl _ _).alloc (Nat.le_refl _) _).alloc (by simp) _).alloc (by simp <;> omega) _).alloc (by simp <;> omega) _).alloc (by simp <;> omega) _
  simp only [World.size_alloc] at b2 b3 b4 b5
  have b1' := (((b1.alloc (.cells #[.slice none 0 0] 43)).alloc (.cells #[.pointer dp] 23)).alloc (.cells #[.string lo] 9)).alloc (.cells #[.string hi] 9)
  have b2' := ((b2.alloc (.cells #[.pointer dp] 23)).alloc (.cells #[.string lo] 9)).alloc (.cells #[.string hi] 9)
  have b3' := (b3.alloc (.cells #[.string lo] 9)).alloc (.cells #[.string hi] 9)
  have b4' := b4.alloc (.cells #[.string hi] 9)
  have hsz : (((((w.alloc (.cells #[.int .i64 lim] 3)).alloc (.cells #[.slice none 0 0] 43)).alloc (.cells #[.pointer dp] 23)).alloc (.cells #[.string lo] 9)).alloc (.cells #[.string hi] 9)).heap.size = w.heap.size + 5 := by simp
  obtain ⟨W0, hW0⟩ : ∃ W0, (((((w.alloc (.cells #[.int .i64 lim] 3)).alloc (.cells #[.slice none 0 0] 43)).alloc (.cells #[.pointer dp] 23)).alloc (.cells #[.string lo] 9)).alloc (.cells #[.string hi] 9)) = W0 := ⟨_, rfl⟩
  rw [hW0] at b1' b2' b3' b4' b5 hb0 hsz ⊢
  clear hW0 b1 b2 b3 b4
  refine wpIn_rangeFunc_ownH rfl (by omega) (gf := 53) (lb := #[.pointer (some ⟨w.heap.size + 1 + 1 + 1, 0, none⟩), .pointer (some ⟨w.heap.size + 1 + 1 + 2, 0, none⟩), .pointer (some ⟨w.heap.size + 1 + 1, 0, none⟩)]) rfl trivial (enters_of Try.func53 (by kernel_rfl) rfl)
    (all_stops 8 lo hi hlo hhi _ _ _ dp p T W0 hs hk (hT.below hb0) (hd.below hb0) b4' b5 b3') (fun h k => Kp.trans h k) (fun W l o o' _ h hc _ => kp_put W l o o' h hc) (Below.refl _ _) (fun _ => rfl)
    (fun (pre : List KE) W => (∃ v, Boxed W (w.heap.size + 1) 43 v ∧ W.ownsRow w.heap.size 58 7 v pre.length (pre.flatMap keC) ∧ True) ∧ Boxed W w.heap.size 3 (.int .i64 lim) ∧ Below w.heap.size w W ∧ ((pre.length : Int) < lim))
    (fun c (pre : List KE) W => c = .exit 0 ∧ (∃ v, Boxed W (w.heap.size + 1) 43 v ∧ W.ownsRow w.heap.size 58 7 v pre.length (pre.flatMap keC) ∧ True) ∧ Below w.heap.size w W ∧ ((pre.length : Int) = lim))
    (OwnFrom.and (Own.from (holdsRow_own w.heap.size (w.heap.size + 1) 43 58 7 (fun pre : List KE => pre.length) (fun pre : List KE => pre.flatMap keC) (fun _ _ => True)) _) (OwnFrom.and (Own.from (boxed_own _ _ _) _) (OwnFrom.and (ownFrom_below (Nat.le_refl _) (by omega)) (ownFrom_pure _ _))))
    (fun c => OwnFrom.and (ownFrom_pure _ _) (OwnFrom.and (Own.from (holdsRow_own w.heap.size (w.heap.size + 1) 43 58 7 (fun pre : List KE => pre.length) (fun pre : List KE => pre.flatMap keC) (fun _ _ => True)) _) (OwnFrom.and (ownFrom_below (Nat.le_refl _) (by omega)) (ownFrom_pure _ _))))
    ⟨⟨_, b2', World.ownsRow_nil _ _ _ _, trivial⟩, b1', hb0, by simp; omega⟩
    (fun (x : KE) a' W => ∃ Bx, w.heap.size + 2 ≤ Bx ∧ Box W Bx 38 x.2.cells.toArray ∧ a' = { tmps := #[.pointer dp, .string lo, .string hi, .int .i64 lim, undef, undef, undef, .pointer (some ⟨w.heap.size, 0, none⟩), .slice none 0 0, .pointer (some ⟨w.heap.size + 1, 0, none⟩), .string x.1, .pointer (some ⟨Bx, 0, none⟩), .int .i64 lim, .bool false, .pointer dp, .string lo, .string hi, .func (.func 53) #[] #[.pointer (some ⟨w.heap.size + 1 + 1 + 1, 0, none⟩), .pointer (some ⟨w.heap.size + 1 + 1 + 2, 0, none⟩), .pointer (some ⟨w.heap.size + 1 + 1, 0, none⟩)], .string x.1, x.2.v, undef, undef, undef, undef, undef, undef, undef, undef, undef, undef, undef], defers := [] })
    (fun x a' s A B row h hg hr => by obtain ⟨Bx, h1, h2, h3⟩ := h; exact ⟨Bx, h1, box_own1 (β := Unit) _ Bx _ _ s A B row h2 hg hr, h3⟩)
    ?assign ?body ?done ?stop
  case assign =>
    rintro l pre x W K ⟨⟨v, hv, hrow, _⟩, hlb, hB, hlt⟩ hK
    unfold encK
    gi_wp2
    have hB2 := hB.size
    refine hK _ _ ((KeepsOthers.alloc _ _).from _) (Kp.of_below (bal _ _)) ⟨⟨v, hv.alloc _, hrow.alloc _, trivial⟩, hlb.alloc _, hB.alloc hB2 _, hlt⟩ ⟨W.heap.size, by have := hv.lt; omega, Box.new W _ _, rfl⟩
  case body =>
    rintro l pre x a' W hl ⟨r, hr⟩ ⟨⟨v, hv, hrow, _⟩, hlb, hB, hlt⟩ ⟨Bx, hBx, bX, rfl⟩ hlN
    have hc := hv.cell
    have hcl := hlb.cell
    have hcx := bX.cell
    unfold En.cells at hcx
    have Hr := Lib.hid hr
    have hN2 : pre.length + 1 ≤ 2199023255488 := by omega
    have HS := Lib.hid (And.intro hv (And.intro hrow (And.intro hlb (And.intro hB bX))))
    have hkr : ¬ KpT 58 := by unfold KpT; decide
    have hkb : ¬ KpT 43 := by unfold KpT; decide
    have HK := Lib.hid (And.intro hkr hkb)
    have hvl := hv.lt
    clear hr hv hrow hlb hB bX hkr hkb hlN
    by_cases heq : ((pre.length : Int) + 1 = lim)
    all_goals
      first | have hde : decide ((pre.length : Int) + 1 = lim) = true := decide_eq_true heq | have hde : decide ((pre.length : Int) + 1 = lim) = false := decide_eq_false heq
      gi_wp2_with (first
        | (gi_at_builtin
           refine wpListIn_append_own _ rfl (.tmp 20) (.tmp 24) 43 rfl w.heap.size 58 i0 _ 7 64 Try.underlying43 hi0 hz0 hs0 hy0 rfl (by decide) v pre.length (pre.flatMap keC) rfl (HS.out.2.1.alloc _) ⟨W.heap.size, 0, none⟩ 1 1 (keC x) rfl rfl (World.news_of_block (cs := (keC x).toArray) (t := 58) (fr := (0, 0)) (heap_alloc_new W _)) (by simp [keC, En.cells, Value.oneCell']) (by unfold maxLen; omega) (by omega) (by have := HS.out.2.2.2.1.size; simp; omega) ?_
           intro v' w1 hown' hgrow _
           obtain ⟨g', cap', rfl⟩ := ownsRow_succ hown'
           obtain ⟨hv1, hv2, hr2, hk2, hb2⟩ := HS.out.1.appended (by decide) HS.out.2.1 HS.out.2.2.2.1.size (by omega) hown' hgrow
           have hc1 := hv1.cell
           have hf1 := hv1.frozen
           have hcl1 := ((HS.out.2.2.1.alloc (.cells (keC x).toArray 58)).kept hgrow ((HS.out.2.2.1.alloc (.cells (keC x).toArray 58)).not_row (by decide) (HS.out.2.1.alloc (.cells (keC x).toArray 58))))
           have hkp1 : Kp W w1 := (Kp.of_below (bal W (.cells (keC x).toArray 58))).trans (Kp.grown hgrow (kp_row (HS.out.2.1.alloc _) HK.out.1))
           have hlb2 := hcl1.other (B' := w.heap.size + 1) (by omega) (.slice (some ⟨g', 0, none⟩) (pre.length + 1) cap')
           have hll2 := hcl1.cell
           have HS2 := Lib.hid (And.intro hv2 (And.intro hr2 (And.intro hk2 (And.intro hb2 (And.intro hlb2 (hkp1.trans (Kp.grown (grownBy_setCell' w1 (w.heap.size + 1) (.slice (some ⟨g', 0, none⟩) (pre.length + 1) cap')) (fun k e => by cases e; exact kp_box hv1 HK.out.2))))))))
           clear hv1 hv2 hr2 hk2 hb2 hown' hgrow hcl1 hkp1 hlb2))
      first
        | exact ⟨HS2.out.2.2.1.from _, HS2.out.2.2.2.2.2, ⟨⟨_, HS2.out.1, by simpa using HS2.out.2.1, trivial⟩, HS2.out.2.2.2.2.1, HS.out.2.2.2.1.trans HS2.out.2.2.2.1, by simp only [List.length_append, List.length_cons, List.length_nil]; omega⟩⟩
        | exact ⟨HS2.out.2.2.1.from _, rfl, ⟨_, HS2.out.1, by simpa using HS2.out.2.1, trivial⟩, HS.out.2.2.2.1.trans HS2.out.2.2.2.1, by simp only [List.length_append, List.length_cons, List.length_nil]; omega⟩
  case done =>
    rintro D ys W hD rfl ⟨⟨v, hv, hrow, _⟩, hlb, hB, hlt⟩ hK
    have hc := hv.cell
    have HH := Lib.hid (And.intro hrow hB)
    have HKK := Lib.hid hK
    clear hrow hB hK
    gi_wp2
    refine ⟨by simp, .inl ⟨_, _, rfl, run_takeDeferred HKK.out, ?_⟩⟩
    refine ⟨_, results_tmp rfl _ _ _, ?_⟩
    rw [List.take_of_length_le (show (sel lo hi T.flat).length ≤ lim.toNat by omega)]
    exact ⟨v, rfl, ownsRow_putObj HH.out.1 _ HKK.out rfl, HH.out.2.trans (belowK_b (w := w) (Nat.le_refl _) W D _ _ (by omega) HKK.out rfl rfl)⟩
  case stop =>
    rintro D c pre W hD ⟨t, ht⟩ ⟨rfl, ⟨v, hv, hrow, _⟩, hB, hln⟩ hK
    have hc := hv.cell
    have hR : (sel lo hi T.flat).take lim.toNat = pre := by rw [← ht, show lim.toNat = pre.length by omega, List.take_left]
    have HH := Lib.hid (And.intro hrow (And.intro hB hR))
    have HKK := Lib.hid hK
    clear hrow hB hK hR ht
    gi_wp2
    refine ⟨by simp, .inl ⟨_, _, rfl, run_takeDeferred HKK.out, ?_⟩⟩
    refine ⟨_, results_tmp rfl _ _ _, ?_⟩
    rw [HH.out.2.2]
    exact ⟨v, rfl, ownsRow_putObj HH.out.1 _ HKK.out rfl, HH.out.2.1.trans (belowK_b (w := w) (Nat.le_refl _) W D _ _ (by omega) HKK.out rfl rfl)⟩
end Go.Proofs.Ytglmhpmjebjcgaa
/- A range over a function whose iterator goes through another one: what the caller keeps abides the turn of any block that holds no cells and was laid behind it (the iterator's own loop record is such a one). -/
namespace Go.Proofs.Ytglmhpmjebjcgaa
open Go.RowKit Go.Maps Go.Shelf

theorem keeps_up {B B' : Nat} {W W' : World} (h : KeepsFrom B W W') (hB : B ≤ B') : KeepsFrom B' W W' := ⟨h.size, fun k o hk h1 h2 => h.same k o (by omega) h1 h2⟩
theorem own_up {β : Type} {B B' : Nat} {I : β → World → Prop} (h : OwnFrom B I) (hB : B ≤ B') : OwnFrom B' I := fun s W W' row hs hg hr => h s W W' row hs hg fun r e => by obtain ⟨h1, h2⟩ := hr r e; exact ⟨by omega, h2⟩

/-- What an iterator promises to a body that keeps what is no cells behind the iterator's start. -/
def SeqM {α : Type} (F : Fence) (n : Nat) (P : Program) (g : Nat) (lb : Array Value) (encs : α → Array Value) (K : World → World → Prop) (S Sp : List α → Prop) (N : Nat) (w : World) : Prop :=
  ∀ (l : Nat) (J Jx : List α → World → Prop) (W : World), Below w.heap.size w W → l < W.heap.size → OwnFrom W.heap.size J → OwnFrom W.heap.size Jx →
    (∀ pre x V, J pre V → pre.length < N → YieldAt F (n - 1) P l (encs x) V fun e V' => ((e = .returned (.bool true) ∧ J (pre ++ [x]) V' ∧ K V V') ∨ (e = .returned (.bool false) ∧ Jx (pre ++ [x]) V')) ∧ KeepsFrom W.heap.size V V') →
    J [] W →
    CallsIn F n P g (#[.func (.yield l) #[] #[]] ++ lb) W fun e W' => (∃ v, e = .returned v) ∧ ((∃ xs, S xs ∧ J xs W') ∨ (∃ pre, Sp pre ∧ Jx pre W'))

theorem own_abides {β : Type} {B : Nat} {J : β → World → Prop} (h : OwnFrom B J) : AbidesFrom B J := fun s W W' row hs hg hr => h s W W' row hs hg fun r e => by
  obtain ⟨h1, o, h2, h3⟩ := hr r e
  exact ⟨h1, o, h2, Obj.not_cells_of_walk h3⟩
theorem yield_imp {F : Fence} {m : Nat} {P : Program} {l : Nat} {args : Array Value} {W : World} {R R' : Ending → World → Prop} (h : YieldAt F m P l args W R) (hr : ∀ e W', R e W' → R' e W') : YieldAt F m P l args W R' := by
  obtain ⟨fn, tmps, assign, body, hy, hR⟩ := h
  exact ⟨fn, tmps, assign, body, hy, hR.mono hr⟩
theorem SeqM.of_stops {α : Type} {F : Fence} {n : Nat} {P : Program} {g : Nat} {lb : Array Value} {encs : α → Array Value} {K : World → World → Prop} {S Sp : List α → Prop} {N : Nat} {w : World}
    (h : SeqStopsK F n P g lb encs K S Sp N w) : SeqM F n P g lb encs K S Sp N w := fun l J Jx W hb _ hJ hJx hY h0 =>
  h l J Jx W hb (own_abides hJ) (own_abides hJx) (fun pre x V hj hl => yield_imp (hY pre x V hj hl) fun _ _ h => h.1) h0

/-- A loop's record at its block, and the block of its deferred calls ahead of it. -/
structure BK (B : Nat) (r : Loop) (W : World) : Prop where
  dfr : W.heap[B]? = some (.deferred (some []))
  rcd : W.heap[B + 1]? = some (.loop r)
section
variable {B : Nat} {r : Loop} {W W' : World}
theorem BK.lt (h : BK B r W) : B + 1 < W.heap.size := (Array.getElem?_eq_some_iff.1 h.rcd).1
theorem BK.keeps (h : BK B r W) (k : KeepsFrom B W W') : BK B r W' := ⟨k.same _ _ (Nat.le_refl _) h.dfr rfl, k.same _ _ (by omega) h.rcd rfl⟩
theorem BK.turn (h : BK B r W) (r' : Loop) : BK B r' (W.putObj (B + 1) (.loop r')) := ⟨(World.putObj_heap_other (by omega)).trans h.dfr, World.putObj_heap_same h.lt⟩
theorem BK.own {β : Type} (B : Nat) (r : Loop) : OwnFrom (B + 2) (fun (_ : β) W => BK B r W) := fun _ W W' row h hg hr => by
  have hb : ∀ k, k < B + 2 → W'.heap[k]? = W.heap[k]? := fun k hk => by
    refine hg.block k (by have := h.lt; omega) fun e => ?_
    have := (hr k e.symm).1
    omega
  exact ⟨(hb B (by omega)).trans h.dfr, (hb (B + 1) (by omega)).trans h.rcd⟩
theorem BK.keepsTurn (_ : BK B r W) (r' : Loop) : KeepsFrom (B + 2) W (W.putObj (B + 1) (.loop r')) := KeepsFrom.of_grownBy (grownBy_putObj' W (B + 1) (.loop r')) fun j e => by cases e; omega
end

set_option maxHeartbeats 1000000 in
theorem wpIn_rangeFunc_ownM {F : Fence} {n : Nat} {P : Program} {w : World} {α : Type} {g : Operand} {ps : Array Tmp} {assign body : Code} {Q : Exit → Act → World → Prop} {a : Act}
    (hro : F.round = none) (h1 : 1 ≤ n) {gf : Nat} {lb : Array Value} (hg : a.eval g = .func (.func gf) #[] lb) (hFg : F.fn gf) (eg : ∀ args w, (callFunc gf args).run P w = .ok (.enter gf args) w)
    {encs : α → Array Value} {K : World → World → Prop} {S Sp : List α → Prop} {N : Nat} {w0 : World} (hseq : SeqM F (n - 1) P gf lb encs K S Sp N w0)
    (hKt : ∀ {A B C : World}, K A B → K B C → K A C) (hKb : ∀ (W : World) (l : Nat) (o o' : Obj), w.heap.size ≤ l → W.heap[l]? = some o → o.isCells = false → o.isWalk = false → K W (W.putObj l o')) (hb0 : Below w0.heap.size w0 w) (hps : ∀ x, (encs x).size = ps.size)
    (I : List α → World → Prop) (Ix : Code → List α → World → Prop) (hI : OwnFrom w.heap.size I) (hIx : ∀ c, OwnFrom w.heap.size (Ix c)) (h0 : I [] w) (Ax : α → Act → World → Prop) (hAx : ∀ x a', OwnFrom w.heap.size (fun (_ : Unit) W => Ax x a' W))
    (hassign : ∀ (l : Nat) (pre : List α) (x : α) (W : World) (C : Act → World → Prop), I pre W → (∀ a' W', KeepsFrom w.heap.size W W' → K W W' → I pre W' → Ax x a' W' → C a' W') →
      assign.wpIn (F.inRound l) (n - 1 - 1) P (Exit.then C (fun _ _ _ => False)) { tmps := (ps.zip (encs x)).foldl (fun t (p, v) => t.setIfInBounds p v) a.tmps, defers := [] } W)
    (hbody : ∀ (l : Nat) (pre : List α) (x : α) (a' : Act) (W : World), w.heap.size ≤ l → (∃ r, W.heap[l]? = some (.loop r)) → I pre W → Ax x a' W → pre.length < N → body.wpIn (F.inRound l) (n - 1 - 1) P (ownPostG w.heap.size K I Ix (pre ++ [x]) W) a' W)
    (hdone : ∀ (D : Nat) (xs : List α) (W : World), w.heap.size ≤ D → S xs → I xs W → W.heap[D]? = some (.deferred (some [])) → Q .normal { a with defers := { target := .collected D, args := #[] } :: a.defers } W)
    (hstop : ∀ (D : Nat) (c : Code) (pre : List α) (W : World), w.heap.size ≤ D → Sp pre → Ix c pre W → W.heap[D]? = some (.deferred (some [])) → c.wpIn F n P Q { a with defers := { target := .collected D, args := #[] } :: a.defers } W) :
    (Code.rangeFunc g ps assign body).wpIn F n P Q a w := by
  refine wpIn_rangeFunc fun fn hfn => ?_
  rw [hro]
  obtain ⟨R, hR⟩ : ∃ R : LoopState → Option Code → Loop, R = fun st pe => { state := st, pending := pe, fn, tmps := a.tmps, params := ps, assign, body, defers := w.heap.size } := ⟨_, rfl⟩
  obtain ⟨W1, hW1⟩ : ∃ W1, (w.alloc (.deferred (some []))).alloc (.loop (R .ready none)) = W1 := ⟨_, rfl⟩
  have hz1 : W1.heap.size = w.heap.size + 2 := by rw [← hW1]; simp
  have hk1 : BK w.heap.size (R .ready none) W1 := by
    have q := World.alloc_heap_new (w.alloc (.deferred (some []))) (.loop (R .ready none))
    rw [World.size_alloc] at q
    rw [← hW1]
    exact ⟨(Below.heap_alloc _ _ _ (by simp)).trans (World.alloc_heap_new w _), q⟩
  have hi1 : I [] W1 := by rw [← hW1]; exact hI.alloc _ (hI.alloc _ h0)
  have hl1 : Below w0.heap.size w0 W1 := by
    rw [← hW1]
    have := hb0.size
    exact (hb0.alloc this _).alloc (by simp; omega) _
  refine ⟨w.heap.size + 1, [{ target := .collected w.heap.size, args := #[] }], W1, { target := .fn (.func gf) lb, args := #[.func (.yield (w.heap.size + 1)) #[] #[]] }, W1, gf,
    #[.func (.yield (w.heap.size + 1)) #[] #[]] ++ lb, W1, ?_, ?_, ?_, ?_, fun _ => h1, ?_⟩
  · rw [← hW1, hR]
    exact run_enterLoop_outer _ _ _ _ _
  · simp only [resolve, hg]
    simp [go_sem]
  · intro f' hf'
    simp [Target.leads] at hf'
    subst hf'
    exact hFg
  · simp [invoke, go_sem, eg]
  · refine (hseq (w.heap.size + 1) (fun pre W => I pre W ∧ BK w.heap.size (R .ready none) W) (fun pre W => ∃ c, Ix c pre W ∧ BK w.heap.size (R .done (some c)) W) W1 hl1 (by omega)
      ((own_up hI (by omega)).and (by rw [hz1]; exact BK.own _ _)) ?_ ?_ ⟨hi1, hk1⟩).mono ?_
    · rintro s A B row ⟨c, hc, hk⟩ hgr hrw
      exact ⟨c, own_up (hIx c) (by omega) s A B row hc hgr hrw, BK.own (β := Unit) w.heap.size _ () A B row hk hgr (by rw [← hz1]; exact hrw)⟩
    · rintro pre x W ⟨hi, hk⟩ hlen
      have hy := run_yield (P := P) (args := encs x) hk.rcd (by rw [hR]; exact hps x)
      rw [hR] at hy
      refine ⟨fn, _, assign, body, hy, roundIn_of_wpIn hfn (hassign _ pre x W _ hi ?_)⟩
      intro a' Wa kf kp ia ax
      have ka := hk.keeps kf
      refine ⟨_, run_beginRound ka.rcd (by rw [hR]), ?_⟩
      have kb := ka.turn { R .ready none with state := .busy }
      refine wpIn_mono (hbody _ pre x a' _ (by omega) ⟨_, kb.rcd⟩ (hI.putObj _ ia (by omega) ka.rcd rfl) ((hAx x a').putObj (s := ()) _ ax (by omega) ka.rcd rfl) hlen) ?_
      have fin : ∀ (jump : Option Code) (W3 : World), KeepsFrom w.heap.size (Wa.putObj (w.heap.size + 1) (.loop { R .ready none with state := .busy })) W3 →
          (Instr.endRound (w.heap.size + 1) jump).run P W3 = .ok (.bool jump.isNone) (W3.putObj (w.heap.size + 1) (.loop (R (if jump.isNone then .ready else .done) jump))) ∧
          BK w.heap.size { R .ready none with state := .busy } W3 ∧ BK w.heap.size (R (if jump.isNone then .ready else .done) jump) (W3.putObj (w.heap.size + 1) (.loop (R (if jump.isNone then .ready else .done) jump))) ∧
          KeepsFrom W1.heap.size W (W3.putObj (w.heap.size + 1) (.loop (R (if jump.isNone then .ready else .done) jump))) := fun jump W3 k3 => by
        have k4 := kb.keeps k3
        have he := run_endRound (P := P) jump k4.rcd
        refine ⟨by rw [hR] at he ⊢; exact he, k4, k4.turn _, ?_⟩
        rw [hz1]
        exact (((keeps_up kf (by omega)).trans (ka.keepsTurn _)).trans (keeps_up k3 (by omega))).trans (k4.keepsTurn _)
      rintro e a3 W3 hp
      cases e with
      | normal =>
        obtain ⟨p1, p2, p3⟩ := hp
        obtain ⟨q1, q2, q3, q4⟩ := fin none W3 p1
        exact ⟨_, _, q1, .inl ⟨rfl, ⟨hI.putObj _ p3 (by omega) q2.rcd rfl, q3⟩, hKt kp (hKt (hKt (hKb _ _ _ _ (by omega) ka.rcd rfl rfl) p2) (hKb _ _ _ _ (by omega) q2.rcd rfl rfl))⟩, q4⟩
      | ret =>
        obtain ⟨p1, p2⟩ := hp
        obtain ⟨q1, q2, q3, q4⟩ := fin (some .ret) W3 p1
        exact ⟨_, _, q1, .inr ⟨rfl, .ret, (hIx _).putObj _ p2 (by omega) q2.rcd rfl, q3⟩, q4⟩
      | exit id =>
        obtain ⟨p1, p2⟩ := hp
        obtain ⟨q1, q2, q3, q4⟩ := fin (some (.exit id)) W3 p1
        exact ⟨_, _, q1, .inr ⟨rfl, .exit id, (hIx _).putObj _ p2 (by omega) q2.rcd rfl, q3⟩, q4⟩
      | goto t =>
        obtain ⟨p1, p2⟩ := hp
        obtain ⟨q1, q2, q3, q4⟩ := fin (some (.goto t)) W3 p1
        exact ⟨_, _, q1, .inr ⟨rfl, .goto t, (hIx _).putObj _ p2 (by omega) q2.rcd rfl, q3⟩, q4⟩
      | panic ch => exact hp.elim
      | outgrown => exact hp.elim
    · rintro e W2 ⟨⟨v, rfl⟩, ⟨xs, hS, hi, hk⟩ | ⟨pre, hSp, c, hi, hk⟩⟩
      · have he := run_endLoop (P := P) hk.rcd (by rw [hR]; simp)
        exact ⟨none, _, by rw [hR] at he; exact he, hdone _ xs _ (Nat.le_refl _) hS (hI.putObj _ hi (by omega) hk.rcd rfl) (hk.turn _).dfr⟩
      · have he := run_endLoop (P := P) hk.rcd (by rw [hR]; simp)
        exact ⟨some c, _, by rw [hR] at he; exact he, hstop _ c pre _ (Nat.le_refl _) hSp ((hIx c).putObj _ hi (by omega) hk.rcd rfl) (hk.turn _).dfr⟩
end Go.Proofs.Ytglmhpmjebjcgaa
/- octet.After: the least text above all that begin with a prefix. -/
namespace Go.Proofs.Ytglmhpmjebjcgaa
open Go.RowKit Go.Maps

/-- Within a letter of more than one byte there is no byte of 255. -/
theorem dec_cont (s : ByteArray) (pos : Nat) (h : pos < s.size) : 1 ≤ (Utf8.decode s pos).2 ∧ pos + (Utf8.decode s pos).2 ≤ s.size ∧ ∀ k, 1 ≤ k → k < (Utf8.decode s pos).2 → (s.get! (pos + k)).toNat / 64 = 2 := by
  have hd : ∀ d : Nat × Nat, d = Utf8.decode s pos → 1 ≤ d.2 ∧ pos + d.2 ≤ s.size ∧ ∀ k, 1 ≤ k → k < d.2 → (s.get! (pos + k)).toNat / 64 = 2 := by
    intro d hd
    simp only [Utf8.decode] at hd
    split at hd
    · subst hd; exact ⟨Nat.le_refl _, h, fun k h1 h2 => by have h2' : k < 1 := h2; omega⟩
    · split at hd
      · rename_i hc
        simp only [Bool.and_eq_true, decide_eq_true_eq, beq_iff_eq] at hc
        split at hd
        · subst hd
          refine ⟨by show 1 ≤ 2; omega, by show pos + 2 ≤ s.size; omega, fun k h1 h2 => ?_⟩
          have h2' : k < 2 := h2
          obtain rfl : k = 1 := by omega
          exact hc.2.2
        · subst hd; exact ⟨Nat.le_refl _, h, fun k h1 h2 => by have h2' : k < 1 := h2; omega⟩
      · split at hd
        · rename_i hc
          simp only [Bool.and_eq_true, decide_eq_true_eq, beq_iff_eq] at hc
          split at hd
          · subst hd
            refine ⟨by show 1 ≤ 3; omega, by show pos + 3 ≤ s.size; omega, fun k h1 h2 => ?_⟩
            have h2' : k < 3 := h2
            rcases (show k = 1 ∨ k = 2 by omega) with rfl | rfl
            · exact hc.1.2.2
            · exact hc.2.2
          · subst hd; exact ⟨Nat.le_refl _, h, fun k h1 h2 => by have h2' : k < 1 := h2; omega⟩
        · split at hd
          · rename_i hc
            simp only [Bool.and_eq_true, decide_eq_true_eq, beq_iff_eq] at hc
            split at hd
            · subst hd
              refine ⟨by show 1 ≤ 4; omega, by show pos + 4 ≤ s.size; omega, fun k h1 h2 => ?_⟩
              have h2' : k < 4 := h2
              rcases (show k = 1 ∨ k = 2 ∨ k = 3 by omega) with rfl | rfl | rfl
              · exact hc.1.1.2.2
              · exact hc.1.2.2
              · exact hc.2.2
            · subst hd; exact ⟨Nat.le_refl _, h, fun k h1 h2 => by have h2' : k < 1 := h2; omega⟩
          · subst hd; exact ⟨Nat.le_refl _, h, fun k h1 h2 => by have h2' : k < 1 := h2; omega⟩
  exact hd _ rfl

/-- What the loop of After knows of the bytes ahead of pos. -/
def AInv (p : ByteArray) (pos : Nat) (last : Int) : Prop :=
  (last = -1 ∨ ∃ j : Nat, last = j ∧ j + 1 < p.size ∧ (p.get! j).toNat ≠ 255) ∧ ∀ j : Nat, last < j → j + 1 < pos → (p.get! j).toNat ≠ 255 → (p.get! (j + 1)).toNat ≠ 255
theorem AInv.start (p : ByteArray) : AInv p 0 (-1) := ⟨.inl rfl, fun j _ h => by omega⟩
theorem AInv.miss {p : ByteArray} {pos : Nat} {last : Int} (h : AInv p pos last) (hp : pos < p.size) (h0 : pos = 0 ∨ ∃ m, pos = m + 1 ∧ (p.get! m).toNat = 255) : AInv p (pos + (Utf8.decode p pos).2) last := by
  obtain ⟨h1, h2⟩ := h
  obtain ⟨d1, d2, d3⟩ := dec_cont p pos hp
  refine ⟨h1, fun j hj hl hn => ?_⟩
  by_cases hlt : j + 1 < pos
  · exact h2 j hj hlt hn
  · by_cases he : j + 1 = pos
    · rcases h0 with h0 | ⟨m, hm, hm2⟩
      · omega
      · obtain rfl : m = j := by omega
        exact absurd hm2 hn
    · have := d3 (j + 1 - pos) (by omega) (by omega)
      rw [show pos + (j + 1 - pos) = j + 1 by omega] at this
      omega
theorem AInv.hit {p : ByteArray} {m : Nat} (hp : m + 1 < p.size) (hm : (p.get! m).toNat ≠ 255) : AInv p (m + 1 + (Utf8.decode p (m + 1)).2) (m : Int) := by
  obtain ⟨d1, d2, d3⟩ := dec_cont p (m + 1) hp
  refine ⟨.inr ⟨m, rfl, hp, hm⟩, fun j hj hl hn => ?_⟩
  have := d3 (j + 1 - (m + 1)) (by omega) (by omega)
  rw [show m + 1 + (j + 1 - (m + 1)) = j + 1 by omega] at this
  omega
/-- The last byte that is not 255. -/
def ALast (p : ByteArray) (last : Int) : Prop := (last = -1 ∨ ∃ j : Nat, last = j ∧ j < p.size ∧ (p.get! j).toNat ≠ 255) ∧ ∀ j : Nat, last < j → j < p.size → (p.get! j).toNat = 255
theorem AInv.fin {p : ByteArray} {last : Int} (h : AInv p p.size last) (h0 : p.size = 0 ∨ ∃ m, p.size = m + 1 ∧ (p.get! m).toNat = 255) : ALast p last := by
  obtain ⟨h1, h2⟩ := h
  refine ⟨?_, fun j hj hl => ?_⟩
  · rcases h1 with h1 | ⟨j, e, h1, h3⟩
    · exact .inl h1
    · exact .inr ⟨j, e, by omega, h3⟩
  · rcases h0 with h0 | ⟨m, hm, hm2⟩
    · omega
    · refine Classical.byContradiction fun hn => ?_
      have hall : ∀ d, j + d ≤ m → (p.get! (j + d)).toNat ≠ 255 := by
        intro d
        induction d with
        | zero => intro _; exact hn
        | succ d ih => intro hd; exact h2 (j + d) (by omega) (by omega) (ih (by omega))
      have := hall (m - j) (by omega)
      rw [show j + (m - j) = m by omega] at this
      exact this hm2
theorem ALast.top {p : ByteArray} {m : Nat} (hs : p.size = m + 1) (hm : (p.get! m).toNat ≠ 255) : ALast p (m : Int) := ⟨.inr ⟨m, rfl, by omega, hm⟩, fun j h1 h2 => by omega⟩

/-- What After answers. -/
def AftR (p : ByteArray) (e : Ending) : Prop :=
  (e = .returned (.tuple #[.string ⟨#[]⟩, .bool false]) ∧ ∀ b ∈ p.data.toList, b = 255) ∨
  ∃ (q : List UInt8) (c : UInt8) (m : Nat) (hi : ByteArray), e = .returned (.tuple #[.string hi, .bool true]) ∧ p.data.toList = q ++ c :: List.replicate m 255 ∧ c ≠ 255 ∧ hi.data.toList = q ++ [c + 1]

theorem get_str (p : ByteArray) (k : Nat) (h : k < p.size) : p.get! k = p[k] := by
  simp [ByteArray.get!, getElem!_pos, h]
  rfl
theorem get_list (p : ByteArray) (k : Nat) (h : k < p.size) : p.data.toList[k]'(by simpa using h) = p.get! k := by
  rw [get_str p k h]
  rfl
theorem u255 (c : UInt8) : c.toNat = 255 ↔ c = 255 := ⟨fun h => UInt8.toNat_inj.1 (by rw [h]; rfl), fun h => by rw [h]; rfl⟩
theorem ALast.none_ {p : ByteArray} (h : ALast p (-1)) : ∀ b ∈ p.data.toList, b = 255 := by
  intro b hb
  obtain ⟨i, hi, he⟩ := List.getElem_of_mem hb
  have hi' : i < p.size := by simpa using hi
  have := h.2 i (by omega) hi'
  rw [← get_list p i hi', he] at this
  exact (u255 b).1 this
theorem ALast.some_ {p : ByteArray} {j : Nat} (h : ALast p (j : Int)) : ∃ hj : j < p.size, p[j] ≠ 255 ∧ p.data.toList = p.data.toList.take j ++ p[j] :: List.replicate (p.size - (j + 1)) 255 := by
  obtain ⟨h1, h2⟩ := h
  rcases h1 with h1 | ⟨j', e, h3, h4⟩
  · omega
  · obtain rfl : j = j' := by omega
    refine ⟨h3, fun hc => h4 ?_, ?_⟩
    · rw [get_str p j h3, hc]; rfl
    · have hl : j < p.data.toList.length := by simpa using h3
      have e1 : p.data.toList = p.data.toList.take j ++ p.data.toList[j] :: p.data.toList.drop (j + 1) := by rw [← List.drop_eq_getElem_cons hl, List.take_append_drop]
      have e2 : p.data.toList.drop (j + 1) = List.replicate (p.size - (j + 1)) 255 := by
        refine List.eq_replicate_iff.2 ⟨by simp, fun b hb => ?_⟩
        obtain ⟨i, hi, he⟩ := List.getElem_of_mem hb
        rw [List.getElem_drop] at he
        have hi' : j + 1 + i < p.size := by rw [List.length_drop] at hi; have : p.data.toList.length = p.size := by simp
                                            omega
        have := h2 (j + 1 + i) (by omega) hi'
        rw [← get_list p _ hi', he] at this
        exact (u255 b).1 this
      rw [e2] at e1
      exact e1
end Go.Proofs.Ytglmhpmjebjcgaa
