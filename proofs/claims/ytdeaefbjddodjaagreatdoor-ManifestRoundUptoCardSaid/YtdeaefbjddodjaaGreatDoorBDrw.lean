import Derived.Test.YtdeaefbjddodjaaGreatDoorMem
import Derived.OrdersHeld
import Derived.StillTail
import Derived.RegionTactic
import Derived.Deep.RegionHeld
/-
  A region that draws its order and ENDS IN A STORE TO A CELL THAT IT LOADS: a condition S on the world is asked behind every operation BUT NUMBER m (the store, which waits for all the loads). A load that S foretells is taken first. No program in sight.
-/
namespace Go.Proofs.YtdeaefbjddodjaaGreatDoor
open Go.RowKit Go.Maps

section
variable {P : Program} {md : Region.Mode} {ops : Array Oper} {Q : Exit → Act → World → Prop} {S : World → Prop} {m : Nat}
/-- Whatever comes up: S behind it, unless it is number m. -/
def WT (P : Program) (md : Region.Mode) (ops : Array Oper) (Q : Exit → Act → World → Prop) (S : World → Prop) (m : Nat) : Nat → Array Bool → Act → World → Prop
  | 0, done, a, w => Region.ready md ops done = [] ∧ Q .normal a w
  | f + 1, done, a, w => (Region.ready md ops done = [] → Q .normal a w) ∧
      ∀ j ∈ Region.ready md ops done, wpOp P ops Q j (fun a' w' => (j ≠ m → S w') ∧ WT P md ops Q S m f (done.setIfInBounds j true) a' w') a w
theorem WT.any : ∀ (f : Nat) (done : Array Bool) (a : Act) (w : World), WT P md ops Q S m f done a w → wpAny P md ops Q f done a w
  | 0, _, _, _, h => h
  | f + 1, _, _, _, h => ⟨h.1, fun j hj => wpOp_mono (fun a' w' q => WT.any f _ a' w' q.2) (h.2 j hj)⟩
theorem wt_waits {i : Nat} (hw : Region.waitsFor md ops m i = true) {done : Array Bool} (h : m ∈ Region.ready md ops done) : done.getD i false = true := by
  obtain ⟨om, h1, e, he, hb, hon⟩ := Region.waitsFor_spec hw
  obtain ⟨_, o, ho, hall⟩ := mem_ready.1 h
  rw [h1] at ho
  cases ho
  rw [← hon]
  exact hall e he hb
theorem WT.first {i : Nat} {oi : Oper} {v : Value} (hi : ops[i]? = some oi) (hs : Region.noSelect ops = true) (hw : Region.waitsFor md ops m i = true)
    (hQ : ∀ c a w, Q (.panic c) (a.put oi.dst v) w → Q (.panic c) a w) : ∀ (f : Nat) (done : Array Bool) (a : Act) (w : World),
      (∀ j oj, ops[j]? = some oj → j ≠ i → done.getD j true = false → (∀ e ∈ oj.after, Region.binds md e = true → e.on ≠ i) → oi.apart ops oj = true) →
      i ∈ Region.ready md ops done → YieldsIf P ops S oi v a → S w → WT P md ops Q S m f (done.setIfInBounds i true) (a.put oi.dst v) w → WT P md ops Q S m (f + 1) done a w
  | 0, done, a, w, _, hr, hy, hS, H => by
    refine ⟨fun h => (by rw [h] at hr; cases hr), fun j hj => ?_⟩
    rcases Classical.em (j = i) with rfl | hji
    · exact hy.wpOp hi hS ⟨fun _ => hS, H⟩
    · have h1 := ready_mono hj hji
      rw [H.1] at h1
      cases h1
  | f + 1, done, a, w, hfree, hr, hy, hS, H => by
    refine ⟨fun h => (by rw [h] at hr; cases hr), fun j hj => ?_⟩
    rcases Classical.em (j = i) with rfl | hji
    · exact hy.wpOp hi hS ⟨fun _ => hS, H⟩
    · have hpend : done.getD i true = false := (mem_ready.1 hr).1
      have hnot : done.getD i false ≠ true := fun h => by
        rcases Nat.lt_or_ge i done.size with hlt | hge
        · simp [hlt] at hpend h; rw [hpend] at h; cases h
        · simp [Array.getElem?_eq_none hge] at h
      have hjm : j ≠ m := fun e => by subst e; exact hnot (wt_waits hw hj)
      obtain ⟨hjun, oj, hoj, hall⟩ := mem_ready.1 hj
      have hno : ∀ e ∈ oj.after, Region.binds md e = true → e.on ≠ i := fun e he hb heq => hnot (by rw [← heq]; exact hall e he hb)
      have h2 := wpOp_putIf hoj (hfree j oj hoj hji hjun hno) (fun cs b => Region.noSelect_spec hs i oi cs b hi) (fun cs b => Region.noSelect_spec hs j oj cs b hoj) hQ hy (H.2 j (ready_mono hj hji))
      refine wpOp_mono (fun a' w' q => ⟨q.2.1, WT.first hi hs hw hQ f (done.setIfInBounds j true) a' w' (fun k ok hk hki hun hn => hfree k ok hk hki ?_ hn) (ready_mono hr (Ne.symm hji)) q.1 (q.2.1 hjm) ?_⟩) h2
      · rcases Classical.em (j = k) with rfl | hjk
        · exact hjun
        · rw [getD_set_ne true hjk] at hun; exact hun
      · rw [Array.setIfInBounds_comm _ _ hji]
        exact q.2.2

/-- The beginning. -/
theorem WT.start {id : Nat} {a : Act} {w : World} (S : World → Prop) (m : Nat) (hm : P.follows .mixedOrders = true) (h : WT P .any ops Q S m ops.size (Array.replicate ops.size false) a w.drew) : (Code.region id ops true).wp P Q a w :=
  wp_region_any hm (WT.any _ _ _ _ h)
/-- Number i is taken first. -/
theorem WT.take (i : Nat) {oi : Oper} {v : Value} {f : Nat} {done : Array Bool} {a : Act} {w : World} (hi' : ops.toList[i]? = some oi) (hs : Region.noSelect ops = true) (hw : Region.waitsFor md ops m i = true) (hf : Region.free md ops done i = true) (hr : (Region.ready md ops done).contains i = true)
    (hQ : ∀ c a w, Q (.panic c) (a.put oi.dst v) w → Q (.panic c) a w) (hy : YieldsIf P ops S oi v a) (hS : S w)
    (h : WT P md ops Q S m f (done.setIfInBounds i true) (a.put oi.dst v) w) : WT P md ops Q S m (f + 1) done a w :=
  have hi : ops[i]? = some oi := by rw [← hi', Array.getElem?_toList]
  WT.first hi hs hw hQ f done a w (Region.free_spec hi hf) (by simpa using hr) hy hS h
/-- One alone may come up, and it is not number m. -/
theorem WT.step (i : Nat) {o : Oper} {f : Nat} {done : Array Bool} {a : Act} {w : World} (ho' : ops.toList[i]? = some o) (hr : Region.ready md ops done = [i]) (hne : i ≠ m)
    (h : ∀ K : Act → World → Prop, Hid (∀ a w, S w → WT P md ops Q S m f (done.setIfInBounds i true) a w → K a w) → if Region.wanted o (yielded ops a.tmps) = true then Oper.wp P o a w K Q else K (a.put o.dst undef) w) : WT P md ops Q S m (f + 1) done a w := by
  have ho : ops[i]? = some o := by rw [← ho', Array.getElem?_toList]
  refine ⟨fun e => (by rw [hr] at e; cases e), fun j hj => ?_⟩
  rw [hr] at hj
  obtain rfl : j = i := by simpa using hj
  exact wpOp_step ho fun K hK => h K (Lib.hid fun a w h1 h2 => hK a w ⟨fun _ => h1, h2⟩)
/-- Number m comes up alone. -/
theorem WT.last (i : Nat) {o : Oper} {f : Nat} {done : Array Bool} {a : Act} {w : World} (ho' : ops.toList[i]? = some o) (hr : Region.ready md ops done = [i]) (he : i = m)
    (h : ∀ K : Act → World → Prop, Hid (∀ a w, WT P md ops Q S m f (done.setIfInBounds i true) a w → K a w) → if Region.wanted o (yielded ops a.tmps) = true then Oper.wp P o a w K Q else K (a.put o.dst undef) w) : WT P md ops Q S m (f + 1) done a w := by
  have ho : ops[i]? = some o := by rw [← ho', Array.getElem?_toList]
  refine ⟨fun e => (by rw [hr] at e; cases e), fun j hj => ?_⟩
  rw [hr] at hj
  obtain rfl : j = i := by simpa using hj
  exact wpOp_step ho fun K hK => h K (Lib.hid fun a w h2 => hK a w ⟨fun hn => absurd he hn, h2⟩)
theorem WT.done {f : Nat} {done : Array Bool} {a : Act} {w : World} (hr : Region.ready md ops done = []) (h : Q .normal a w) : WT P md ops Q S m f done a w := by
  cases f with
  | zero => exact ⟨hr, h⟩
  | succ f => exact ⟨fun _ => h, by rw [hr]; simp⟩
end
end Go.Proofs.YtdeaefbjddodjaaGreatDoor
