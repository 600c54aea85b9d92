import Derived.Test.YtglmhpmjebjcgaaKf
import Derived.Test.YtglmhpmjebjcgaaKa
import Derived.OrdersHeld
import Derived.StillTail
import Derived.RegionTactic
import Derived.Deep.RegionHeld
/- chronicleref8, the document's own dir: Compare; what a dir is in memory; Rank, at. -/
namespace Go.Proofs.Ytglmhpmjebjcgaa
open Go.RowKit Go.Maps

/-- The document's Compare: the first difference, or that of the lengths. -/
def cmp8 : List UInt8 → List UInt8 → Int
  | x :: a, y :: b => if x.toNat = y.toNat then cmp8 a b else (x.toNat : Int) - y.toNat
  | [], b => - (b.length : Int)
  | a, [] => a.length
theorem cmp8_neg : ∀ a b : List UInt8, cmp8 a b < 0 ↔ cmpB a b = -1
  | [], [] => by simp [cmp8, cmpB]
  | [], y :: b => by simp [cmp8, cmpB]
  | x :: a, [] => by simp [cmp8, cmpB]; omega
  | x :: a, y :: b => by
    simp only [cmp8, cmpB]
    by_cases h : x.toNat = y.toNat
    · rw [if_pos h, if_neg (by omega), if_neg (by omega)]
      exact cmp8_neg a b
    · rw [if_neg h]
      by_cases h2 : x.toNat < y.toNat
      · rw [if_pos h2]; simp; omega
      · rw [if_neg h2, if_pos (by omega)]; simp; omega
theorem cmp8_diff {a b : List UInt8} {k : Nat} (ha : k < a.length) (hb : k < b.length) (h : ¬ a[k].toNat = b[k].toNat) : cmp8 (a.drop k) (b.drop k) = (a[k].toNat : Int) - b[k].toNat := by
  rw [List.drop_eq_getElem_cons ha, List.drop_eq_getElem_cons hb]; simp only [cmp8]; rw [if_neg h]
theorem cmp8_next {a b : List UInt8} {k : Nat} (ha : k < a.length) (hb : k < b.length) (h : a[k].toNat = b[k].toNat) : cmp8 (a.drop k) (b.drop k) = cmp8 (a.drop (k + 1)) (b.drop (k + 1)) := by
  rw [List.drop_eq_getElem_cons ha, List.drop_eq_getElem_cons hb]; simp only [cmp8]; rw [if_pos h]
theorem cmp8_end {a b : List UInt8} {k : Nat} (hk : k ≤ a.length ∧ k ≤ b.length) (h : ¬ k < a.length ∨ ¬ k < b.length) : cmp8 (a.drop k) (b.drop k) = (a.length : Int) - b.length := by
  rcases Classical.em (k < a.length) with h1 | h1
  · have h2 : b.drop k = [] := List.drop_of_length_le (by omega)
    rw [h2, List.drop_eq_getElem_cons h1]
    simp only [cmp8, List.length_cons, List.length_drop]
    omega
  · have h2 : a.drop k = [] := List.drop_of_length_le (by omega)
    rw [h2]
    simp only [cmp8, List.length_drop]
    omega

set_option maxRecDepth 100000 in
set_option maxHeartbeats 1000000 in
theorem compare8 (s t : ByteArray) (w : World) (hs : s.size ≤ maxLen) (ht : t.size ≤ maxLen) :
    Calls Try.prog 48 #[.string s, .string t] w fun e w' => (∃ r : Int, e = .returned (.int .i64 r) ∧ (r < 0 ↔ kc s t = -1)) ∧ ∃ n, w' = w.drewN n := by
  unfold maxLen at hs ht
  go_enter Try.func48, Try.ntmps48
  go_wp2
  go_loopw [5] (fun i wr => ∃ (k n : Nat), k ≤ s.size ∧ k ≤ t.size ∧ i = .int .i64 k ∧ wr = w.drewN n ∧ cmp8 s.data.toList t.data.toList = cmp8 (s.data.toList.drop k) (t.data.toList.drop k)) (fun i _ => s.size - (intOf i).toNat)
  case atStart => exact ⟨0, 0, Nat.zero_le _, Nat.zero_le _, rfl, rfl, rfl⟩
  case round =>
    obtain ⟨k, n, hks, hkt, rfl, rfl, hc⟩ := hrel
    have Hc := Lib.hid hc
    clear hc
    by_cases hlt : k < s.size
    · by_cases hlt' : k < t.size
      · have H1 := Lib.hid (cmp8_diff (a := s.data.toList) (b := t.data.toList) (k := k) (by simpa using hlt) (by simpa using hlt'))
        have H3 := Lib.hid (cmp8_next (a := s.data.toList) (b := t.data.toList) (k := k) (by simpa using hlt) (by simpa using hlt'))
        have hk0 : (0 : Int) ≤ k := by omega
        have hk1 : (k : Int) < s.size := by omega
        have hk2 : (k : Int) < t.size := by omega
        by_cases ha : s[k].toNat = t[k].toNat
        · have heq : (s[k].toNat : Int) = (t[k].toNat : Int) := by omega
          go_wp2
          go_quiet (fail)
          go_wp2
          go_roundw
          case rel => exact ⟨k + 1, _, by omega, by omega, by go_num, rfl, by rw [Hc.out, H3.out ha]⟩
          case measure => simp [intOf]; omega
        · have hne : ¬ (s[k].toNat : Int) = (t[k].toNat : Int) := by omega
          have hb1 := s[k].toNat_lt
          have hb2 := t[k].toNat_lt
          go_wp2
          go_quiet (fail)
          go_wp2
          go_quiet (fail)
          go_wp2
          go_ret
          exact ⟨⟨(s[k].toNat : Int) - t[k].toNat, by go_num, by rw [kc, ← cmp8_neg, Hc.out, H1.out ha]; rfl⟩, _, by simp only [World.drewN_drewN]; rfl⟩
      · have He := Lib.hid (cmp8_end (a := s.data.toList) (b := t.data.toList) (k := k) (by simp; omega) (.inr (by simpa using hlt')))
        go_wp2
        go_ret
        exact ⟨⟨(s.size : Int) - t.size, by go_num, by rw [kc, ← cmp8_neg, Hc.out, He.out]; simp⟩, _, rfl⟩
    · have He := Lib.hid (cmp8_end (a := s.data.toList) (b := t.data.toList) (k := k) (by simp; omega) (.inl (by simpa using hlt)))
      go_wp2
      go_ret
      exact ⟨⟨(s.size : Int) - t.size, by go_num, by rw [kc, ← cmp8_neg, Hc.out, He.out]; simp⟩, _, rfl⟩

/-- The document's dir at d holds the list xs, in a row of its own from block B on, whose block is g. -/
def RR (w : World) (B d : Nat) (v : Value) (xs : List KE) : Prop := Box w d 45 #[v] ∧ w.ownsRow B 58 7 v xs.length (xs.flatMap keC) ∧ Sorted xs ∧ KeysOk xs
end Go.Proofs.Ytglmhpmjebjcgaa
/-
  A region that draws its order and ENDS IN A STORE TO A CELL THAT IT LOADS: a condition S on the world is asked behind every operation BUT NUMBER m (the store, which waits for all the loads). A load that S foretells is taken first. No program in sight.
-/
namespace Go.Proofs.Ytglmhpmjebjcgaa
open Go.RowKit Go.Maps

section
variable {P : Program} {md : Region.Mode} {ops : Array Oper} {Q : Exit → Act → World → Prop} {S : World → Prop} {m : Nat}
/-- Whatever comes up: S behind it, unless it is number m. -/
def WT (P : Program) (md : Region.Mode) (ops : Array Oper) (Q : Exit → Act → World → Prop) (S : World → Prop) (m : Nat) : Nat → Array Bool → Act → World → Prop
  | 0, done, a, w => Region.ready md ops done = [] ∧ Q .normal a w
  | f + 1, done, a, w => (Region.ready md ops done = [] → Q .normal a w) ∧
      ∀ j ∈ Region.ready md ops done, wpOp P ops Q j (fun a' w' => (j ≠ m → S w') ∧ WT P md ops Q S m f (done.setIfInBounds j true) a' w') a w
theorem WT.any : ∀ (f : Nat) (done : Array Bool) (a : Act) (w : World), WT P md ops Q S m f done a w → wpAny P md ops Q f done a w
  | 0, _, _, _, h => h
  | f + 1, _, _, _, h => ⟨h.1, fun j hj => wpOp_mono (fun a' w' q => WT.any f _ a' w' q.2) (h.2 j hj)⟩
theorem wt_waits {i : Nat} (hw : Region.waitsFor md ops m i = true) {done : Array Bool} (h : m ∈ Region.ready md ops done) : done.getD i false = true := by
  obtain ⟨om, h1, e, he, hb, hon⟩ := Region.waitsFor_spec hw
  obtain ⟨_, o, ho, hall⟩ := mem_ready.1 h
  rw [h1] at ho
  cases ho
  rw [← hon]
  exact hall e he hb
theorem WT.first {i : Nat} {oi : Oper} {v : Value} (hi : ops[i]? = some oi) (hs : Region.noSelect ops = true) (hw : Region.waitsFor md ops m i = true)
    (hQ : ∀ c a w, Q (.panic c) (a.put oi.dst v) w → Q (.panic c) a w) : ∀ (f : Nat) (done : Array Bool) (a : Act) (w : World),
      (∀ j oj, ops[j]? = some oj → j ≠ i → done.getD j true = false → (∀ e ∈ oj.after, Region.binds md e = true → e.on ≠ i) → oi.apart ops oj = true) →
      i ∈ Region.ready md ops done → YieldsIf P ops S oi v a → S w → WT P md ops Q S m f (done.setIfInBounds i true) (a.put oi.dst v) w → WT P md ops Q S m (f + 1) done a w
  | 0, done, a, w, _, hr, hy, hS, H => by
    refine ⟨fun h => (by rw [h] at hr; cases hr), fun j hj => ?_⟩
    rcases Classical.em (j = i) with rfl | hji
    · exact hy.wpOp hi hS ⟨fun _ => hS, H⟩
    · have h1 := ready_mono hj hji
      rw [H.1] at h1
      cases h1
  | f + 1, done, a, w, hfree, hr, hy, hS, H => by
    refine ⟨fun h => (by rw [h] at hr; cases hr), fun j hj => ?_⟩
    rcases Classical.em (j = i) with rfl | hji
    · exact hy.wpOp hi hS ⟨fun _ => hS, H⟩
    · have hpend : done.getD i true = false := (mem_ready.1 hr).1
      have hnot : done.getD i false ≠ true := fun h => by
        rcases Nat.lt_or_ge i done.size with hlt | hge
        · simp [hlt] at hpend h; rw [hpend] at h; cases h
        · simp [Array.getElem?_eq_none hge] at h
      have hjm : j ≠ m := fun e => by subst e; exact hnot (wt_waits hw hj)
      obtain ⟨hjun, oj, hoj, hall⟩ := mem_ready.1 hj
      have hno : ∀ e ∈ oj.after, Region.binds md e = true → e.on ≠ i := fun e he hb heq => hnot (by rw [← heq]; exact hall e he hb)
      have h2 := wpOp_putIf hoj (hfree j oj hoj hji hjun hno) (fun cs b => Region.noSelect_spec hs i oi cs b hi) (fun cs b => Region.noSelect_spec hs j oj cs b hoj) hQ hy (H.2 j (ready_mono hj hji))
      refine wpOp_mono (fun a' w' q => ⟨q.2.1, WT.first hi hs hw hQ f (done.setIfInBounds j true) a' w' (fun k ok hk hki hun hn => hfree k ok hk hki ?_ hn) (ready_mono hr (Ne.symm hji)) q.1 (q.2.1 hjm) ?_⟩) h2
      · rcases Classical.em (j = k) with rfl | hjk
        · exact hjun
        · rw [getD_set_ne true hjk] at hun; exact hun
      · rw [Array.setIfInBounds_comm _ _ hji]
        exact q.2.2

/-- The beginning. -/
theorem WT.start {id : Nat} {a : Act} {w : World} (S : World → Prop) (m : Nat) (hm : P.follows .mixedOrders = true) (h : WT P .any ops Q S m ops.size (Array.replicate ops.size false) a w.drew) : (Code.region id ops true).wp P Q a w :=
  wp_region_any hm (WT.any _ _ _ _ h)
/-- Number i is taken first. -/
theorem WT.take (i : Nat) {oi : Oper} {v : Value} {f : Nat} {done : Array Bool} {a : Act} {w : World} (hi' : ops.toList[i]? = some oi) (hs : Region.noSelect ops = true) (hw : Region.waitsFor md ops m i = true) (hf : Region.free md ops done i = true) (hr : (Region.ready md ops done).contains i = true)
    (hQ : ∀ c a w, Q (.panic c) (a.put oi.dst v) w → Q (.panic c) a w) (hy : YieldsIf P ops S oi v a) (hS : S w)
    (h : WT P md ops Q S m f (done.setIfInBounds i true) (a.put oi.dst v) w) : WT P md ops Q S m (f + 1) done a w :=
  have hi : ops[i]? = some oi := by rw [← hi', Array.getElem?_toList]
  WT.first hi hs hw hQ f done a w (Region.free_spec hi hf) (by simpa using hr) hy hS h
/-- One alone may come up, and it is not number m. -/
theorem WT.step (i : Nat) {o : Oper} {f : Nat} {done : Array Bool} {a : Act} {w : World} (ho' : ops.toList[i]? = some o) (hr : Region.ready md ops done = [i]) (hne : i ≠ m)
    (h : ∀ K : Act → World → Prop, Hid (∀ a w, S w → WT P md ops Q S m f (done.setIfInBounds i true) a w → K a w) → if Region.wanted o (yielded ops a.tmps) = true then Oper.wp P o a w K Q else K (a.put o.dst undef) w) : WT P md ops Q S m (f + 1) done a w := by
  have ho : ops[i]? = some o := by rw [← ho', Array.getElem?_toList]
  refine ⟨fun e => (by rw [hr] at e; cases e), fun j hj => ?_⟩
  rw [hr] at hj
  obtain rfl : j = i := by simpa using hj
  exact wpOp_step ho fun K hK => h K (Lib.hid fun a w h1 h2 => hK a w ⟨fun _ => h1, h2⟩)
/-- Number m comes up alone. -/
theorem WT.last (i : Nat) {o : Oper} {f : Nat} {done : Array Bool} {a : Act} {w : World} (ho' : ops.toList[i]? = some o) (hr : Region.ready md ops done = [i]) (he : i = m)
    (h : ∀ K : Act → World → Prop, Hid (∀ a w, WT P md ops Q S m f (done.setIfInBounds i true) a w → K a w) → if Region.wanted o (yielded ops a.tmps) = true then Oper.wp P o a w K Q else K (a.put o.dst undef) w) : WT P md ops Q S m (f + 1) done a w := by
  have ho : ops[i]? = some o := by rw [← ho', Array.getElem?_toList]
  refine ⟨fun e => (by rw [hr] at e; cases e), fun j hj => ?_⟩
  rw [hr] at hj
  obtain rfl : j = i := by simpa using hj
  exact wpOp_step ho fun K hK => h K (Lib.hid fun a w h2 => hK a w ⟨fun hn => absurd he hn, h2⟩)
theorem WT.done {f : Nat} {done : Array Bool} {a : Act} {w : World} (hr : Region.ready md ops done = []) (h : Q .normal a w) : WT P md ops Q S m f done a w := by
  cases f with
  | zero => exact ⟨hr, h⟩
  | succ f => exact ⟨fun _ => h, by rw [hr]; simp⟩
end
end Go.Proofs.Ytglmhpmjebjcgaa
/- KeydirOrder: two rows that grow side by side in two cells; plain facts on ranks, places and ranges. -/
namespace Go.Proofs.Ytglmhpmjebjcgaa
open Go.RowKit Go.Maps Go.Shelf

theorem wpListIn_app {F : Fence} {n : Nat} {P : Program} (w : World) {ops : Array Oper} {rest : List Oper} {o : Oper} {a : Act} {Q : Exit → Act → World → Prop}
    (hg : o.guard = none) (s x : Operand) (t : TypeId) (hop : o.op = Op.call { callee := Callee.builtin Builtin.append, args := #[s, x], argTypes := #[t, t] })
    (base : Nat) (e : TypeId) (i : TypeInfo) (z : Value) (size bytes : Nat) (ht : P.underlying t = some (.slice e)) (hi : P.info? e = some i) (hz : i.zero = some z)
    (hsize : i.size = size) (hby : i.bytes = bytes) (hzs : z.cells.size = size) (hsz : 0 < size)
    (v : Value) (k : Nat) (xs : List Value) (hs : a.eval s = v) (hown : w.ownsRow base e size v k xs)
    (B : Nat) (A : Option Addr) (m c : Nat) (news : List Value) (hx : a.eval x = .slice A m c) (hl : news.length = m * size) (hr : Rd w B A news) (h1 : ∀ u ∈ news, u.oneCell' = true)
    (h63 : k + m ≤ maxLen) (hbytes : (k + m) * bytes ≤ 140737488355328) (hbase : base ≤ w.heap.size)
    (h : ∀ v' w', w'.ownsRow base e size v' (k + m) (xs ++ news) → w.grownBy w' v.ownBlock → (v'.ownBlock = v.ownBlock ∨ v'.ownBlock = some w.heap.size) → wpListIn F n P ops Q rest (a.put o.dst v') w') :
    wpListIn F n P ops Q (o :: rest) a w := by
  refine wpListIn_plain hg fun K hK' => ?_
  obtain ⟨v', w', hrun, r1, r2, r3⟩ := run_app (P := P) w base t o.type e i z size bytes ht hi hz hsize hby hzs hsz v k xs hown B A m c news hl hr h1 h63 hbytes hbase
  unfold Oper.wpIn
  refine ⟨?_, ?_⟩
  · simp [Oper.about, hop, resolve, Target.leads, Sem.run_pure]
  · rw [Oper.semAt_plain F _ _ (by rw [hop]; intro c hc'; cases hc')]
    simp [execOp, hop, resolve, invoke, builtin, hs, hx, hrun, Result.andThen]
    exact hK' _ _ (h v' w' r1 r2 r3)

theorem step_app {P : Program} {w : World} {o : Oper} {a : Act} {K : Act → World → Prop} {Q : Exit → Act → World → Prop} (s x : Operand) (t : TypeId)
    (hop : o.op = Op.call { callee := Callee.builtin Builtin.append, args := #[s, x], argTypes := #[t, t] })
    (base : Nat) (e : TypeId) (i : TypeInfo) (z : Value) (size bytes : Nat) (ht : P.underlying t = some (.slice e)) (hi : P.info? e = some i) (hz : i.zero = some z)
    (hsize : i.size = size) (hby : i.bytes = bytes) (hzs : z.cells.size = size) (hsz : 0 < size)
    (v : Value) (k : Nat) (xs : List Value) (hs : a.eval s = v) (hown : w.ownsRow base e size v k xs)
    (B : Nat) (A : Option Addr) (m c : Nat) (news : List Value) (hx : a.eval x = .slice A m c) (hl : news.length = m * size) (hr : Rd w B A news) (h1 : ∀ u ∈ news, u.oneCell' = true)
    (h63 : k + m ≤ maxLen) (hbytes : (k + m) * bytes ≤ 140737488355328) (hbase : base ≤ w.heap.size)
    (h : ∀ v' w', w'.ownsRow base e size v' (k + m) (xs ++ news) → w.grownBy w' v.ownBlock → (v'.ownBlock = v.ownBlock ∨ v'.ownBlock = some w.heap.size) → K (a.put o.dst v') w') :
    Oper.wp P o a w K Q := by
  obtain ⟨v', w', hrun, r1, r2, r3⟩ := run_app (P := P) w base t o.type e i z size bytes ht hi hz hsize hby hzs hsz v k xs hown B A m c news hl hr h1 h63 hbytes hbase
  unfold Oper.wp execOp
  simp only [hop, resolve, invoke, builtin, Sem.run_bind, Sem.run_pure, Result.andThen_ok, List.map_toArray, List.map_cons, List.map_nil, hs, hx, hrun]
  exact h _ _ r1 r2 r3

/-- What is asked where nothing but going on is let by. -/
def QN (Q : Exit → Act → World → Prop) : Exit → Act → World → Prop
  | .normal, a, w => Q .normal a w
  | _, _, _ => False
theorem qn_mono {Q : Exit → Act → World → Prop} : ∀ e a w, QN Q e a w → Q e a w := fun e a w h => by
  cases e with
  | normal => exact h
  | _ => exact h.elim
theorem qn_panic {Q : Exit → Act → World → Prop} {f : Act → Act} : ∀ c a w, QN Q (.panic c) (f a) w → QN Q (.panic c) a w := fun _ _ _ h => h
theorem qn_in {Q : Exit → Act → World → Prop} {a : Act} {w : World} (h : Q .normal a w) : QN Q .normal a w := h

/-- Two rows of entries, each held by a cell of its own. -/
structure TR2 (B c1 c2 : Nat) (v1 v2 : Value) (xs ys : List KE) (W : World) : Prop where
  b1 : Boxed W c1 43 v1
  b2 : Boxed W c2 43 v2
  r1 : W.ownsRow B 58 7 v1 xs.length (xs.flatMap keC)
  r2 : W.ownsRow B 58 7 v2 ys.length (ys.flatMap keC)
  far : v1.ownBlock = none ∨ v1.ownBlock ≠ v2.ownBlock
section
variable {B c1 c2 : Nat} {v1 v2 : Value} {xs ys : List KE} {W : World}
theorem TR2.swap (h : TR2 B c1 c2 v1 v2 xs ys W) : TR2 B c2 c1 v2 v1 ys xs W := ⟨h.b2, h.b1, h.r2, h.r1, by
  rcases h.far with e | e
  · cases h2 : v2.ownBlock with
    | none => exact .inl rfl
    | some j => exact .inr (by rw [e]; simp)
  · exact .inr fun e2 => e e2.symm⟩
theorem ne_ke : 43 ≠ 58 := by decide
theorem TR2.grow (h : TR2 B c1 c2 v1 v2 xs ys W) (hc : c1 ≠ c2) (hB1 : B ≤ c1) (hBW : B ≤ W.heap.size) {o : Obj} {w1 : World} {v' : Value} {x : KE} {m : Nat} {zs : List Value}
    (hown : w1.ownsRow B 58 7 v' m zs) (hm : m = xs.length + 1) (hzs : zs = xs.flatMap keC ++ keC x) (hgr : (W.alloc o).grownBy w1 v1.ownBlock) (hor : v'.ownBlock = v1.ownBlock ∨ v'.ownBlock = some (W.alloc o).heap.size) :
    Boxed w1 c1 43 v1 ∧ TR2 B c1 c2 v' v2 (xs ++ [x]) ys (w1.setCell ⟨c1, 0, none⟩ v') ∧ Below B W (w1.setCell ⟨c1, 0, none⟩ v') := by
  subst hm hzs
  have k1 : Boxed w1 c1 43 v1 := (h.b1.alloc o).kept hgr (h.b1.not_row ne_ke h.r1)
  have k2 : Boxed w1 c2 43 v2 := (h.b2.alloc o).kept hgr (h.b2.not_row ne_ke h.r1)
  have q2 : w1.ownsRow B 58 7 v2 ys.length (ys.flatMap keC) := (h.r2.alloc o).kept hgr (by
    rcases h.swap.far with e | e
    · exact .inl e
    · exact .inr e)
  refine ⟨k1, ⟨k1.set v', k2.other (fun e => hc e.symm) v', ?_, q2.kept (grownBy_setCell' w1 c1 v') (.inr (k1.not_row ne_ke q2).symm), ?_⟩, ?_⟩
  · have := hown.kept (grownBy_setCell' w1 c1 v') (.inr (k1.not_row ne_ke hown).symm)
    rw [List.flatMap_append, List.flatMap_singleton, List.length_append, List.length_singleton]
    exact this
  · rcases hor with e | e
    · rw [e]; exact h.far
    · right
      rw [e]
      intro e2
      have := (h.r2.lt _ e2.symm).2
      simp at this
      omega
  · refine (((Below.refl B W).alloc hBW o).grown hgr (by simp; omega) (fun k e => (h.r1.lt k e).1)).setCell (p := ⟨c1, 0, none⟩) hB1 _
theorem TR2.start (w : World) (B : Nat) (_ : B ≤ w.heap.size) : TR2 B w.heap.size (w.heap.size + 1) (.slice none 0 0) (.slice none 0 0) [] [] ((w.alloc (.cells #[.slice none 0 0] 43)).alloc (.cells #[.slice none 0 0] 43)) := by
  have b := Boxed.new (w.alloc (.cells #[.slice none 0 0] 43)) 43 (.slice none 0 0)
  rw [World.size_alloc] at b
  exact ⟨(Boxed.new w _ _).alloc _, b, World.ownsRow_nil _ _ _ _, World.ownsRow_nil _ _ _ _, .inl rfl⟩
theorem own_none (v : Value) : v.ownBlock = none ∨ v.ownBlock ≠ none := Classical.em _
theorem TR2.kept {W' : World} (h : TR2 B c1 c2 v1 v2 xs ys W) (hg : W.grownBy W' none) : TR2 B c1 c2 v1 v2 xs ys W' := ⟨h.b1.kept hg (by simp), h.b2.kept hg (by simp), h.r1.kept hg (own_none _), h.r2.kept hg (own_none _), h.far⟩
end

theorem sel_whole (xs : List KE) : sel ⟨#[]⟩ ⟨#[]⟩ xs = xs := by
  unfold sel
  refine filter_all fun x _ => ?_
  unfold inR
  have h1 : kc x.1 ⟨#[]⟩ ≠ -1 := by
    unfold kc
    show cmpB x.1.data.toList [] ≠ -1
    cases x.1.data.toList <;> simp [cmpB]
  simp [h1]
  rfl
theorem split_at (xs : List KE) (i : Nat) (h : i < xs.length) : xs = xs.take i ++ xs[i] :: xs.drop (i + 1) := by rw [← List.drop_eq_getElem_cons h, List.take_append_drop]
theorem rank_at {xs : List KE} (hs : Sorted xs) (i : Nat) (h : i < xs.length) : (lo xs[i].1 xs).length = i := by
  have e := split_at xs i h
  generalize hx : xs[i] = x at e
  obtain ⟨k, en⟩ := x
  have hs2 : Sorted (xs.take i ++ (k, en) :: xs.drop (i + 1)) := by rw [← e]; exact hs
  have := (lo_same hs2).1
  rw [← e] at this
  show (lo k xs).length = i
  rw [this, List.length_take]
  omega
theorem rank_of {xs : List KE} (hs : Sorted xs) {k : ByteArray} {en : En} (h : (k, en) ∈ xs) : ∃ hi : (lo k xs).length < xs.length, xs[(lo k xs).length].1 = k := by
  obtain ⟨i, hi, e⟩ := List.getElem_of_mem h
  have hr := rank_at hs i hi
  rw [e] at hr
  have hr' : (lo k xs).length = i := hr
  refine ⟨by omega, ?_⟩
  simp only [hr', e]
theorem sorted_at {xs : List KE} (hs : Sorted xs) (i : Nat) (h : i + 1 < xs.length) : kc (xs[i]'(by omega)).1 xs[i + 1].1 = -1 := List.pairwise_iff_getElem.1 hs i (i + 1) (by omega) h (by omega)
theorem lastL_has {key : ByteArray} {l : List KE} {x : KE} (h : x ∈ l) (hk : x.1 = key) : ∃ e, lastL key l = some e := by
  unfold lastL
  cases hf : l.reverse.find? (fun x => decide (x.1 = key)) with
  | none =>
    have := List.find?_eq_none.1 hf x (by simpa using h)
    simp [hk] at this
  | some y => exact ⟨y.2, rfl⟩
/-- A key of the items that may be one is among what was laid. -/
theorem build_has {l : List KE} {x : KE} (h : x ∈ l) (hg : goodB x.1 = true) : ∃ en, (x.1, en) ∈ build l := by
  obtain ⟨e, he⟩ := lastL_has h rfl
  have hs : Sorted (build l) := by have := (build_get x.1 l l.length (Nat.le_refl _)).1; rwa [List.take_length] at this
  refine ⟨e, (get_mem hs).1 ?_⟩
  rw [getL_build]
  unfold lastB
  rw [if_pos hg, he]
theorem pre_iff (p : ByteArray) (x : KE) : preB p x = true ↔ p.size ≤ x.1.size ∧ x.1.extract 0 p.size = p := by
  unfold preB
  have hp : p.data.toList.length = p.size := by simp
  have hx : x.1.data.toList.length = x.1.size := by simp
  rw [List.isPrefixOf_iff_prefix, List.prefix_iff_eq_take]
  constructor
  · intro h
    have h1 := congrArg List.length h
    rw [List.length_take] at h1
    refine ⟨by omega, ?_⟩
    apply WideShapes.bytes_inj
    rw [h]
    simp [hp]
  · rintro ⟨h1, h2⟩
    have := congrArg (fun b : ByteArray => b.data.toList) h2
    simp at this
    rw [← this]
    simp
end Go.Proofs.Ytglmhpmjebjcgaa
/- chronicleref8: Rank, at, Get, Len. -/
namespace Go.Proofs.Ytglmhpmjebjcgaa
open Go.RowKit Go.Maps

theorem lo_iff (key : ByteArray) : ∀ (xs : List KE), Sorted xs → ∀ (k : Nat) (h : k < xs.length), (kc xs[k].1 key = -1 ↔ k < (lo key xs).length)
  | [], _, k, h => by simp at h
  | x :: xs, hs, k, h => by
    obtain ⟨h1, h2⟩ := List.pairwise_cons.1 hs
    by_cases hx : kc x.1 key = -1
    · have e : lo key (x :: xs) = x :: lo key xs := by simp [lo, hx]
      rw [e]
      cases k with
      | zero => simp [hx]
      | succ k =>
        have := lo_iff key xs h2 k (by simpa using h)
        simpa using this
    · have e : lo key (x :: xs) = [] := by
        unfold lo
        refine filter_none fun y hy => ?_
        rcases List.mem_cons.1 hy with rfl | hy
        · simpa using hx
        · have : kc y.1 key ≠ -1 := fun e => hx (kc_trans (h1 y hy) e)
          simpa using this
      rw [e]
      simp only [List.length_nil, Nat.not_lt_zero, iff_false]
      cases k with
      | zero => exact hx
      | succ k =>
        have hk : k < xs.length := by simpa using h
        exact fun e => hx (kc_trans (h1 _ (List.getElem_mem hk)) e)
theorem RR.rd {w : World} {B d : Nat} {v : Value} {xs : List KE} (h : RR w B d v xs) : ∃ (A : Option Addr) (c : Nat), v = .slice A xs.length c ∧ Rd w w.heap.size A (xs.flatMap keC) ∧ xs.length ≤ c := by
  obtain ⟨A, c, rfl⟩ := row_slice h.2.1
  exact ⟨A, c, rfl, row_rd' h.2.1, row_cap h.2.1⟩

set_option maxRecDepth 100000 in
set_option maxHeartbeats 4000000 in
theorem rank8 (B d : Nat) (v : Value) (key : ByteArray) (xs : List KE) (w : World) (h : RR w B d v xs) (hz : key.size ≤ maxLen) (hc : xs.length ≤ 800000000000000) :
    Calls Try.prog 22 #[.pointer (some ⟨d, 0, none⟩), .string key] w fun e w' => e = .returned (.int .i64 (lo key xs).length) ∧ ∃ n, w' = w.drewN n := by
  obtain ⟨A, c, rfl, hR, hcap⟩ := h.rd
  have hdc := h.1.cell 0
  have HS := Lib.hid (And.intro h.2.2.1 (And.intro h.2.2.2 hR))
  have HD := Lib.hid h.1
  obtain ⟨nx, hnx⟩ : ∃ nx, xs.length = nx := ⟨_, rfl⟩
  rw [hnx] at hc hcap hdc HD
  have HN := Lib.hid hnx
  clear h hR hnx
  go_enter Try.func22, Try.ntmps22
  go_wp2
  go_loopw [5] (fun i wr => ∃ (k n : Nat), k ≤ nx ∧ i = .int .i64 k ∧ wr = w.drewN n ∧ k ≤ (lo key xs).length) (fun i _ => nx - (intOf i).toNat)
  case atStart => exact ⟨0, 0, Nat.zero_le _, rfl, rfl, Nat.zero_le _⟩
  case round =>
    obtain ⟨k, n, hk, rfl, rfl, hkl⟩ := hrel
    have hdx := (HD.out.drewN n).cell 0
    have hdf := (HD.out.drewN n).free 0
    have Hk := Lib.hid hkl
    clear hkl
    by_cases hlt : k < nx
    · have hlx : k < xs.length := by rw [HN.out]; exact hlt
      obtain ⟨ad, rfl, had, a0, _⟩ := (Rd.below HS.out.2.2 (below_drewN (Below.refl _ w) n)).ke hlx
      have hli := lo_iff key xs HS.out.1 k hlx
      have hzk := sz64 (HS.out.2.1 xs[k] (List.getElem_mem hlx)).2
      have hk0' : (0 : Int) ≤ k := by omega
      have hk1' : (k : Int) < nx := by omega
      generalize xs[k] = x at a0 hli hzk
      have HLI := Lib.hid hli
      clear hli
      by_cases hx : kc x.1 key = -1
      · go_wp2_with (first
          | (go_at_call 48
             refine (compare8 x.1 key _ hzk hz).mono ?_
             rintro e w1 ⟨⟨r, rfl, hr⟩, n1, rfl⟩
             have hr0 : r < 0 := hr.2 hx
             have hrd : decide (r < 0) = true := decide_eq_true hr0
             clear hr))
        go_roundw
        case rel => exact ⟨k + 1, _, by omega, by go_num, by first | rfl | exact World.drewN_drewN .., by have := HLI.out.1 hx; omega⟩
        case measure => simp [intOf]; omega
      · go_wp2_with (first
          | (go_at_call 48
             refine (compare8 x.1 key _ hzk hz).mono ?_
             rintro e w1 ⟨⟨r, rfl, hr⟩, n1, rfl⟩
             have hr0 : ¬ r < 0 := fun h => hx (hr.1 h)
             have hrd : decide (r < 0) = false := decide_eq_false hr0
             clear hr))
        go_ret
        exact ⟨ret_int (by have h1 : ¬ k < (lo key xs).length := fun h => hx (HLI.out.2 h); have := Hk.out; omega), _, by first | rfl | exact World.drewN_drewN ..⟩
    · go_wp2
      go_ret
      exact ⟨ret_int (by have h1 := lo_le key xs; have := Hk.out; have := HN.out; omega), n, rfl⟩

theorem getL_at {xs : List KE} (hs : Sorted xs) {key : ByteArray} {en : En} (h : getL key xs = some en) : ∃ hi : (lo key xs).length < xs.length, xs[(lo key xs).length] = (key, en) := by
  have hm := (get_mem hs).1 h
  obtain ⟨i, hi, e⟩ := List.getElem_of_mem hm
  have hr := rank_at hs i hi
  rw [e] at hr
  have hr' : (lo key xs).length = i := hr
  refine ⟨by omega, ?_⟩
  simp only [hr', e]
theorem getL_not {xs : List KE} {key : ByteArray} (h : getL key xs = none) (hi : (lo key xs).length < xs.length) : xs[(lo key xs).length].1 ≠ key := get_none.1 h _ (List.getElem_mem hi)

set_option maxRecDepth 100000 in
set_option maxHeartbeats 4000000 in
theorem at_yes (B d : Nat) (v : Value) (key : ByteArray) (xs : List KE) (en : En) (r : Nat) (w : World) (h : RR w B d v xs) (hz : key.size ≤ maxLen) (hc : xs.length ≤ 800000000000000) (hg : getL key xs = some en) (hr : (lo key xs).length = r) :
    Calls Try.prog 42 #[.pointer (some ⟨d, 0, none⟩), .string key] w fun e w' => e = .returned (.int .i64 (r : Int)) ∧ ∃ n, w' = w.drewN n := by
  obtain ⟨A, c, rfl, hR, hcap⟩ := h.rd
  obtain ⟨hi, hx⟩ : ∃ hi : r < xs.length, xs[r] = (key, en) := hr ▸ getL_at h.2.2.1 hg
  have HR := Lib.hid (And.intro h hR)
  have HD := Lib.hid h.1
  obtain ⟨nx, hnx⟩ : ∃ nx, xs.length = nx := ⟨_, rfl⟩
  have hrx : (r : Int) < nx := by omega
  have hr0 : (0 : Int) ≤ r := by omega
  have HX := Lib.hid (And.intro hc (And.intro hr hnx))
  have hR' := HR.out.2
  obtain ⟨ad, rfl, had, a0, arest⟩ := hR'.ke hi
  rw [hx] at a0
  have HA := Lib.hid a0
  have hri := Lib.hid hi
  rw [hnx] at HD
  clear arest
  clear h hR hR' hcap hx hg hr hc hnx a0 hi
  go_enter Try.func42, Try.ntmps42
  go_wp2_with (first
    | (go_at_call 22
       refine (rank8 B d _ key xs _ HR.out.1 hz HX.out.1).mono ?_
       rintro e w1 ⟨rfl, n, rfl⟩
       rw [HX.out.2.1]
       have hdx := (HD.out.drewN n).cell 0
       have hax : (w.drewN n).cell? (ad.add (r * 7)) = some (.string key) := HA.out))
  go_ret
  exact ⟨rfl, n, rfl⟩
set_option maxRecDepth 100000 in
set_option maxHeartbeats 4000000 in
theorem at_no (B d : Nat) (v : Value) (key : ByteArray) (xs : List KE) (w : World) (h : RR w B d v xs) (hz : key.size ≤ maxLen) (hc : xs.length ≤ 800000000000000) (hg : getL key xs = none) :
    Calls Try.prog 42 #[.pointer (some ⟨d, 0, none⟩), .string key] w fun e w' => e = .returned (.int .i64 (-1)) ∧ ∃ n, w' = w.drewN n := by
  obtain ⟨A, c, rfl, hR, hcap⟩ := h.rd
  obtain ⟨r, hr⟩ : ∃ r, (lo key xs).length = r := ⟨_, rfl⟩
  have hne : ∀ hi : r < xs.length, xs[r].1 ≠ key := hr ▸ getL_not hg
  have HR := Lib.hid (And.intro h hR)
  have HD := Lib.hid h.1
  obtain ⟨nx, hnx⟩ : ∃ nx, xs.length = nx := ⟨_, rfl⟩
  have hr0 : (0 : Int) ≤ r := by omega
  have HX := Lib.hid (And.intro hc (And.intro hr (And.intro hnx hne)))
  rw [hnx] at HD
  clear h hR hcap hg hr hc hne
  by_cases hlt : r < nx
  · have hi : r < xs.length := by rw [hnx]; exact hlt
    obtain ⟨ad, rfl, had, a0, arest⟩ := HR.out.2.ke hi
    have hkn := key_ne (HX.out.2.2.2 hi)
    have hrx : (r : Int) < nx := by omega
    generalize xs[r].1 = y at a0 hkn
    have HA := Lib.hid a0
    clear arest a0 hi hnx
    go_enter Try.func42, Try.ntmps42
    go_wp2_with (first
      | (go_at_call 22
         refine (rank8 B d _ key xs _ HR.out.1 hz HX.out.1).mono ?_
         rintro e w1 ⟨rfl, n, rfl⟩
         rw [HX.out.2.1]
         have hdx := (HD.out.drewN n).cell 0
         have hax : (w.drewN n).cell? (ad.add (r * 7)) = some (.string y) := HA.out))
    go_ret
    exact ⟨rfl, n, rfl⟩
  · have hlt' : ¬ (r : Int) < nx := by omega
    clear hnx
    go_enter Try.func42, Try.ntmps42
    go_wp2_with (first
      | (go_at_call 22
         refine (rank8 B d _ key xs _ HR.out.1 hz HX.out.1).mono ?_
         rintro e w1 ⟨rfl, n, rfl⟩
         rw [HX.out.2.1]
         have hdx := (HD.out.drewN n).cell 0))
    go_ret
    exact ⟨rfl, n, rfl⟩
end Go.Proofs.Ytglmhpmjebjcgaa
/- chronicleref8: Get, Len, Nth. -/
namespace Go.Proofs.Ytglmhpmjebjcgaa
open Go.RowKit Go.Maps

theorem RR.below {w w' : World} {B d : Nat} {v : Value} {xs : List KE} (h : RR w B d v xs) (hb : Below w.heap.size w w') : RR w' B d v xs := by
  refine ⟨h.1.below hb h.1.lt, ?_, h.2.2⟩
  refine ⟨h.2.1.1, ?_⟩
  rcases h.2.1.2 with hn | ⟨g, cap, cur, rfl, hB, hg, rest⟩
  · exact .inl hn
  · exact .inr ⟨g, cap, cur, rfl, hB, (hb.block g (Array.getElem?_eq_some_iff.1 hg).1).trans hg, rest⟩
set_option maxRecDepth 100000 in
theorem len8 (B d : Nat) (v : Value) (xs : List KE) (w : World) (h : RR w B d v xs) : Calls Try.prog 24 #[.pointer (some ⟨d, 0, none⟩)] w fun e w' => e = .returned (.int .i64 xs.length) ∧ w' = w := by
  obtain ⟨A, c, rfl, _, _⟩ := h.rd
  have hdc := h.1.cell 0
  go_enter Try.func24, Try.ntmps24
  go_wp2
  go_ret
  exact ⟨rfl, rfl⟩
set_option maxRecDepth 100000 in
set_option maxHeartbeats 4000000 in
theorem get8 (B d : Nat) (v : Value) (key : ByteArray) (xs : List KE) (w : World) (h : RR w B d v xs) (hz : key.size ≤ maxLen) (hc : xs.length ≤ 800000000000000) :
    Calls Try.prog 18 #[.pointer (some ⟨d, 0, none⟩), .string key] w fun e w' => e = .returned (.tuple #[(oe (getL key xs)).v, .bool (ob (getL key xs))]) ∧ Below w.heap.size w w' := by
  have hb0 := bal w (.cells #[.int .i64 0, .int .i64 0, .int .i64 0, .int .i64 0, .int .i64 0, .bool false] 38)
  have hX0 := Box.new w 38 #[.int .i64 0, .int .i64 0, .int .i64 0, .int .i64 0, .int .i64 0, .bool false]
  have hR0 := h.below hb0
  have H := Lib.hid (And.intro hb0 (And.intro hX0 hR0))
  cases hg : getL key xs with
  | none =>
    have HG := Lib.hid (And.intro hg hc)
    clear hb0 hX0 hR0 h hg hc
    go_enter Try.func18, Try.ntmps18
    go_wp2_with (first
      | (go_at_call 42
         refine (at_no B d v key xs _ H.out.2.2 hz HG.out.2 HG.out.1).mono ?_
         rintro e w1 ⟨rfl, n, hw1⟩
         have hx1 : Box w1 w.heap.size 38 #[.int .i64 0, .int .i64 0, .int .i64 0, .int .i64 0, .int .i64 0, .bool false] := by rw [hw1]; exact H.out.2.1.drewN n
         have hxc := hx1.cell
         have hxf := hx1.free
         have H1 := Lib.hid (show Below w.heap.size w w1 by rw [hw1]; exact below_drewN H.out.1 n)
         clear hx1 hw1))
    refine bodyPost_ret (v := .tuple #[En.zero.v, .bool false]) ?_ rfl ?_
    · simp [results, Try.results18, go_sem, hxc, En.zero]
    refine ⟨rfl, ?_⟩
    repeat (first | with_reducible exact H1.out | refine Below.setCell ?_ (by simp) _)
  | some en =>
    obtain ⟨A, c, rfl, hR, hcap⟩ := hR0.rd
    obtain ⟨r, hr⟩ : ∃ r, (lo key xs).length = r := ⟨_, rfl⟩
    obtain ⟨hi, hx⟩ : ∃ hi : r < xs.length, xs[r] = (key, en) := hr ▸ getL_at h.2.2.1 hg
    obtain ⟨ad, rfl, had, a0, a1, a2, a3, a4, a5, a6⟩ := hR.ke hi
    rw [hx] at a1 a2 a3 a4 a5 a6
    have hr0 : (0 : Int) ≤ r := by omega
    have hr1 : (r : Int) < xs.length := by omega
    have HG := Lib.hid (And.intro hg (And.intro hc hr))
    have HA := Lib.hid (And.intro a1 (And.intro a2 (And.intro a3 (And.intro a4 (And.intro a5 a6)))))
    clear hb0 hX0 hR0 h hg hc a0 a1 a2 a3 a4 a5 a6 hx hi hr hR
    go_enter Try.func18, Try.ntmps18
    go_wp2_with (first
      | (go_at_call 42
         refine (at_yes B d _ key xs en r _ H.out.2.2 hz HG.out.2.1 HG.out.1 HG.out.2.2).mono ?_
         rintro e w1 ⟨rfl, n, hw1⟩
         have hx1 : Box w1 w.heap.size 38 #[.int .i64 0, .int .i64 0, .int .i64 0, .int .i64 0, .int .i64 0, .bool false] := by rw [hw1]; exact H.out.2.1.drewN n
         have hd1 : Box w1 d 45 #[.slice (some ad) xs.length c] := by rw [hw1]; exact H.out.2.2.1.drewN n
         have ha1 : ∀ q, w1.cell? q = (w.alloc (.cells #[.int .i64 0, .int .i64 0, .int .i64 0, .int .i64 0, .int .i64 0, .bool false] 38)).cell? q := fun q => by rw [hw1]; rfl
         have a1 := (ha1 _).trans HA.out.1
         have a2 := (ha1 _).trans HA.out.2.1
         have a3 := (ha1 _).trans HA.out.2.2.1
         have a4 := (ha1 _).trans HA.out.2.2.2.1
         have a5 := (ha1 _).trans HA.out.2.2.2.2.1
         have a6 := (ha1 _).trans HA.out.2.2.2.2.2
         have hdc := hd1.cell 0
         have hxc := hx1.cell
         have hxf := hx1.free
         have H1 := Lib.hid (show Below w.heap.size w w1 by rw [hw1]; exact below_drewN H.out.1 n)
         clear hx1 hd1 ha1 hw1))
    refine bodyPost_ret (v := .tuple #[en.v, .bool true]) ?_ rfl ?_
    · simp [results, Try.results18, go_sem, hxc]
    refine ⟨rfl, ?_⟩
    repeat (first | with_reducible exact H1.out | refine Below.setCell ?_ (by simp) _)
end Go.Proofs.Ytglmhpmjebjcgaa
/- chronicleref8: writing into a row of entries; Put, Point. -/
namespace Go.Proofs.Ytglmhpmjebjcgaa
open Go.RowKit Go.Maps

theorem flat_set7 (l : List KE) (i : Nat) (hi : i < l.length) (k : ByteArray) (e : En) (hk : l[i].1 = k) :
    (l.set i (k, e)).flatMap keC = ((((((l.flatMap keC).set (i * 7 + 1) (.int .i64 e.seg)).set (i * 7 + 2) (.int .i64 e.at_)).set (i * 7 + 3) (.int .i64 e.size)).set (i * 7 + 4) (.int .i64 e.off)).set (i * 7 + 5) (.int .i64 e.time)).set (i * 7 + 6) (.bool e.tomb) := by
  subst hk
  induction l generalizing i with
  | nil => simp at hi
  | cons q l ih =>
    cases i with
    | zero => simp [keC, En.cells]
    | succ i =>
      have e7 : (i + 1) * 7 = i * 7 + 7 := by omega
      have hl : (keC q).length = 7 := rfl
      have h2 : i < l.length := by simpa using hi
      have := ih i h2
      simp only [List.set_cons_succ, List.flatMap_cons, List.getElem_cons_succ, this, e7]
      rw [List.set_append_right _ _ (by omega), List.set_append_right _ _ (by omega), List.set_append_right _ _ (by omega), List.set_append_right _ _ (by omega), List.set_append_right _ _ (by omega), List.set_append_right _ _ (by omega), hl,
        show i * 7 + 7 + 1 - 7 = i * 7 + 1 by omega, show i * 7 + 7 + 2 - 7 = i * 7 + 2 by omega, show i * 7 + 7 + 3 - 7 = i * 7 + 3 by omega, show i * 7 + 7 + 4 - 7 = i * 7 + 4 by omega, show i * 7 + 7 + 5 - 7 = i * 7 + 5 by omega, show i * 7 + 7 + 6 - 7 = i * 7 + 6 by omega]
/-- A key that is there: its place holds the new entry. -/
theorem put_at {xs : List KE} (hs : Sorted xs) {key : ByteArray} {en : En} (r : Nat) (hi : r < xs.length) (hx : xs[r] = (key, en)) (e : En) : xs.set r (key, e) = putL key e xs := by
  have h := split_at xs r hi
  rw [hx] at h
  have hs2 : Sorted (xs.take r ++ (key, en) :: xs.drop (r + 1)) := by rw [← h]; exact hs
  have h2 := put_same (e := e) hs2
  rw [← h] at h2
  rw [h2]
  conv => lhs; rw [h]
  rw [List.set_append_right _ _ (by rw [List.length_take]; omega), List.length_take, Nat.min_eq_left (by omega), Nat.sub_self]
  rfl
theorem own_g {w : World} {B n c : Nat} {A : Option Addr} {e : TypeId} {size : Nat} {xs : List Value} (h : w.ownsRow B e size (.slice A n c) n xs) (hn : 0 < n) : ∃ g, A = some ⟨g, 0, none⟩ ∧ Own w B g e xs := by
  obtain ⟨g, cap', hv, h1, h2, h3⟩ := Own.of_row h hn
  injection hv with e1 _ e2
  exact ⟨g, e1, h3⟩
/-- The six cells of an entry written anew. -/
theorem row_set7 {w : World} {B g c i : Nat} {xs : List KE} {k : ByteArray} (e : En) (h : w.ownsRow B 58 7 (.slice (some ⟨g, 0, none⟩) xs.length c) xs.length (xs.flatMap keC)) (hi : i < xs.length) (hk : xs[i].1 = k) :
    ((((((w.setCell ⟨g, i * 7 + 1, none⟩ (.int .i64 e.seg)).setCell ⟨g, i * 7 + 2, none⟩ (.int .i64 e.at_)).setCell ⟨g, i * 7 + 3, none⟩ (.int .i64 e.size)).setCell ⟨g, i * 7 + 4, none⟩ (.int .i64 e.off)).setCell ⟨g, i * 7 + 5, none⟩ (.int .i64 e.time)).setCell ⟨g, i * 7 + 6, none⟩ (.bool e.tomb)).ownsRow B 58 7 (.slice (some ⟨g, 0, none⟩) xs.length c) (xs.set i (k, e)).length ((xs.set i (k, e)).flatMap keC) := by
  refine ⟨by rw [keC_len], .inr ?_⟩
  rcases h.2 with ⟨hv, _⟩ | ⟨g', c', cur, hv, hg, hh, hnc, hcm, hsz, htk⟩
  · cases hv
  · injection hv with e1 _ e2
    injection e1 with e1
    injection e1 with e1
    subst e1 e2
    refine ⟨g, c, (((((cur.setIfInBounds (i * 7 + 1) (.int .i64 e.seg)).setIfInBounds (i * 7 + 2) (.int .i64 e.at_)).setIfInBounds (i * 7 + 3) (.int .i64 e.size)).setIfInBounds (i * 7 + 4) (.int .i64 e.off)).setIfInBounds (i * 7 + 5) (.int .i64 e.time)).setIfInBounds (i * 7 + 6) (.bool e.tomb), by simp, hg, ?_, by simpa using hnc, hcm, by simpa using hsz, ?_⟩
    · simp [World.setCell, Array.getElem?_modify, hh]
    · rw [flat_set7 xs i hi k e hk]
      simp only [Array.toList_setIfInBounds, List.take_set, List.length_set, htk]
end Go.Proofs.Ytglmhpmjebjcgaa
/- chronicleref8: Put. -/
namespace Go.Proofs.Ytglmhpmjebjcgaa
open Go.RowKit Go.Maps

theorem lo_hi_cut (key : ByteArray) : ∀ (xs : List KE), Sorted xs → getL key xs = none → lo key xs = xs.take (lo key xs).length ∧ hi key xs = xs.drop (lo key xs).length
  | [], _, _ => by simp [lo, hi]
  | x :: xs, hs, hg => by
    obtain ⟨h1, h2⟩ := List.pairwise_cons.1 hs
    have hne := get_none.1 hg
    have hx0 : kc x.1 key ≠ 0 := fun e => hne x (by simp) (kc_eq e)
    have hsw := kc_swap x.1 key
    by_cases hx : kc x.1 key = -1
    · have e : lo key (x :: xs) = x :: lo key xs := by simp [lo, hx]
      have e2 : hi key (x :: xs) = hi key xs := by
        have : kc key x.1 ≠ -1 := by omega
        simp [hi, this]
      obtain ⟨i1, i2⟩ := lo_hi_cut key xs h2 (get_none.2 fun y hy => hne y (by simp [hy]))
      rw [e, e2]
      refine ⟨?_, ?_⟩
      · rw [List.length_cons, List.take_succ_cons, ← i1]
      · rw [List.length_cons, List.drop_succ_cons, ← i2]
    · have hr := kc_range x.1 key
      have hk : kc key x.1 = -1 := by omega
      have e : lo key (x :: xs) = [] := by
        unfold lo
        refine filter_none fun y hy => ?_
        rcases List.mem_cons.1 hy with rfl | hy
        · simpa using hx
        · have : kc y.1 key ≠ -1 := fun e => hx (kc_trans (h1 y hy) e)
          simpa using this
      have e2 : hi key (x :: xs) = x :: xs := by
        unfold hi
        refine filter_all fun y hy => ?_
        rcases List.mem_cons.1 hy with rfl | hy
        · simpa using hk
        · simpa using kc_trans hk (h1 y hy)
      rw [e, e2]
      simp
theorem ins_at {xs : List KE} (hs : Sorted xs) {key : ByteArray} {en : En} (hg : getL key xs = none) (r : Nat) (hr : (lo key xs).length = r) : putL key en xs = xs.take r ++ (key, en) :: xs.drop r := by
  obtain ⟨h1, h2⟩ := lo_hi_cut key xs hs hg
  rw [hr] at h1 h2
  unfold putL
  rw [h1, h2]


/-- A slice's rest, behind its first r entries. -/
def restA (A : Option Addr) (cap r : Nat) : Option Addr := if cap = r then A else A.map (·.add (r * 7))
theorem Rd.restA {w : World} {B : Nat} {A : Option Addr} {l : List KE} (h : Rd w B A (l.flatMap keC)) {cap r : Nat} (hr : r ≤ l.length) (hc : l.length ≤ cap) : Rd w B (restA A cap r) ((l.drop r).flatMap keC) := by
  unfold Go.Proofs.Ytglmhpmjebjcgaa.restA
  by_cases he : l.length = r
  · have : l.drop r = [] := List.drop_of_length_le (by omega)
    rw [this]
    exact Rd.nil _ _ _
  · rw [if_neg (by omega)]
    obtain ⟨ad, rfl, _⟩ := h.ke (i := r) (by omega)
    exact h.rest r hr
theorem size_ke : ∀ w, (Go.sizeOf 58).run Try.prog w = .ok 7 w := Try.sizeOf58
theorem elem_ke : Try.prog.elem 43 = 58 := by simp [Program.elem, Try.underlying43]
theorem run_head (A : Option Addr) (len cap r : Nat) (hr : r ≤ cap) (W : World) :
    (Instr.slice 43 (.slice A len cap) none (some (.int .i64 (r : Int))) none).run Try.prog W = .ok (.slice A r cap) W := by
  have ht' : Try.prog.underlying 43 = some (.slice (Try.prog.elem 43)) := by rw [elem_ke]; exact Try.underlying43
  rw [run_slice_h W _ A len cap ht' .i64 _ (by omega) (by omega), elem_ke, size_ke]
  cases A <;> simp [Result.andThen, sliced, Addr.add]
theorem run_rest (A : Option Addr) (len cap r : Nat) (hr : r ≤ len) (W : World) :
    (Instr.slice 43 (.slice A len cap) (some (.int .i64 (r : Int))) none none).run Try.prog W = .ok (.slice (restA A cap r) (len - r) (cap - r)) W := by
  have ht' : Try.prog.underlying 43 = some (.slice (Try.prog.elem 43)) := by rw [elem_ke]; exact Try.underlying43
  rw [run_slice_l W _ A len cap ht' .i64 _ (by omega) (by omega), elem_ke, size_ke]
  simp [Result.andThen, sliced, restA]

/-- What a call leaves of the document's dir: the list xs', in the row that it had or in a new one; nothing else has turned. -/
def RU (w w' : World) (B d : Nat) (v : Value) (xs' : List KE) : Prop :=
  (∃ v', RR w' B d v' xs' ∧ (v'.ownBlock = v.ownBlock ∨ ∀ j, v'.ownBlock = some j → w.heap.size ≤ j)) ∧ Chg (fun k => k = d ∨ some k = v.ownBlock) w w'
theorem RU.same {w w' : World} {B d : Nat} {v : Value} {xs : List KE} (h : RR w B d v xs) (hb : Below w.heap.size w w') : RU w w' B d v xs := ⟨⟨v, h.below hb, .inl rfl⟩, Chg.of_below hb _⟩
theorem RR.far {w : World} {B d : Nat} {v : Value} {xs : List KE} (h : RR w B d v xs) {p : Addr} (hd : d ≠ p.block) (hv : ∀ k, v.ownBlock = some k → k ≠ p.block) (u : Value) : RR (w.setCell p u) B d v xs := by
  refine ⟨h.1.far hd u, ⟨h.2.1.1, ?_⟩, h.2.2⟩
  rcases h.2.1.2 with hn | ⟨g, cap, cur, rfl, hB, hg, rest⟩
  · exact .inl hn
  · exact .inr ⟨g, cap, cur, rfl, hB, (Below.heap_setCell w p u g (hv g rfl)).trans hg, rest⟩
theorem row_le {w : World} {base base' : Nat} {e : TypeId} {size n : Nat} {v : Value} {xs : List Value} (h : w.ownsRow base e size v n xs) (hb : base' ≤ base) : w.ownsRow base' e size v n xs := by
  refine ⟨h.1, ?_⟩
  rcases h.2 with h | ⟨g, c, cur, hv, h1, h2⟩
  · exact .inl h
  · exact .inr ⟨g, c, cur, hv, Nat.le_trans hb h1, h2⟩
theorem row_far {w : World} {base : Nat} {e : TypeId} {size n : Nat} {v : Value} {xs : List Value} (h : w.ownsRow base e size v n xs) {p : Addr} (hv : ∀ k, v.ownBlock = some k → k ≠ p.block) (u : Value) : (w.setCell p u).ownsRow base e size v n xs := by
  refine ⟨h.1, ?_⟩
  rcases h.2 with h | ⟨g, c, cur, rfl, h1, h2, h3⟩
  · exact .inl h
  · exact .inr ⟨g, c, cur, rfl, h1, (Below.heap_setCell w p u g (hv g rfl)).trans h2, h3⟩
theorem put_len1 {xs : List KE} (hs : Sorted xs) {key : ByteArray} (en : En) (hg : getL key xs = none) : (putL key en xs).length = xs.length + 1 := by
  rw [ins_at hs hg _ rfl]
  have := lo_le key xs
  simp
  omega

set_option maxRecDepth 100000 in
set_option maxHeartbeats 4000000 in
theorem put8_bad (d : Option Addr) (key : ByteArray) (en : En) (w : World) (h : ¬ (1 ≤ key.size ∧ key.size ≤ 64)) (hm : key.size ≤ maxLen) :
    Calls Try.prog 12 #[.pointer d, .string key, en.v] w fun e w' => e = .returned (.tuple #[En.zero.v, .bool false, .int .i64 42]) ∧ Below w.heap.size w w' := by
  unfold maxLen at hm
  have hb0 : Below w.heap.size w ((w.alloc (.cells #[.int .i64 en.seg, .int .i64 en.at_, .int .i64 en.size, .int .i64 en.off, .int .i64 en.time, .bool en.tomb] 38)).alloc (.cells #[.int .i64 0, .int .i64 0, .int .i64 0, .int .i64 0, .int .i64 0, .bool false] 38)) := ((Below.refl _ _).alloc (Nat.le_refl _) _).alloc (by simp) _
  have hX1 := Box.new (w.alloc (.cells #[.int .i64 en.seg, .int .i64 en.at_, .int .i64 en.size, .int .i64 en.off, .int .i64 en.time, .bool en.tomb] 38)) 38 #[.int .i64 0, .int .i64 0, .int .i64 0, .int .i64 0, .int .i64 0, .bool false]
  rw [World.size_alloc] at hX1
  have hc := hX1.cell
  have hf := hX1.free
  have HB := Lib.hid hb0
  clear hb0 hX1
  rcases (show key.size < 1 ∨ (1 ≤ key.size ∧ 64 < key.size) by omega) with h1 | ⟨h1, h2⟩
  all_goals
    clear h
    go_enter Try.func12, Try.ntmps12
    go_wp2
    refine bodyPost_ret (v := .tuple #[En.zero.v, .bool false, .int .i64 42]) ?_ rfl ?_
    · simp [results, Try.results12, go_sem, hc, En.zero]
    refine ⟨rfl, ?_⟩
    repeat (first | with_reducible exact HB.out | refine Below.setCell ?_ (by simp) _)
end Go.Proofs.Ytglmhpmjebjcgaa
/- chronicleref8: Put of a key that is there. -/
namespace Go.Proofs.Ytglmhpmjebjcgaa
open Go.RowKit Go.Maps

theorem RR.ne {w : World} {B d n c g : Nat} {xs : List KE} (h : RR w B d (.slice (some ⟨g, 0, none⟩) n c) xs) : d ≠ g := by
  rintro rfl
  rcases h.2.1.2 with ⟨hv, _⟩ | ⟨g', c', cur, hv, hg, hh, _⟩
  · cases hv
  · injection hv with e1 _ _
    injection e1 with e1
    injection e1 with e1
    subst e1
    have hb := h.1
    unfold Box at hb
    rw [hb] at hh
    injection hh with e
    injection e with _ e
    exact absurd e (by decide)
theorem RR.set7 {w : World} {B d n c g r : Nat} {xs : List KE} {key : ByteArray} {o : En} (e : En) (h : RR w B d (.slice (some ⟨g, 0, none⟩) n c) xs) (hn : xs.length = n) (hi : r < xs.length) (hx : xs[r] = (key, o)) :
    RR ((((((w.setCell ⟨g, r * 7 + 1, none⟩ (.int .i64 e.seg)).setCell ⟨g, r * 7 + 2, none⟩ (.int .i64 e.at_)).setCell ⟨g, r * 7 + 3, none⟩ (.int .i64 e.size)).setCell ⟨g, r * 7 + 4, none⟩ (.int .i64 e.off)).setCell ⟨g, r * 7 + 5, none⟩ (.int .i64 e.time)).setCell ⟨g, r * 7 + 6, none⟩ (.bool e.tomb)) B d (.slice (some ⟨g, 0, none⟩) n c) (putL key e xs) := by
  subst hn
  have hne := h.ne
  have hz := h.2.2.2 _ (List.getElem_mem hi)
  rw [hx] at hz
  have h7 := row_set7 e h.2.1 hi (k := key) (by rw [hx])
  rw [put_at h.2.2.1 r hi hx] at h7
  refine ⟨?_, ?_, h.2.2.1.put key e, h.2.2.2.put (e := e) hz⟩
  · exact (((((h.1.far hne _).far hne _).far hne _).far hne _).far hne _).far hne _
  · have hl : (putL key e xs).length = xs.length := by rw [← put_at h.2.2.1 r hi hx e, List.length_set]
    rw [hl] at h7 ⊢
    exact h7
theorem addr_g (g k : Nat) : (⟨g, 0, none⟩ : Addr).add k = ⟨g, k, none⟩ := by unfold Addr.add; split <;> simp_all
/-- The place where a key is, in the dir's row. -/
theorem RR.place {w : World} {B d : Nat} {v : Value} {xs : List KE} {key : ByteArray} {o : En} (h : RR w B d v xs) (hg : getL key xs = some o) :
    ∃ g c r, v = .slice (some ⟨g, 0, none⟩) xs.length c ∧ (lo key xs).length = r ∧ (∃ hi : r < xs.length, xs[r] = (key, o)) ∧ xs.length ≤ c ∧ g < w.heap.size ∧ w.cell? ⟨g, r * 7, none⟩ = some (.string key) ∧
      w.cell? ⟨g, r * 7 + 1, none⟩ = some (.int .i64 o.seg) ∧ w.cell? ⟨g, r * 7 + 2, none⟩ = some (.int .i64 o.at_) ∧ w.cell? ⟨g, r * 7 + 3, none⟩ = some (.int .i64 o.size) ∧ w.cell? ⟨g, r * 7 + 4, none⟩ = some (.int .i64 o.off) ∧
      w.cell? ⟨g, r * 7 + 5, none⟩ = some (.int .i64 o.time) ∧ w.cell? ⟨g, r * 7 + 6, none⟩ = some (.bool o.tomb) ∧ (∀ i, w.frozen? ⟨g, i, none⟩ = false) := by
  obtain ⟨A, c, rfl, hR, hcap⟩ := h.rd
  obtain ⟨r, hr⟩ : ∃ r, (lo key xs).length = r := ⟨_, rfl⟩
  obtain ⟨hi, hx⟩ : ∃ hi : r < xs.length, xs[r] = (key, o) := hr ▸ getL_at h.2.2.1 hg
  obtain ⟨g, rfl, ho⟩ := own_g h.2.1 (by omega)
  obtain ⟨ad, e, had, a0, a1, a2, a3, a4, a5, a6⟩ := hR.ke hi
  injection e with e
  subst e
  rw [hx] at a0 a1 a2 a3 a4 a5 a6
  simp only [addr_g] at a0 a1 a2 a3 a4 a5 a6
  exact ⟨g, c, r, rfl, hr, ⟨hi, hx⟩, hcap, had, a0, a1, a2, a3, a4, a5, a6, ho.free⟩

set_option maxRecDepth 100000 in
set_option maxHeartbeats 8000000 in
theorem put8_old (B d : Nat) (v : Value) (key : ByteArray) (en o : En) (xs : List KE) (w : World) (h : RR w B d v xs) (hz : 1 ≤ key.size ∧ key.size ≤ 64) (hc : xs.length ≤ 2199023255480) (hg : getL key xs = some o) :
    Calls Try.prog 12 #[.pointer (some ⟨d, 0, none⟩), .string key, en.v] w fun e w' => e = .returned (.tuple #[o.v, .bool true, .int .i64 0]) ∧ RU w w' B d v (putL key en xs) := by
  obtain ⟨g, c, r, rfl, hr, ⟨hi, hx⟩, hcap, hgl, _⟩ := h.place hg
  have hdl := h.1.lt
  have hb0 : Below w.heap.size w ((w.alloc (.cells #[.int .i64 en.seg, .int .i64 en.at_, .int .i64 en.size, .int .i64 en.off, .int .i64 en.time, .bool en.tomb] 38)).alloc (.cells #[.int .i64 0, .int .i64 0, .int .i64 0, .int .i64 0, .int .i64 0, .bool false] 38)) := ((Below.refl _ _).alloc (Nat.le_refl _) _).alloc (by simp) _
  have hX0 := (Box.new w 38 #[.int .i64 en.seg, .int .i64 en.at_, .int .i64 en.size, .int .i64 en.off, .int .i64 en.time, .bool en.tomb]).alloc (.cells #[.int .i64 0, .int .i64 0, .int .i64 0, .int .i64 0, .int .i64 0, .bool false] 38)
  have hX1 := Box.new (w.alloc (.cells #[.int .i64 en.seg, .int .i64 en.at_, .int .i64 en.size, .int .i64 en.off, .int .i64 en.time, .bool en.tomb] 38)) 38 #[.int .i64 0, .int .i64 0, .int .i64 0, .int .i64 0, .int .i64 0, .bool false]
  rw [World.size_alloc] at hX1
  have hR := h.below hb0
  have hne := h.ne
  obtain ⟨nx, hnx⟩ : ∃ nx, xs.length = nx := ⟨_, rfl⟩
  have HX := Lib.hid (And.intro hi hx)
  rw [hnx] at hcap hR hi ⊢
  have H := Lib.hid (And.intro hb0 (And.intro hX0 (And.intro hX1 (And.intro hR (And.intro hg (And.intro hr (And.intro hnx hc)))))))
  have hk1 : ¬ key.size < 1 := by omega
  have hk2 : ¬ 64 < key.size := by omega
  have hzm := sz64 hz.2
  have hr0 : (0 : Int) ≤ r := by omega
  have hr1 : (r : Int) < nx := by omega
  clear h hb0 hX0 hX1 hg hr hx hi hnx hc hR
  go_enter Try.func12, Try.ntmps12
  go_wp2_with (first
    | (go_at_call 42
       refine (at_yes B d _ key xs o r _ H.out.2.2.2.1 hzm (by have := H.out.2.2.2.2.2.2.2; omega) H.out.2.2.2.2.1 H.out.2.2.2.2.2.1).mono ?_
       rintro e w1 ⟨rfl, n1, hw1⟩
       have h11 := below_drewN H.out.1 n1
       have h12 := H.out.2.1.drewN n1
       have h13 := H.out.2.2.1.drewN n1
       have h14 := H.out.2.2.2.1.below (below_drewN (Below.refl _ _) n1)
       rw [← hw1] at h11 h12 h13 h14
       obtain ⟨g', c', r', ev, er, _, _, _, a0, a1, a2, a3, a4, a5, a6, af⟩ := h14.place H.out.2.2.2.2.1
       injection ev with e1 _ e3
       injection e1 with e1
       injection e1 with e1
       have er' : r' = r := er.symm.trans H.out.2.2.2.2.2.1
       subst e1 e3 er'
       have hdc := h14.1.cell 0
       have hs1 := h11.size
       have hec := h12.cell
       have hef := h12.free
       have hzc := h13.cell
       have hzf := h13.free
       have H1 := Lib.hid (And.intro h11 (And.intro h12 (And.intro h13 h14)))
       clear h11 h12 h13 h14 hw1))
  have hgl1 : g < w1.heap.size := by omega
  have hgn : g ≠ w1.heap.size := by omega
  have k0 := bal w1 (.cells #[.int .i64 o.seg, .int .i64 o.at_, .int .i64 o.size, .int .i64 o.off, .int .i64 o.time, .bool o.tomb] 38)
  have k1 := H1.out.1.alloc (by omega) (.cells #[.int .i64 o.seg, .int .i64 o.at_, .int .i64 o.size, .int .i64 o.off, .int .i64 o.time, .bool o.tomb] 38)
  have k2 := H1.out.2.1.below k0 H1.out.2.1.lt
  have k3 := H1.out.2.2.1.below k0 H1.out.2.2.1.lt
  have k4 := H1.out.2.2.2.below k0
  have k5 := Box.new w1 38 #[.int .i64 o.seg, .int .i64 o.at_, .int .i64 o.size, .int .i64 o.off, .int .i64 o.time, .bool o.tomb]
  generalize w1.alloc (.cells #[.int .i64 o.seg, .int .i64 o.at_, .int .i64 o.size, .int .i64 o.off, .int .i64 o.time, .bool o.tomb] 38) = W1 at k0 k1 k2 k3 k4 k5 ⊢
  obtain ⟨g', c', r'', ev, er, _, _, hgW, b0, b1, b2, b3, b4, b5, b6, bf⟩ := k4.place H.out.2.2.2.2.1
  injection ev with e1 _ e3
  injection e1 with e1
  injection e1 with e1
  have er' : r'' = r' := er.symm.trans H.out.2.2.2.2.2.1
  subst e1 e3 er'
  have bf1 := bf (r'' * 7 + 1)
  have bf2 := bf (r'' * 7 + 2)
  have bf3 := bf (r'' * 7 + 3)
  have bf4 := bf (r'' * 7 + 4)
  have bf5 := bf (r'' * 7 + 5)
  have bf6 := bf (r'' * 7 + 6)
  have hdc1 := k4.1.cell 0
  have hec1 := k2.cell
  have hef1 := k2.free
  have hzc1 := k3.cell
  have hzf1 := k3.free
  have hoc1 := k5.cell
  have hof1 := k5.free
  have H2 := Lib.hid (And.intro k1 (And.intro k2 (And.intro k3 (And.intro k4 k5))))
  clear k0 k1 k2 k3 k4 k5 hdc hec hef hzc hzf a0 a1 a2 a3 a4 a5 a6 af bf
  have hg0 : g ≠ w.heap.size := by omega
  have hg1 : g ≠ w.heap.size + 1 := by omega
  go_still_tail 8, (by kernel_rfl)
  go_wp2
  refine bodyPost_ret (v := .tuple #[o.v, .bool true, .int .i64 0]) ?_ rfl ?_
  · simp [results, Try.results12, go_sem, hzc1]
  have H7 := RR.set7 en H2.out.2.2.2.1 H.out.2.2.2.2.2.2.1 HX.out.1 HX.out.2
  refine ⟨rfl, ⟨_, ?_, .inl rfl⟩, ?_⟩
  · refine RR.below (w := _) ?_ (Below.refl _ _).drew
    iterate 6 refine RR.far ?_ (by show d ≠ w.heap.size + 1; omega) (fun k hk => by injection hk with hk; subst hk; exact hg1) _
    simp only [Nat.add_assoc, Nat.reduceAdd]
    rw [H.out.2.2.2.2.2.2.1]
    exact H7
  · have hC : Chg (fun k => k = d ∨ some k = (Value.slice (some ⟨g, 0, none⟩) xs.length c).ownBlock) w W1 := Chg.of_below H2.out.1 _
    refine Chg.drew ?_
    iterate 6 refine Chg.setCell ?_ (.inr (by show w.heap.size ≤ w.heap.size + 1; omega)) _
    iterate 6 refine Chg.setCell ?_ (.inl (.inr rfl)) _
    exact hC
end Go.Proofs.Ytglmhpmjebjcgaa
/- chronicleref8: Put of a new key. -/
namespace Go.Proofs.Ytglmhpmjebjcgaa
open Go.RowKit Go.Maps

set_option maxRecDepth 100000 in
set_option maxHeartbeats 8000000 in
theorem put8_new (B d : Nat) (v : Value) (key : ByteArray) (en : En) (xs : List KE) (w : World) (h : RR w B d v xs) (hz : 1 ≤ key.size ∧ key.size ≤ 64) (hc : xs.length ≤ 2199023255480) (hg : getL key xs = none) (hB : B ≤ w.heap.size) :
    Calls Try.prog 12 #[.pointer (some ⟨d, 0, none⟩), .string key, en.v] w fun e w' => e = .returned (.tuple #[En.zero.v, .bool false, .int .i64 0]) ∧ RU w w' B d v (putL key en xs) := by
  obtain ⟨i1, hi1, hz1, hs1, hy1⟩ := info_parts infoKE
  obtain ⟨A, c, rfl, hR, hcap⟩ := h.rd
  obtain ⟨r, hr⟩ : ∃ r, (lo key xs).length = r := ⟨_, rfl⟩
  have hrl : r ≤ xs.length := by have := lo_le key xs; omega
  have hdl := h.1.lt
  have hb0 : Below w.heap.size w ((w.alloc (.cells #[.int .i64 en.seg, .int .i64 en.at_, .int .i64 en.size, .int .i64 en.off, .int .i64 en.time, .bool en.tomb] 38)).alloc (.cells #[.int .i64 0, .int .i64 0, .int .i64 0, .int .i64 0, .int .i64 0, .bool false] 38)) := ((Below.refl _ _).alloc (Nat.le_refl _) _).alloc (by simp) _
  have hX0 := (Box.new w 38 #[.int .i64 en.seg, .int .i64 en.at_, .int .i64 en.size, .int .i64 en.off, .int .i64 en.time, .bool en.tomb]).alloc (.cells #[.int .i64 0, .int .i64 0, .int .i64 0, .int .i64 0, .int .i64 0, .bool false] 38)
  have hX1 := Box.new (w.alloc (.cells #[.int .i64 en.seg, .int .i64 en.at_, .int .i64 en.size, .int .i64 en.off, .int .i64 en.time, .bool en.tomb] 38)) 38 #[.int .i64 0, .int .i64 0, .int .i64 0, .int .i64 0, .int .i64 0, .bool false]
  rw [World.size_alloc] at hX1
  have H := Lib.hid (And.intro hb0 (And.intro hX0 (And.intro hX1 (And.intro (h.below hb0) (And.intro hR (And.intro hg hr))))))
  have HI := Lib.hid (And.intro (ins_at (en := en) h.2.2.1 hg r hr) (And.intro (h.2.2.1.put key en) (And.intro (h.2.2.2.put (e := en) hz) hc)))
  have HLn := Lib.hid (put_len1 h.2.2.1 en hg)
  obtain ⟨nx, hnx⟩ : ∃ nx, xs.length = nx := ⟨_, rfl⟩
  have HN := Lib.hid hnx
  rw [hnx] at hrl hcap hc
  have hk1 : ¬ key.size < 1 := by omega
  have hk2 : ¬ 64 < key.size := by omega
  have hzm := sz64 hz.2
  have hr0 : (0 : Int) ≤ r := by omega
  have hr1 : (r : Int) ≤ nx := by omega
  have hr2 : (r : Int) ≤ c := by omega
  have hsl1 := run_head A nx c r (by omega)
  have hsl2 := run_rest A nx c r (by omega)
  clear h hR hb0 hX0 hX1 hg hr hnx
  go_enter Try.func12, Try.ntmps12
  go_wp2_with (first
    | (go_at_call 42
       refine (at_no B d _ key xs _ H.out.2.2.2.1 hzm (by have := HI.out.2.2.2; omega) H.out.2.2.2.2.2.1).mono ?_
       rintro e w1 ⟨rfl, n1, hw1⟩
       have h11 := below_drewN H.out.1 n1
       have h12 := H.out.2.1.drewN n1
       have h13 := H.out.2.2.1.drewN n1
       have h14 := H.out.2.2.2.1.below (below_drewN (Below.refl _ _) n1)
       rw [← hw1] at h11 h12 h13 h14
       have H1 := Lib.hid (And.intro h11 (And.intro h12 (And.intro h13 h14)))
       clear h11 h12 h13 h14 hw1)
    | (go_at_call 22
       refine (rank8 B d _ key xs _ H1.out.2.2.2 hzm (by have := HI.out.2.2.2; omega)).mono ?_
       rintro e w2 ⟨rfl, n2, hw2⟩
       rw [H.out.2.2.2.2.2.2]
       have h21 := below_drewN H1.out.1 n2
       have h22 := H1.out.2.1.drewN n2
       have h23 := H1.out.2.2.1.drewN n2
       have h24 := H1.out.2.2.2.below (below_drewN (Below.refl _ _) n2)
       rw [← hw2] at h21 h22 h23 h24
       rw [HN.out] at h24
       have hdc := h24.1.cell 0
       have hdf := h24.1.free 0
       have hdl2 := h24.1.lt
       have hrd := (H.out.2.2.2.2.1.below h21).mono h21.size
       have hs2 := h21.size
       have H2 := Lib.hid (And.intro h21 (And.intro h22 (And.intro h23 (And.intro h24 hrd))))
       clear h21 h22 h23 h24 hrd hw2)
    | (at_builtin
       refine wpList_app _ rfl (.tmp 46) (.tmp 52) _ rfl w2.heap.size 58 i1 _ 7 64 Try.underlying43 hi1 hz1 hs1 hy1 rfl (by decide) (.slice none 0 0) 0 [] rfl (World.ownsRow_nil _ _ _ _) _ A r c ((xs.take r).flatMap keC) rfl (by rw [keC_len, List.length_take, HN.out, Nat.min_eq_left hrl]) (H2.out.2.2.2.2.part r) (one_ke _) (by unfold maxLen; omega) (by omega) (Nat.le_refl _) ?_
       intro v3 w3 hown hg3 hor
       rw [Nat.zero_add, List.nil_append] at hown
       obtain ⟨b3, c3, rfl⟩ := row_slice hown
       have hb3 : Below w2.heap.size w2 w3 := (Below.refl _ _).grown hg3 (Nat.le_refl _) (fun j e => by cases e)
       have q1 := H2.out.2.1.below hb3 H2.out.2.1.lt
       have q2 := H2.out.2.2.1.below hb3 H2.out.2.2.1.lt
       have q4 := H2.out.2.2.2.1.below hb3
       have hdc3 := q4.1.cell 0
       have hdl3 := q4.1.lt
       have hec3 := q1.cell
       have hel3 := q1.lt
       have hs3 := hb3.size
       have H3 := Lib.hid (And.intro hown (And.intro hb3 (And.intro q1 (And.intro q2 (And.intro q4 (H2.out.2.2.2.2.below hb3))))))
       clear hown hg3 hor hb3 q1 q2 q4 hdc hdf)
    | (at_builtin
       refine wpList_app _ rfl (.tmp 54) (.tmp 58) _ rfl w2.heap.size 58 i1 _ 7 64 Try.underlying43 hi1 hz1 hs1 hy1 rfl (by decide) (.slice b3 r c3) r _ rfl (H3.out.1.alloc _) _ _ 1 1 (keC (key, en)) rfl rfl (rd_new _ _ _) (by simpa using one_ke [(key, en)]) (by unfold maxLen; omega) (by omega) (by simp; omega) ?_
       intro v4 w4 hown hg4 hor
       obtain ⟨b4, c4, rfl⟩ := row_slice hown
       have hb4 : Below w2.heap.size w2 w4 := (H3.out.2.1.alloc H3.out.2.1.size _).grown hg4 (by simp; omega) (fun j e => (H3.out.1.lt j e).1)
       have q1 := H2.out.2.1.below hb4 H2.out.2.1.lt
       have q2 := H2.out.2.2.1.below hb4 H2.out.2.2.1.lt
       have q4 := H2.out.2.2.2.1.below hb4
       have hdc4 := q4.1.cell 0
       have hdl4 := q4.1.lt
       have hs4 := hb4.size
       have H4 := Lib.hid (And.intro hown (And.intro hb4 (And.intro q1 (And.intro q2 (And.intro q4 (H2.out.2.2.2.2.below hb4))))))
       clear hown hg4 hor hb4 q1 q2 q4 hdc3 hec3 H3)
    | (at_builtin
       refine wpList_app _ rfl (.tmp 60) (.tmp 66) _ rfl w2.heap.size 58 i1 _ 7 64 Try.underlying43 hi1 hz1 hs1 hy1 rfl (by decide) (.slice b4 (r + 1) c4) (r + 1) _ rfl H4.out.1 _ (restA A c r) (nx - r) (c - r) ((xs.drop r).flatMap keC) rfl (by rw [keC_len, List.length_drop, HN.out]) (H4.out.2.2.2.2.2.restA (by rw [HN.out]; exact hrl) (by rw [HN.out]; exact hcap)) (one_ke _) (by unfold maxLen; omega) (by omega) (by omega) ?_
       intro v5 w5 hown hg5 hor
       rw [show r + 1 + (nx - r) = nx + 1 by omega] at hown
       obtain ⟨b5, c5, rfl⟩ := row_slice hown
       have hb5 : Below w2.heap.size w2 w5 := H4.out.2.1.grown hg5 (by omega) (fun j e => (H4.out.1.lt j e).1)
       have q1 := H2.out.2.1.below hb5 H2.out.2.1.lt
       have q2 := H2.out.2.2.1.below hb5 H2.out.2.2.1.lt
       have q4 := H2.out.2.2.2.1.below hb5
       have hdc5 := q4.1.cell 0
       have hdf5 := q4.1.free 0
       have hdl5 := q4.1.lt
       have hzc5 := q2.cell
       have hzf5 := q2.free
       have hzl5 := q2.lt
       have hs5 := hb5.size
       have H5 := Lib.hid (And.intro hown (And.intro hb5 (And.intro q2 q4)))
       clear hown hg5 hor hb5 q1 q2 q4 hdc4 H4))
  refine bodyPost_ret (v := .tuple #[En.zero.v, .bool false, .int .i64 0]) ?_ rfl ?_
  · simp [results, Try.results12, go_sem, hzc5, En.zero]
  have hB1 : Below w.heap.size w w5 := H2.out.1.trans (H5.out.2.1.mono hs2)
  have hrow := row_le H5.out.1 (Nat.le_trans hB hs2)
  rw [List.append_assoc, show keC (key, en) ++ (xs.drop r).flatMap keC = ((key, en) :: xs.drop r).flatMap keC from rfl, ← List.flatMap_append, ← HI.out.1] at hrow
  have hln : (putL key en xs).length = nx + 1 := by rw [HLn.out, HN.out]
  have hfar : ∀ k, (Value.slice b5 (nx + 1) c5).ownBlock = some k → w2.heap.size ≤ k := fun k hk => (H5.out.1.lt k hk).1
  have hdr : d < w.heap.size := hdl
  have hz2 := H2.out.2.2.1.lt
  refine ⟨rfl, ⟨.slice b5 (nx + 1) c5, ?_, .inr fun j hj => Nat.le_trans hs2 (hfar j hj)⟩, ?_⟩
  · iterate 6 refine RR.far ?_ (by show d ≠ w.heap.size + 1; omega) (fun k hk => by have := hfar k hk; show k ≠ w.heap.size + 1; omega) _
    refine ⟨by simpa using H5.out.2.2.2.1.set_ 0 (.slice b5 (nx + 1) c5), ?_, HI.out.2.1, HI.out.2.2.1⟩
    rw [hln]
    exact row_far hrow (fun k hk => by have := hfar k hk; show k ≠ d; omega) _
  · iterate 6 refine Chg.setCell ?_ (.inr (by show w.heap.size ≤ w.heap.size + 1; omega)) _
    refine Chg.setCell ?_ (.inl (.inl rfl)) _
    exact Chg.of_below hB1 _

end Go.Proofs.Ytglmhpmjebjcgaa
