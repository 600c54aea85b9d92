import Derived.Test.YtglmhpmjebjcgaaKh
import Derived.Deep.RegionWith
/- KeydirMoves: each call of the program's dir and of the document's, in one form: the same values, the same list behind it. -/
namespace Go.Proofs.Ytglmhpmjebjcgaa
open Go.RowKit Go.Maps

def pA (xs : List KE) (key : ByteArray) : En × Bool × Int := if goodB key = true then ((getL key xs).getD En.zero, (getL key xs).isSome, 0) else (En.zero, false, 42)
abbrev pT (a : En × Bool × Int) : Value := .tuple #[a.1.v, .bool a.2.1, .int .i64 a.2.2]
theorem good_iff (key : ByteArray) : goodB key = true ↔ 1 ≤ key.size ∧ key.size ≤ 64 := by simp [goodB]
theorem bad_none {key : ByteArray} {xs : List KE} (hk : KeysOk xs) (h : ¬ goodB key = true) : getL key xs = none :=
  get_none.2 fun x hx e => h (by rw [good_iff, ← e]; exact hk x hx)
theorem put_all (d : Nat) (key : ByteArray) (en : En) (xs : List KE) (w : World) (h : DR w d xs) (hz : key.size ≤ maxLen) (hc : xs.length ≤ 800000000000000) :
    Calls Try.prog 11 #[.pointer (some ⟨d, 0, none⟩), .string key, en.v] w fun e w' => e = .returned (pT (pA xs key)) ∧ DR w' d (bstep xs (key, en)) ∧ Dch d w w' := by
  unfold bstep pA
  by_cases hg : goodB key = true
  · simp only [hg, if_true]
    exact (put_ok d key en xs w h ((good_iff _).1 hg) hc).mono fun _ _ ⟨h1, h2, h3⟩ => ⟨h1, h2, h3⟩
  · simp only [hg]
    exact (put_bad d key en w (fun h => hg ((good_iff _).2 h)) hz).mono fun _ _ ⟨h1, h2⟩ => ⟨h1, h.next h2, Chg.of_below h2 _⟩
theorem put8_all (B d : Nat) (v : Value) (key : ByteArray) (en : En) (xs : List KE) (w : World) (h : RR w B d v xs) (hz : key.size ≤ maxLen) (hc : xs.length ≤ 2199023255480) (hB : B ≤ w.heap.size) :
    Calls Try.prog 12 #[.pointer (some ⟨d, 0, none⟩), .string key, en.v] w fun e w' => e = .returned (pT (pA xs key)) ∧ RU w w' B d v (bstep xs (key, en)) := by
  unfold bstep pA
  by_cases hg : goodB key = true
  · simp only [hg, if_true]
    exact (put8_ok B d v key en xs w h ((good_iff _).1 hg) hc hB).mono fun _ _ ⟨h1, h2⟩ => ⟨h1, h2⟩
  · simp only [hg]
    exact (put8_bad (some ⟨d, 0, none⟩) key en w (fun h => hg ((good_iff _).2 h)) hz).mono fun _ _ ⟨h1, h2⟩ => ⟨h1, RU.same h h2⟩

def eA (xs : List KE) (key : ByteArray) : En × Bool := ((getL key xs).getD En.zero, (getL key xs).isSome)
abbrev eT (a : En × Bool) : Value := .tuple #[a.1.v, .bool a.2]
theorem get_all (d : Nat) (key : ByteArray) (xs : List KE) (w : World) (h : DR w d xs) (hz : key.size ≤ maxLen) :
    Calls Try.prog 17 #[.pointer (some ⟨d, 0, none⟩), .string key] w fun e w' => e = .returned (eT (eA xs key)) ∧ Below w.heap.size w w' :=
  (get_any d key xs w h hz).mono fun _ _ ⟨h1, h2⟩ => ⟨by rw [h1, entV_eq]; rfl, h2⟩
theorem get8_all (B d : Nat) (v : Value) (key : ByteArray) (xs : List KE) (w : World) (h : RR w B d v xs) (hz : key.size ≤ maxLen) (hc : xs.length ≤ 800000000000000) :
    Calls Try.prog 18 #[.pointer (some ⟨d, 0, none⟩), .string key] w fun e w' => e = .returned (eT (eA xs key)) ∧ Below w.heap.size w w' :=
  (get8 B d v key xs w h hz hc).mono fun _ _ ⟨h1, h2⟩ => ⟨by rw [h1]; unfold eA; cases getL key xs <;> rfl, h2⟩
theorem rem_all (d : Nat) (key : ByteArray) (xs : List KE) (w : World) (h : DR w d xs) (hz : key.size ≤ maxLen) (hc : xs.length ≤ 800000000000000) :
    Calls Try.prog 19 #[.pointer (some ⟨d, 0, none⟩), .string key] w fun e w' => e = .returned (eT (eA xs key)) ∧ DR w' d (rstep xs key) ∧ Dch d w w' := by
  unfold rstep eA
  cases hg : getL key xs with
  | none =>
    rw [if_pos rfl]
    exact (rem_no d key xs w h hz hg).mono fun _ _ ⟨h1, h2⟩ => ⟨h1, h.next h2, Chg.of_below h2 _⟩
  | some o =>
    rw [if_neg (by simp)]
    exact (rem_yes d key xs w h hz hc o hg).mono fun _ _ ⟨h1, h2, h3⟩ => ⟨h1, h2, h3⟩
theorem rem8_all (B d : Nat) (v : Value) (key : ByteArray) (xs : List KE) (w : World) (h : RR w B d v xs) (hz : key.size ≤ maxLen) (hc : xs.length ≤ 2199023255480) (hB : B ≤ w.heap.size) :
    Calls Try.prog 20 #[.pointer (some ⟨d, 0, none⟩), .string key] w fun e w' => e = .returned (eT (eA xs key)) ∧ RU w w' B d v (rstep xs key) := by
  unfold rstep eA
  cases hg : getL key xs with
  | none =>
    rw [if_pos rfl]
    exact (rem8_no B d v key xs w h hz hc hg).mono fun _ _ ⟨h1, h2⟩ => ⟨h1, RU.same h h2⟩
  | some o =>
    rw [if_neg (by simp)]
    exact (rem8_yes B d v key o xs w h hz hc hg hB).mono fun _ _ ⟨h1, h2⟩ => ⟨h1, h2⟩

def nA (xs : List KE) (key : ByteArray) (en : En) : Bool × Int := if goodB key = true then (match getL key xs with | none => (true, 0) | some o => if o.off < en.off then (true, 0) else (false, 0)) else (false, 42)
def nstep (xs : List KE) (key : ByteArray) (en : En) : List KE := if goodB key = true then (match getL key xs with | none => putL key en xs | some o => if o.off < en.off then putL key en xs else xs) else xs
abbrev nT (a : Bool × Int) : Value := .tuple #[.bool a.1, .int .i64 a.2]
theorem nstep_len (xs : List KE) (key : ByteArray) (en : En) : (nstep xs key en).length ≤ xs.length + 1 := by
  have := put_len key en xs
  unfold nstep
  split
  · split
    · exact this
    · split
      · exact this
      · omega
  · omega
theorem note_all (d : Nat) (key : ByteArray) (en : En) (xs : List KE) (w : World) (h : DR w d xs) (hz : key.size ≤ maxLen) (hc : xs.length ≤ 800000000000000) :
    Calls Try.prog 13 #[.pointer (some ⟨d, 0, none⟩), .string key, en.v] w fun e w' => e = .returned (nT (nA xs key en)) ∧ DR w' d (nstep xs key en) ∧ Dch d w w' := by
  unfold nA nstep
  by_cases hg : goodB key = true
  · simp only [hg, if_true]
    have hz' := (good_iff _).1 hg
    cases hgl : getL key xs with
    | none => exact (note_none d key en xs w h hz' hc hgl).mono fun _ _ ⟨h1, h2, h3⟩ => ⟨h1, h2, h3⟩
    | some o =>
      by_cases ho : o.off < en.off
      · simp only [ho, if_true]
        exact (note_more d key en xs w h hz' hc o hgl ho).mono fun _ _ ⟨h1, h2, h3⟩ => ⟨h1, h2, h3⟩
      · simp only [ho, if_false]
        exact (note_less d key en xs w h hz' o hgl (by omega)).mono fun _ _ ⟨h1, h2⟩ => ⟨h1, h.next h2, Chg.of_below h2 _⟩
  · simp only [hg]
    exact (note_bad d key en w (fun h => hg ((good_iff _).2 h)) hz).mono fun _ _ ⟨h1, h2⟩ => ⟨h1, h.next h2, Chg.of_below h2 _⟩
theorem note8_all (B d : Nat) (v : Value) (key : ByteArray) (en : En) (xs : List KE) (w : World) (h : RR w B d v xs) (hz : key.size ≤ maxLen) (hc : xs.length ≤ 2199023255480) (hB : B ≤ w.heap.size) :
    Calls Try.prog 14 #[.pointer (some ⟨d, 0, none⟩), .string key, en.v] w fun e w' => e = .returned (nT (nA xs key en)) ∧ RU w w' B d v (nstep xs key en) := by
  unfold nA nstep
  by_cases hg : goodB key = true
  · simp only [hg, if_true]
    have hz' := (good_iff _).1 hg
    cases hgl : getL key xs with
    | none => exact (note8_none B d v key en xs w h hz' hc hB hgl).mono fun _ _ ⟨h1, h2⟩ => ⟨h1, h2⟩
    | some o =>
      by_cases ho : o.off < en.off
      · simp only [ho, if_true]
        exact (note8_more B d v key en o xs w h hz hc hgl hz' ho hB).mono fun _ _ ⟨h1, h2⟩ => ⟨h1, h2⟩
      · simp only [ho, if_false]
        exact (note8_less B d v key en o xs w h hz hc hgl (by omega)).mono fun _ _ ⟨h1, h2⟩ => ⟨h1, RU.same h h2⟩
  · simp only [hg]
    exact (note8_bad B d v key en xs w h (fun h => hg ((good_iff _).2 h)) hz hc (bad_none h.2.2.2 hg)).mono fun _ _ ⟨h1, h2⟩ => ⟨h1, RU.same h h2⟩

def pB (xs : List KE) (key : ByteArray) (off : Int) : Bool := match getL key xs with
  | none => false
  | some o => decide (o.off = off)
theorem point_all (d : Nat) (key : ByteArray) (off seg at_ : Int) (xs : List KE) (w : World) (h : DR w d xs) (hz : key.size ≤ maxLen) (hc : xs.length ≤ 800000000000000) :
    Calls Try.prog 15 #[.pointer (some ⟨d, 0, none⟩), .string key, .int .i64 off, .int .i64 seg, .int .i64 at_] w fun e w' => e = .returned (.bool (pB xs key off)) ∧ DR w' d (pstep xs key off seg at_) ∧ Dch d w w' := by
  unfold pstep pB
  cases hg : getL key xs with
  | none => exact (point_none d key off seg at_ xs w h hz hg).mono fun _ _ ⟨h1, h2⟩ => ⟨h1, h.next h2, Chg.of_below h2 _⟩
  | some o =>
    simp only
    by_cases ho : o.off = off
    · rw [if_pos ho, decide_eq_true ho]
      exact (point_yes d key off seg at_ xs w h hz hc o hg ho).mono fun _ _ ⟨h1, h2, h3⟩ => ⟨h1, h2, h3⟩
    · rw [if_neg ho, decide_eq_false ho]
      exact (point_other d key off seg at_ xs w h hz o hg ho).mono fun _ _ ⟨h1, h2⟩ => ⟨h1, h.next h2, Chg.of_below h2 _⟩
theorem point8_all (B d : Nat) (v : Value) (key : ByteArray) (off seg at_ : Int) (xs : List KE) (w : World) (h : RR w B d v xs) (hz : key.size ≤ maxLen) (hc : xs.length ≤ 2199023255480) :
    Calls Try.prog 16 #[.pointer (some ⟨d, 0, none⟩), .string key, .int .i64 off, .int .i64 seg, .int .i64 at_] w fun e w' => e = .returned (.bool (pB xs key off)) ∧ RU w w' B d v (pstep xs key off seg at_) := by
  unfold pstep pB
  cases hg : getL key xs with
  | none => exact (point8_none B d v key off seg at_ xs w h hz hc hg).mono fun _ _ ⟨h1, h2⟩ => ⟨h1, RU.same h h2⟩
  | some o =>
    simp only
    by_cases ho : o.off = off
    · rw [if_pos ho, decide_eq_true ho]
      exact (point8_yes B d v key off seg at_ xs o w h hz hc hg ho).mono fun _ _ ⟨h1, h2⟩ => ⟨h1, h2⟩
    · rw [if_neg ho, decide_eq_false ho]
      exact (point8_other B d v key off seg at_ xs o w h hz hc hg ho).mono fun _ _ ⟨h1, h2⟩ => ⟨h1, RU.same h h2⟩

theorem lenD (d : Nat) (xs : List KE) (w : World) (h : DR w d xs) : Calls Try.prog 23 #[.pointer (some ⟨d, 0, none⟩)] w fun e w' => e = .returned (.int .i64 xs.length) ∧ w' = w :=
  (len_any d xs w h).mono fun _ _ ⟨h1, h2⟩ => ⟨h1, h2.symm⟩

set_option maxRecDepth 100000 in
set_option maxHeartbeats 4000000 in
theorem nth_below (d : Nat) (k : Int) (xs : List KE) (w : World) (h : DR w d xs) (hk : k < 0) :
    Calls Try.prog 25 #[.pointer (some ⟨d, 0, none⟩), .int .i64 k] w fun e w' => e = .returned (.tuple #[.agg #[.string ⟨#[]⟩, .int .i64 0, .int .i64 0, .int .i64 0, .int .i64 0, .int .i64 0, .bool false], .bool false]) ∧ Below w.heap.size w w' := by
  obtain ⟨t, p, h1, h2, rfl, h4, h5⟩ := h
  have hb0 := bal w (.cells #[.string ⟨#[]⟩, .int .i64 0, .int .i64 0, .int .i64 0, .int .i64 0, .int .i64 0, .bool false] 58)
  have hX0 := Box.new w 58 #[.string ⟨#[]⟩, .int .i64 0, .int .i64 0, .int .i64 0, .int .i64 0, .int .i64 0, .bool false]
  have hxc := hX0.cell
  have hxf := hX0.free
  have H := Lib.hid (And.intro (h1.below hb0 h1.lt) hb0)
  clear h1 h2 h4 h5 hb0 hX0
  go_enter Try.func25, Try.ntmps25
  go_wp2_with (first
    | (go_at_call 44; refine (top_any d p _ H.out.1).mono ?_; rintro e w' ⟨rfl, hw'⟩; subst hw'))
  refine bodyPost_ret (v := .tuple #[.agg #[.string ⟨#[]⟩, .int .i64 0, .int .i64 0, .int .i64 0, .int .i64 0, .int .i64 0, .bool false], .bool false]) ?_ rfl ?_
  · simp [results, Try.results25, go_sem, hxc]
  refine ⟨rfl, ?_⟩
  repeat (first | with_reducible exact H.out.2 | refine Below.setCell ?_ (by simp) _)
set_option maxRecDepth 100000 in
set_option maxHeartbeats 4000000 in
theorem nth_big (d : Nat) (k : Int) (xs : List KE) (w : World) (h : DR w d xs) (hc : xs.length ≤ 800000000000000) (hk : (xs.length : Int) ≤ k) (hk2 : k ≤ 9223372036854775807) :
    Calls Try.prog 25 #[.pointer (some ⟨d, 0, none⟩), .int .i64 k] w fun e w' => e = .returned (.tuple #[.agg #[.string ⟨#[]⟩, .int .i64 0, .int .i64 0, .int .i64 0, .int .i64 0, .int .i64 0, .bool false], .bool false]) ∧ Below w.heap.size w w' := by
  obtain ⟨t, p, h1, h2, rfl, h4, h5⟩ := h
  have hb0 := bal w (.cells #[.string ⟨#[]⟩, .int .i64 0, .int .i64 0, .int .i64 0, .int .i64 0, .int .i64 0, .bool false] 58)
  have hX0 := Box.new w 58 #[.string ⟨#[]⟩, .int .i64 0, .int .i64 0, .int .i64 0, .int .i64 0, .int .i64 0, .bool false]
  have H := Lib.hid (And.intro (h1.below hb0 h1.lt) (And.intro (h2.below hb0) (And.intro h4 (And.intro h5 (And.intro hb0 hX0)))))
  have hct : t.cnt ≤ 800000000000000 := hc
  have hkt : (t.cnt : Int) ≤ k := hk
  clear h1 h2 h4 h5 hb0 hX0 hc hk
  go_enter Try.func25, Try.ntmps25
  have hk0 : (0 : Int) ≤ k := by omega
  go_wp2_with (first
    | (go_at_call 44; refine (top_any d p _ H.out.1).mono ?_; rintro e w' ⟨rfl, hw'⟩; subst hw'))
  generalize hW1 : w.alloc (.cells #[.string ⟨#[]⟩, .int .i64 0, .int .i64 0, .int .i64 0, .int .i64 0, .int .i64 0, .bool false] 58) = W1 at H ⊢
  clear hW1
  go_loopw [1, 6] (fun s v wr => ∃ (u : Tn) (q : Option Addr) (a : Int), s = .int .i64 a ∧ a ≤ k ∧ (u.cnt : Int) ≤ a ∧ v = .pointer q ∧ wr = W1 ∧ Tr wr wr.heap.size u q ∧ u.cnt ≤ t.cnt)
    (fun _ v wr => szOf wr v)
  case atStart => exact ⟨t, p, k, rfl, Int.le_refl _, hkt, rfl, rfl, H.out.2.1, Nat.le_refl _⟩
  case round =>
    obtain ⟨u, q, a, rfl, hak, hua, rfl, rfl, hT, hcu⟩ := hrel
    have hxc := H.out.2.2.2.2.2.cell
    have hxf := H.out.2.2.2.2.2.free
    have hxl := H.out.2.2.2.2.2.lt
    have HL := Lib.hid H.out.2.2.2.2.1
    cases u with
    | leaf =>
      obtain rfl : q = none := hT
      go_wp2
      refine bodyPost_ret (v := .tuple #[.agg #[.string ⟨#[]⟩, .int .i64 0, .int .i64 0, .int .i64 0, .int .i64 0, .int .i64 0, .bool false], .bool false]) ?_ rfl ?_
      · simp [results, Try.results25, go_sem, hxc]
      refine ⟨rfl, ?_⟩
      repeat (first | with_reducible exact HL.out | refine Below.setCell ?_ (by simp) _)
    | node k0 e0 l r =>
      have Hsz := Lib.hid (szOf_tr hT)
      obtain ⟨b, p1, p2, rfl, hb, h1, h2, hx⟩ := hT.cells
      have hN := NC.of hx
      have hcn := Tn.cnt_node k0 e0 l r
      have HH := Lib.hid (And.intro h1 h2)
      obtain ⟨n0, n1, n2, n3, n4, n5, n6, n8, n9⟩ := hN
      have hlc : l.cnt ≤ 800000000000000 := by omega
      have hal : (l.cnt : Int) + 1 + r.cnt ≤ a := by omega
      have HCN := Lib.hid hcn
      clear hT hx hcn h1 h2 hua
      have hal' : ¬ (a : Int) < l.cnt := by omega
      have hne : ¬ (a : Int) = l.cnt := by omega
      go_wp2_with (first
        | (go_at_call 47
           (with_reducible refine (count_any l p1 _ _ HH.out.1).mono ?_)
           rintro e w' ⟨rfl, hw'⟩
           subst hw'))
      go_roundw
      case rel => exact ⟨r, p2, a - (l.cnt + 1), by go_num, by omega, by omega, rfl, (by first | rfl | trivial), HH.out.2, by have := HCN.out; omega⟩
      case measure =>
        have e1 := Hsz.out
        have e2 := HCN.out
        have e3 := szOf_tr HH.out.2
        omega
/-- What Nth answers, of both dirs. -/
def tA (xs : List KE) (k : Int) : KE × Bool := if k < 0 then ((⟨#[]⟩, En.zero), false) else (match xs[k.toNat]? with | none => ((⟨#[]⟩, En.zero), false) | some x => (x, true))
theorem nth_all (d : Nat) (k : Int) (xs : List KE) (w : World) (h : DR w d xs) (hc : xs.length ≤ 800000000000000) (hk2 : k ≤ 9223372036854775807) :
    Calls Try.prog 25 #[.pointer (some ⟨d, 0, none⟩), .int .i64 k] w fun e w' => e = .returned (.tuple #[keV (tA xs k).1, .bool (tA xs k).2]) ∧ Below w.heap.size w w' := by
  unfold tA
  by_cases h0 : k < 0
  · rw [if_pos h0]
    exact nth_below d k xs w h h0
  · rw [if_neg h0]
    by_cases h1 : (xs.length : Int) ≤ k
    · rw [List.getElem?_eq_none (by omega)]
      exact nth_big d k xs w h hc h1 hk2
    · have e := List.getElem?_eq_getElem (l := xs) (i := k.toNat) (by omega)
      rw [e]
      have := nth_some d k.toNat xs w h hc _ e (by omega)
      rwa [show ((k.toNat : Nat) : Int) = k by omega] at this
theorem nth8_all (B d : Nat) (v : Value) (k : Int) (xs : List KE) (w : World) (h : RR w B d v xs) :
    Calls Try.prog 26 #[.pointer (some ⟨d, 0, none⟩), .int .i64 k] w fun e w' => e = .returned (.tuple #[keV (tA xs k).1, .bool (tA xs k).2]) ∧ Below w.heap.size w w' := by
  unfold tA
  by_cases h0 : k < 0
  · rw [if_pos h0]
    exact nth8_none B d v k xs w h (.inl h0)
  · rw [if_neg h0]
    by_cases h1 : (xs.length : Int) ≤ k
    · rw [List.getElem?_eq_none (by omega)]
      exact nth8_none B d v k xs w h (.inr h1)
    · have e := List.getElem?_eq_getElem (l := xs) (i := k.toNat) (by omega)
      rw [e]
      have := nth8_some B d k.toNat v xs _ w h e
      rwa [show ((k.toNat : Nat) : Int) = k by omega] at this

set_option maxRecDepth 100000 in
theorem range_low (dp : Option Addr) (lo hi : ByteArray) (lim : Int) (w : World) (h : lim < 1) :
    Calls Try.prog 27 #[.pointer dp, .string lo, .string hi, .int .i64 lim] w (RV [] w) := by
  have hdl : decide (lim < 1) = true := decide_eq_true h
  go_enter Try.func27, Try.ntmps27
  go_wp2
  go_ret
  exact ⟨_, rfl, World.ownsRow_nil _ _ _ _, by repeat (first | exact Below.refl _ _ | refine Below.alloc ?_ (by simp) _)⟩
/-- Range of a dir, whatever the limit. -/
theorem range_all (d : Nat) (xs : List KE) (lo hi : ByteArray) (lim : Int) (w : World) (h : DR w d xs) (hlo : lo.size ≤ maxLen) (hhi : hi.size ≤ maxLen) (hN : xs.length ≤ 2199023255488) (hl2 : lim ≤ 9223372036854775807) :
    Calls Try.prog 27 #[.pointer (some ⟨d, 0, none⟩), .string lo, .string hi, .int .i64 lim] w (RV ((sel lo hi xs).take lim.toNat) w) := by
  by_cases h1 : lim < 1
  · rw [show lim.toNat = 0 by omega, List.take_zero]
    exact range_low _ lo hi lim w h1
  · exact range_dir d xs lo hi lim w h hlo hhi hN (by omega) hl2
end Go.Proofs.Ytglmhpmjebjcgaa
/- KeydirMoves: the law's world: the program's dirs, the document's, side by side. -/
namespace Go.Proofs.Ytglmhpmjebjcgaa
open Go.RowKit Go.Maps

theorem row_chg {S : Nat → Prop} {w w' : World} {B : Nat} {e : TypeId} {size n : Nat} {v : Value} {xs : List Value} (h : w.ownsRow B e size v n xs) (hc : Chg S w w') (hn : ∀ k, v.ownBlock = some k → ¬ S k) : w'.ownsRow B e size v n xs := by
  refine ⟨h.1, ?_⟩
  rcases h.2 with h | ⟨g, cap, cur, rfl, h1, h2, h3⟩
  · exact .inl h
  · exact .inr ⟨g, cap, cur, rfl, h1, (hc.block g (Array.getElem?_eq_some_iff.1 h2).1 (hn g rfl)).trans h2, h3⟩
theorem row_below {w w' : World} {B : Nat} {e : TypeId} {size n : Nat} {v : Value} {xs : List Value} (h : w.ownsRow B e size v n xs) (hb : Below w.heap.size w w') : w'.ownsRow B e size v n xs :=
  row_chg h (Chg.of_below hb (fun _ => False)) (fun _ _ h => h)
/-- The object of a row's block. -/
theorem row_obj {w : World} {B : Nat} {e : TypeId} {size n : Nat} {v : Value} {xs : List Value} (h : w.ownsRow B e size v n xs) {k : Nat} (hk : v.ownBlock = some k) : ∃ cur, w.heap[k]? = some (.cells cur e (0, 0)) := by
  rcases h.2 with ⟨rfl, _⟩ | ⟨g, cap, cur, rfl, h1, h2, h3⟩
  · cases hk
  · have e1 : g = k := by simpa [Value.ownBlock] using hk
    subst e1
    exact ⟨cur, h2⟩
theorem row_lt {w : World} {B : Nat} {e : TypeId} {size n : Nat} {v : Value} {xs : List Value} (h : w.ownsRow B e size v n xs) {k : Nat} (hk : v.ownBlock = some k) : k < w.heap.size := by
  obtain ⟨cur, hc⟩ := row_obj h hk
  exact (Array.getElem?_eq_some_iff.1 hc).1
theorem row_ge {w : World} {B : Nat} {e : TypeId} {size n : Nat} {v : Value} {xs : List Value} (h : w.ownsRow B e size v n xs) {k : Nat} (hk : v.ownBlock = some k) : B ≤ k := by
  rcases h.2 with ⟨rfl, _⟩ | ⟨g, cap, cur, rfl, h1, h2, h3⟩
  · cases hk
  · have e1 : g = k := by simpa [Value.ownBlock] using hk
    subst e1
    exact h1
theorem box_row {w : World} {B b : Nat} {t e : TypeId} {ar : Array Value} {size n : Nat} {v : Value} {xs : List Value} (hb : Box w b t ar) (h : w.ownsRow B e size v n xs) (hte : t ≠ e) : v.ownBlock ≠ some b := by
  intro hk
  obtain ⟨cur, hc⟩ := row_obj h hk
  unfold Box at hb
  rw [hb] at hc
  injection hc with hc
  injection hc with _ hc
  exact hte hc
theorem box_box {w : World} {b c : Nat} {t e : TypeId} {ar br : Array Value} (hb : Box w b t ar) (h : Box w c e br) (hte : t ≠ e) : b ≠ c := by
  rintro rfl
  unfold Box at hb h
  rw [hb] at h
  injection h with hc
  injection hc with _ hc
  exact hte hc
theorem row_row {w : World} {B B' : Nat} {e e' : TypeId} {size n size' n' : Nat} {v v' : Value} {xs xs' : List Value} (h : w.ownsRow B e size v n xs) (h' : w.ownsRow B' e' size' v' n' xs') (hte : e ≠ e') {k : Nat} (hk : v.ownBlock = some k) : v'.ownBlock ≠ some k := by
  intro hk'
  obtain ⟨cur, hc⟩ := row_obj h hk
  obtain ⟨cur', hc'⟩ := row_obj h' hk'
  rw [hc] at hc'
  injection hc' with hc
  injection hc with _ hc
  exact hte hc

/-- The law's dirs: how many; the blocks of the program's and the document's; the document's rows; the lists; the two rows of pointers. -/
structure St where
  n : Nat
  ds : Nat → Nat
  rs : Nat → Nat
  vs : Nat → Value
  ls : Nat → List KE
  Dv : Value
  Rv : Value
def ptrs (f : Nat → Nat) (n : Nat) : List Value := (List.range n).map fun i => .pointer (some ⟨f i, 0, none⟩)
theorem ptrs_len (f : Nat → Nat) (n : Nat) : (ptrs f n).length = n := by simp [ptrs]
theorem ptrs_get (f : Nat → Nat) {n i : Nat} (h : i < n) : (ptrs f n)[i]? = some (.pointer (some ⟨f i, 0, none⟩)) := by simp [ptrs, h]
theorem ptrs_succ (f : Nat → Nat) (n : Nat) : ptrs f (n + 1) = ptrs f n ++ [.pointer (some ⟨f n, 0, none⟩)] := by simp [ptrs, List.range_succ]
theorem ptrs_congr {f g : Nat → Nat} {n : Nat} (h : ∀ i, i < n → f i = g i) : ptrs f n = ptrs g n := by
  unfold ptrs
  refine List.map_congr_left fun i hi => ?_
  rw [h i (List.mem_range.1 hi)]
/-- What of the memory the dirs are. -/
def Foot (wb : Nat) (s : St) (k : Nat) : Prop := k = wb ∨ (∃ i, i < s.n ∧ (k = s.ds i ∨ k = s.rs i ∨ (s.vs i).ownBlock = some k)) ∨ s.Dv.ownBlock = some k ∨ s.Rv.ownBlock = some k
structure DW (B wb : Nat) (Lv : Value) (N : Nat) (s : St) (w : World) : Prop where
  box : Box w wb 35 #[s.Dv, s.Rv, Lv]
  num : 1 ≤ s.n ∧ s.n ≤ 8
  rowD : w.ownsRow B 23 1 s.Dv s.n (ptrs s.ds s.n)
  rowR : w.ownsRow B 30 1 s.Rv s.n (ptrs s.rs s.n)
  dir : ∀ i, i < s.n → DR w (s.ds i) (s.ls i)
  ref : ∀ i, i < s.n → RR w B (s.rs i) (s.vs i) (s.ls i)
  low : B ≤ wb ∧ ∀ i, i < s.n → B ≤ s.ds i ∧ B ≤ s.rs i
  len : ∀ i, i < s.n → (s.ls i).length ≤ N
  dne : ∀ i j, i < s.n → j < s.n → s.ds i = s.ds j → i = j
  rne : ∀ i j, i < s.n → j < s.n → s.rs i = s.rs j → i = j
  vne : ∀ i j b, i < s.n → j < s.n → (s.vs i).ownBlock = some b → (s.vs j).ownBlock = some b → i = j
/-- What a turn may do: only the dirs' own memory turns, and what belongs to the dirs behind it did so ahead of it or is new. -/
structure Turn (wb : Nat) (s s' : St) (w w' : World) : Prop where
  chg : Chg (Foot wb s) w w'
  foot : ∀ k, Foot wb s' k → Foot wb s k ∨ w.heap.size ≤ k
section
variable {B wb N N' : Nat} {Lv : Value} {s s' s2 : St} {w w' w1 w2 : World}
theorem Turn.refl (wb : Nat) (s : St) (w : World) : Turn wb s s w w := ⟨Chg.refl _ _, fun _ h => .inl h⟩
theorem Turn.next (h : Turn wb s s' w w') (hb : Below w'.heap.size w' w1) : Turn wb s s' w w1 := ⟨h.chg.trans (Chg.of_below hb _), h.foot⟩
theorem Turn.of_below (hb : Below w.heap.size w w') : Turn wb s s w w' := ⟨Chg.of_below hb _, fun _ h => .inl h⟩
theorem Turn.trans (h : Turn wb s s' w w') (k : Turn wb s' s2 w' w1) : Turn wb s s2 w w1 :=
  ⟨⟨k.chg.os.trans h.chg.os, k.chg.tape.trans h.chg.tape, k.chg.output.trans h.chg.output, Nat.le_trans h.chg.size k.chg.size, fun j hj hn => (k.chg.block j (Nat.lt_of_lt_of_le hj h.chg.size) fun hf => by
      rcases h.foot j hf with h | h
      · exact hn h
      · omega).trans (h.chg.block j hj hn)⟩,
   fun j hj => by
    rcases k.foot j hj with h1 | h1
    · exact h.foot j h1
    · exact .inr (Nat.le_trans h.chg.size h1)⟩
theorem Turn.ahead (k : Turn wb s s' w' w1) (hb : Below w.heap.size w w') : Turn wb s s' w w1 := (Turn.of_below hb).trans k
theorem DW.foot_lt (h : DW B wb Lv N s w) {k : Nat} (hk : Foot wb s k) : k < w.heap.size := by
  rcases hk with rfl | ⟨i, hi, rfl | rfl | hv⟩ | hv | hv
  · exact h.box.lt
  · exact (h.dir i hi).lt
  · exact (h.ref i hi).1.lt
  · exact row_lt (h.ref i hi).2.1 hv
  · exact row_lt h.rowD hv
  · exact row_lt h.rowR hv
theorem DW.foot_ge (h : DW B wb Lv N s w) {k : Nat} (hk : Foot wb s k) : B ≤ k := by
  rcases hk with rfl | ⟨i, hi, rfl | rfl | hv⟩ | hv | hv
  · exact h.low.1
  · exact (h.low.2 i hi).1
  · exact (h.low.2 i hi).2
  · exact row_ge (h.ref i hi).2.1 hv
  · exact row_ge h.rowD hv
  · exact row_ge h.rowR hv
theorem DW.size (h : DW B wb Lv N s w) : B ≤ w.heap.size := Nat.le_of_lt (Nat.lt_of_le_of_lt h.low.1 h.box.lt)
theorem DW.mono (h : DW B wb Lv N s w) (hN : N ≤ N') : DW B wb Lv N' s w := { h with len := fun i hi => Nat.le_trans (h.len i hi) hN }
theorem DW.next (h : DW B wb Lv N s w) (hb : Below w.heap.size w w') : DW B wb Lv N s w' :=
  ⟨h.box.below hb h.box.lt, h.num, row_below h.rowD hb, row_below h.rowR hb, fun i hi => (h.dir i hi).next hb, fun i hi => (h.ref i hi).below hb, h.low, h.len, h.dne, h.rne, h.vne⟩
theorem RR.chg {S : Nat → Prop} {d : Nat} {v : Value} {xs : List KE} (h : RR w B d v xs) (hc : Chg S w w') (h1 : ¬ S d) (h2 : ∀ k, v.ownBlock = some k → ¬ S k) : RR w' B d v xs :=
  ⟨h.1.chg hc h1, row_chg h.2.1 hc h2, h.2.2⟩
theorem DR.box {d : Nat} {xs : List KE} (h : DR w d xs) : ∃ p, Box w d 28 #[.pointer p] := let ⟨_, p, h, _⟩ := h; ⟨p, h⟩
/-- Another dir's document is as it was. -/
theorem DW.ref_dch (h : DW B wb Lv N s w) {i j : Nat} (hi : i < s.n) (hj : j < s.n) (hc : Dch (s.ds i) w w') : RR w' B (s.rs j) (s.vs j) (s.ls j) := by
  obtain ⟨p, hb⟩ := (h.dir i hi).box
  refine (h.ref j hj).chg hc (fun e => box_box hb (h.ref j hj).1 (by decide) e.symm) fun k hk e => ?_
  subst e
  exact box_row hb (h.ref j hj).2.1 (by decide) hk
/-- A call of the program's dir and one of the document's, of the same number: the list is turned. -/
theorem DW.step (h : DW B wb Lv N s w) {i : Nat} (hi : i < s.n) {xs' : List KE} (hc : Dch (s.ds i) w w1) (hd : DR w1 (s.ds i) xs') (hu : RU w1 w2 B (s.rs i) (s.vs i) xs') (hl : xs'.length ≤ N') (hN : N ≤ N') :
    ∃ s', s'.n = s.n ∧ DW B wb Lv N' s' w2 ∧ Turn wb s s' w w2 := by
  obtain ⟨p, hbd⟩ := (h.dir i hi).box
  have hr1 := h.ref_dch hi hi hc
  obtain ⟨⟨v', hr2, hv'⟩, hc2⟩ := hu
  have hsz := hc.size
  have hsz2 := hc2.size
  obtain ⟨pd, hbd1⟩ := hd.box
  refine ⟨{ s with vs := fun k => if k = i then v' else s.vs k, ls := fun k => if k = i then xs' else s.ls k }, rfl, ⟨?_, h.num, ?_, ?_, ?_, ?_, h.low, ?_, h.dne, h.rne, ?_⟩, ?_, ?_⟩
  · have b1 : Box w1 wb 35 #[s.Dv, s.Rv, Lv] := h.box.chg hc (fun e => box_box hbd h.box (by decide) e.symm)
    refine b1.chg hc2 ?_
    rintro (e | e)
    · exact box_box hr1.1 b1 (by decide) e.symm
    · exact box_row b1 hr1.2.1 (by decide) e.symm
  · have b1 : w1.ownsRow B 23 1 s.Dv s.n (ptrs s.ds s.n) := row_chg h.rowD hc (fun k hk e => by subst e; exact box_row hbd h.rowD (by decide) hk)
    refine row_chg b1 hc2 fun k hk e => ?_
    rcases e with rfl | e
    · exact box_row hr1.1 b1 (by decide) hk
    · exact row_row b1 hr1.2.1 (by decide) hk e.symm
  · have b1 : w1.ownsRow B 30 1 s.Rv s.n (ptrs s.rs s.n) := row_chg h.rowR hc (fun k hk e => by subst e; exact box_row hbd h.rowR (by decide) hk)
    refine row_chg b1 hc2 fun k hk e => ?_
    rcases e with rfl | e
    · exact box_row hr1.1 b1 (by decide) hk
    · exact row_row b1 hr1.2.1 (by decide) hk e.symm
  · intro j hj
    have key : ∀ (xs : List KE), DR w1 (s.ds j) xs → DR w2 (s.ds j) xs := fun xs hx => by
      obtain ⟨q, hbj⟩ := hx.box
      refine hx.chg hc2 (fun k hk cs => ?_) ?_
      · rcases hk with rfl | hk
        · exact box_not hr1.1 (by decide) cs
        · obtain ⟨cur, hcur⟩ := row_obj hr1.2.1 hk.symm
          rw [hcur]
          intro e
          injection e with e
          injection e with _ e
          exact absurd e (by decide)
      · rintro (e | e)
        · exact box_box hbj hr1.1 (by decide) e
        · exact box_row hbj hr1.2.1 (by decide) e.symm
    by_cases e : j = i
    · subst e
      simp only [if_true]
      exact key _ hd
    · simp only [if_neg e]
      exact key _ ((h.dir j hj).dch (h.dir i hi) hc fun e2 => e (h.dne _ _ hj hi e2))
  · intro j hj
    by_cases e : j = i
    · subst e
      simp only [if_true]
      exact hr2
    · simp only [if_neg e]
      have hrj := h.ref_dch hi hj hc
      refine hrj.chg hc2 ?_ fun k hk => ?_
      · rintro (e2 | e2)
        · exact e (h.rne _ _ hj hi e2)
        · exact box_row hrj.1 hr1.2.1 (by decide) e2.symm
      · rintro (e2 | e2)
        · subst e2
          exact box_row hr1.1 hrj.2.1 (by decide) hk
        · exact e (h.vne _ _ _ hj hi hk e2.symm)
  · intro j hj
    by_cases e : j = i
    · subst e
      simp only [if_true]
      exact hl
    · simp only [if_neg e]
      exact Nat.le_trans (h.len j hj) hN
  · intro a b k ha hb hka hkb
    have hnew : ∀ j, j < s.n → j ≠ i → (s.vs j).ownBlock = some k → v'.ownBlock = some k → False := fun j hj hji h1 h2 => by
      rcases hv' with e | e
      · rw [e] at h2
        exact hji (h.vne _ _ _ hj hi h1 h2)
      · have := e k h2
        have := row_lt (h.ref j hj).2.1 h1
        omega
    by_cases ea : a = i
    · by_cases eb : b = i
      · rw [ea, eb]
      · simp only [if_pos ea] at hka
        simp only [if_neg eb] at hkb
        exact (hnew b hb eb hkb hka).elim
    · by_cases eb : b = i
      · simp only [if_neg ea] at hka
        simp only [if_pos eb] at hkb
        exact (hnew a ha ea hka hkb).elim
      · simp only [if_neg ea] at hka
        simp only [if_neg eb] at hkb
        exact h.vne _ _ _ ha hb hka hkb
  · refine ⟨hc2.os.trans hc.os, hc2.tape.trans hc.tape, hc2.output.trans hc.output, Nat.le_trans hsz hsz2, fun k hk hn => ?_⟩
    refine (hc2.block k (by omega) ?_).trans (hc.block k hk ?_)
    · rintro (e | e)
      · exact hn (.inr (.inl ⟨i, hi, .inr (.inl e)⟩))
      · exact hn (.inr (.inl ⟨i, hi, .inr (.inr e.symm)⟩))
    · intro e
      exact hn (.inr (.inl ⟨i, hi, .inl e⟩))
  · intro k hk
    rcases hk with e | ⟨j, hj, e | e | e⟩ | e | e
    · exact .inl (.inl e)
    · exact .inl (.inr (.inl ⟨j, hj, .inl e⟩))
    · exact .inl (.inr (.inl ⟨j, hj, .inr (.inl e)⟩))
    · by_cases ej : j = i
      · simp only [if_pos ej] at e
        rcases hv' with e2 | e2
        · exact .inl (.inr (.inl ⟨i, hi, .inr (.inr (e2 ▸ e))⟩))
        · exact .inr (Nat.le_trans hsz (e2 k e))
      · simp only [if_neg ej] at e
        exact .inl (.inr (.inl ⟨j, hj, .inr (.inr e)⟩))
    · exact .inl (.inr (.inr (.inl e)))
    · exact .inl (.inr (.inr (.inr e)))
/-- The two pointers of a dir, where the law's world has them. -/
theorem DW.cells (h : DW B wb Lv N s w) {i : Nat} (hi : i < s.n) : ∃ g c g' c', s.Dv = .slice (some ⟨g, 0, none⟩) s.n c ∧ s.Rv = .slice (some ⟨g', 0, none⟩) s.n c' ∧ s.n ≤ c ∧ s.n ≤ c' ∧ w.cell? ⟨g, i, none⟩ = some (.pointer (some ⟨s.ds i, 0, none⟩)) ∧ w.cell? ⟨g', i, none⟩ = some (.pointer (some ⟨s.rs i, 0, none⟩)) := by
  obtain ⟨g, c, e1, hB1, hc1, o1⟩ := Own.of_row h.rowD (by have := h.num; omega)
  obtain ⟨g', c', e2, hB2, hc2, o2⟩ := Own.of_row h.rowR (by have := h.num; omega)
  refine ⟨g, c, g', c', e1, e2, hB1, hB2, ?_, ?_⟩
  · have hl : i < (ptrs s.ds s.n).length := by rw [ptrs_len]; exact hi
    rw [o1.cell hl]
    have := ptrs_get s.ds hi
    rw [List.getElem?_eq_getElem hl] at this
    exact this
  · have hl : i < (ptrs s.rs s.n).length := by rw [ptrs_len]; exact hi
    rw [o2.cell hl]
    have := ptrs_get s.rs hi
    rw [List.getElem?_eq_getElem hl] at this
    exact this
end
end Go.Proofs.Ytglmhpmjebjcgaa
/- KeydirMoves: told, kind by kind. -/
namespace Go.Proofs.Ytglmhpmjebjcgaa
open Go.RowKit Go.Maps

def modK (x : Int) (n : Nat) : Nat := if x.tmod n < 0 then (x.tmod n + n).toNat else (x.tmod n).toNat
theorem modK_lt (x : Int) {n : Nat} (hn : 0 < n) : modK x n < n := by
  have hn' : (0 : Int) < n := by omega
  have h2 : x.tmod n < n := Int.tmod_lt_of_pos x hn'
  have h3 : -(n : Int) < x.tmod n := by
    have := Int.tmod_lt_of_pos (-x) hn'
    rw [Int.neg_tmod] at this
    omega
  unfold modK
  split <;> omega
set_option maxRecDepth 100000 in
theorem mod_is (x : Int) (n : Nat) (hn : 0 < n) (hmx : n ≤ 4611686018427387904) (w : World) :
    Calls Try.prog 10 #[.int .i64 x, .int .i64 n] w fun e w' => e = .returned (.int .i64 (modK x n)) ∧ w' = w := by
  go_enter Try.func10, Try.ntmps10
  have hn' : (0 : Int) < n := by omega
  have h2 : x.tmod n < n := Int.tmod_lt_of_pos x hn'
  have h3 : -(n : Int) < x.tmod n := by
    have := Int.tmod_lt_of_pos (-x) hn'
    rw [Int.neg_tmod] at this
    omega
  unfold modK
  go_wp2
  · go_ret
    refine ⟨?_, rfl⟩
    generalize x.tmod n = r at *
    go_num
  · go_ret
    refine ⟨?_, rfl⟩
    generalize x.tmod n = r at *
    go_num

/-- One call. -/
structure Mv where
  dir : Int
  kind : Int
  key : ByteArray
  hi : ByteArray
  e : En
  n : Int
abbrev Mv.cells (m : Mv) : Array Value := #[.int .i64 m.dir, .int .i64 m.kind, .string m.key, .string m.hi, .int .i64 m.e.seg, .int .i64 m.e.at_, .int .i64 m.e.size, .int .i64 m.e.off, .int .i64 m.e.time, .bool m.e.tomb, .int .i64 m.n]
abbrev Mv.v (m : Mv) : Value := .agg #[.int .i64 m.dir, .int .i64 m.kind, .string m.key, .string m.hi, .int .i64 m.e.seg, .int .i64 m.e.at_, .int .i64 m.e.size, .int .i64 m.e.off, .int .i64 m.e.time, .bool m.e.tomb, .int .i64 m.n]
structure Mv.Ok (m : Mv) : Prop where
  key : m.key.size ≤ maxLen
  hi : m.hi.size ≤ maxLen
  top : m.n ≤ 9223372036854775807
/-- What a call of told answers and leaves. -/
def TR (B wb : Nat) (Lv : Value) (N : Nat) (s : St) (w : World) (e : Ending) (w' : World) : Prop := e = .returned (.bool true) ∧ ∃ s', DW B wb Lv (N + 1) s' w' ∧ Turn wb s s' w w'

abbrev St.at (n : Nat) (ds rs : Nat → Nat) (vs : Nat → Value) (ls : Nat → List KE) (g c g' c' : Nat) : St := ⟨n, ds, rs, vs, ls, .slice (some ⟨g, 0, none⟩) n c, .slice (some ⟨g', 0, none⟩) n c'⟩
theorem DW.look {B wb N n g c g' c' i : Nat} {Lv : Value} {ds rs : Nat → Nat} {vs : Nat → Value} {ls : Nat → List KE} {w : World} (h : DW B wb Lv N (St.at n ds rs vs ls g c g' c') w) (hi : i < n) :
    (w.cell? ⟨g, i, none⟩ = some (.pointer (some ⟨ds i, 0, none⟩)) ∧ w.cell? ⟨g', i, none⟩ = some (.pointer (some ⟨rs i, 0, none⟩))) ∧ ∀ k, w.cell? ⟨wb, k, none⟩ = #[.slice (some ⟨g, 0, none⟩) n c, .slice (some ⟨g', 0, none⟩) n c', Lv][k]? := by
  obtain ⟨g1, c1, g2, c2, e1, e2, _, _, h1, h2⟩ := h.cells (i := i) hi
  injection e1 with e1 _ _
  injection e1 with e1
  injection e1 with e1
  injection e2 with e2 _ _
  injection e2 with e2
  injection e2 with e2
  subst e1 e2
  exact ⟨⟨h1, h2⟩, h.box.cell⟩
theorem DW.caps {B wb N n g c g' c' : Nat} {Lv : Value} {ds rs : Nat → Nat} {vs : Nat → Value} {ls : Nat → List KE} {w : World} (h : DW B wb Lv N (St.at n ds rs vs ls g c g' c') w) : (1 ≤ n ∧ n ≤ 8) ∧ n ≤ c ∧ n ≤ c' := by
  have hn : 1 ≤ n ∧ n ≤ 8 := h.num
  obtain ⟨g1, c1, g2, c2, e1, e2, h1, h2, _⟩ := h.cells (i := 0) (show 0 < n by omega)
  injection e1 with _ _ e1
  injection e2 with _ _ e2
  subst e1 e2
  exact ⟨hn, h1, h2⟩
theorem DW.split {B wb N : Nat} {Lv : Value} {s : St} {w : World} (h : DW B wb Lv N s w) : ∃ g c g' c', s = St.at s.n s.ds s.rs s.vs s.ls g c g' c' := by
  obtain ⟨g, c, g', c', e1, e2, h1, h2, _⟩ := h.cells (i := 0) (by have := h.num; omega)
  refine ⟨g, c, g', c', ?_⟩
  cases s
  simp only at e1 e2
  subst e1 e2
  rfl

set_option maxRecDepth 100000 in
set_option maxHeartbeats 8000000 in
theorem told_put (B wb N ns : Nat) (Lv : Value) (ds rs : Nat → Nat) (vs : Nat → Value) (ls : Nat → List KE) (g c g' c' : Nat) (dir : Int) (key hi : ByteArray) (en : En) (n : Int) (w : World) (h : DW B wb Lv N (St.at ns ds rs vs ls g c g' c') w) (hN : N ≤ 2000000) (hz1 : key.size ≤ maxLen) :
    Calls Try.prog 6 #[.pointer (some ⟨wb, 0, none⟩), Mv.v ⟨dir, 0, key, hi, en, n⟩] w (TR B wb Lv N (St.at ns ds rs vs ls g c g' c') w) := by
  obtain ⟨hn0, hc1, hc2⟩ := h.caps
  have hi0 : modK dir ns < ns := modK_lt dir (by omega)
  obtain ⟨i, hie⟩ : ∃ i, i = modK dir ns := ⟨_, rfl⟩
  have hmod := fun W => mod_is dir ns (by omega) (by omega) W
  rw [← hie] at hi0
  simp only [← hie] at hmod
  have hb0 := bal w (.cells #[.int .i64 dir, .int .i64 0, .string key, .string hi, .int .i64 en.seg, .int .i64 en.at_, .int .i64 en.size, .int .i64 en.off, .int .i64 en.time, .bool en.tomb, .int .i64 n] 40)
  have hX0 := Box.new w 40 #[.int .i64 dir, .int .i64 0, .string key, .string hi, .int .i64 en.seg, .int .i64 en.at_, .int .i64 en.size, .int .i64 en.off, .int .i64 en.time, .bool en.tomb, .int .i64 n]
  have hD0 := h.next hb0
  have hbc := (hD0.look hi0).2
  have HM := Lib.hid hmod
  have H := Lib.hid (And.intro h (And.intro hD0 (And.intro hX0 hb0)))
  have hxc := hX0.cell
  have hi1 : (0 : Int) ≤ i := by omega
  have hi2 : (i : Int) < ns := by omega
  have hsx := hb0.size
  clear h hmod hb0 hX0 hD0 hie
  go_enter Try.func6, Try.ntmps6
  go_wp2
  go_quiet ((go_at_call 10; exact Calls.quiet_of_same (HM.out _)))
  clear hbc hxc
  have hb1 := below_drewN H.out.2.2.2 nq
  have hX1 := H.out.2.2.1.drewN nq
  have hD1 := H.out.2.1.next (below_drewN (Below.refl _ _) nq)
  generalize hW1 : (w.alloc (.cells #[.int .i64 dir, .int .i64 0, .string key, .string hi, .int .i64 en.seg, .int .i64 en.at_, .int .i64 en.size, .int .i64 en.off, .int .i64 en.time, .bool en.tomb, .int .i64 n] 40)).drewN nq = W1 at hb1 hX1 hD1 ⊢
  clear hW1
  obtain ⟨⟨hcD, hcR⟩, hbc⟩ := hD1.look hi0
  have hxc := hX1.cell
  have hnl : (ls i).length ≤ N := hD1.len i hi0
  have hs1 := hb1.size
  have H1 := Lib.hid (And.intro hD1 (And.intro hX1 hb1))
  clear hb1 hX1 hD1
  obtain ⟨⟨o, b, z⟩, ha⟩ : ∃ a, a = pA (ls i) key := ⟨_, rfl⟩
  have HA := Lib.hid ha
  clear ha
  go_wp2_with (first
    | (go_at_call 11
       refine (put_all (ds i) key en (ls i) _ (H1.out.1.dir i hi0) hz1 (by have := H1.out.1.len i hi0; show (ls i).length ≤ _; omega)).mono ?_
       rintro e w2 ⟨rfl, hd2, hc2'⟩
       rw [← HA.out]
       have hr2 := H1.out.1.ref_dch hi0 hi0 hc2'
       obtain ⟨pd, hbd⟩ := (H1.out.1.dir i hi0).box
       have hX2 := H1.out.2.1.chg hc2' (fun e => box_box hbd H1.out.2.1 (by decide) e.symm)
       have hs2 := hc2'.size
       have hxc2 := (hX2.alloc (.cells #[.int .i64 o.seg, .int .i64 o.at_, .int .i64 o.size, .int .i64 o.off, .int .i64 o.time, .bool o.tomb] 38)).cell
       have H2 := Lib.hid (And.intro hd2 (And.intro hc2' (And.intro hr2 hX2)))
       clear hd2 hc2' hr2 hbd hX2)
    | (go_at_call 12
       refine (put8_all B (rs i) (vs i) key en (ls i) _ (H2.out.2.2.1.below (bal w2 (.cells #[.int .i64 o.seg, .int .i64 o.at_, .int .i64 o.size, .int .i64 o.off, .int .i64 o.time, .bool o.tomb] 38))) hz1 (by have := H1.out.1.len i hi0; show (ls i).length ≤ _; omega) (by have := H1.out.1.size; simp; omega)).mono ?_
       rintro e w3 ⟨rfl, hu3⟩
       rw [← HA.out]
       have hr3 := H2.out.2.2.1.below (bal w2 (.cells #[.int .i64 o.seg, .int .i64 o.at_, .int .i64 o.size, .int .i64 o.off, .int .i64 o.time, .bool o.tomb] 38))
       have hO := Box.new w2 38 #[.int .i64 o.seg, .int .i64 o.at_, .int .i64 o.size, .int .i64 o.off, .int .i64 o.time, .bool o.tomb]
       have hO3 := hO.chg hu3.2 (by rintro (e | e); exact box_box hr3.1 hO (by decide) e.symm; exact box_row hO hr3.2.1 (by decide) e.symm)
       have hoc := (hO3.alloc (.cells #[.int .i64 o.seg, .int .i64 o.at_, .int .i64 o.size, .int .i64 o.off, .int .i64 o.time, .bool o.tomb] 38)).cell
       have hnc := (Box.new w3 38 #[.int .i64 o.seg, .int .i64 o.at_, .int .i64 o.size, .int .i64 o.off, .int .i64 o.time, .bool o.tomb]).cell
       have H3 := Lib.hid hu3
       clear hu3 hr3 hO hO3))
  go_ret
  refine ⟨rfl, ?_⟩
  obtain ⟨s', _, h1, h2⟩ := H1.out.1.step (i := i) hi0 H2.out.2.1 H2.out.1 ((H3.out.from (bal w2 (.cells #[.int .i64 o.seg, .int .i64 o.at_, .int .i64 o.size, .int .i64 o.off, .int .i64 o.time, .bool o.tomb] 38))).below (bal w3 (.cells #[.int .i64 o.seg, .int .i64 o.at_, .int .i64 o.size, .int .i64 o.off, .int .i64 o.time, .bool o.tomb] 38))) (N' := N + 1) (Nat.le_trans (bstep_len (ls i) (key, en)) (Nat.succ_le_succ (H1.out.1.len i hi0))) (by omega)
  exact ⟨s', h1, h2.ahead H1.out.2.2⟩
set_option maxRecDepth 100000 in
set_option maxHeartbeats 8000000 in
theorem told_rem (B wb N ns : Nat) (Lv : Value) (ds rs : Nat → Nat) (vs : Nat → Value) (ls : Nat → List KE) (g c g' c' : Nat) (dir : Int) (key hi : ByteArray) (en : En) (n : Int) (w : World) (h : DW B wb Lv N (St.at ns ds rs vs ls g c g' c') w) (hN : N ≤ 2000000) (hz1 : key.size ≤ maxLen) :
    Calls Try.prog 6 #[.pointer (some ⟨wb, 0, none⟩), Mv.v ⟨dir, 4, key, hi, en, n⟩] w (TR B wb Lv N (St.at ns ds rs vs ls g c g' c') w) := by
  obtain ⟨hn0, hc1, hc2⟩ := h.caps
  have hi0 : modK dir ns < ns := modK_lt dir (by omega)
  obtain ⟨i, hie⟩ : ∃ i, i = modK dir ns := ⟨_, rfl⟩
  have hmod := fun W => mod_is dir ns (by omega) (by omega) W
  rw [← hie] at hi0
  simp only [← hie] at hmod
  have hb0 := bal w (.cells #[.int .i64 dir, .int .i64 4, .string key, .string hi, .int .i64 en.seg, .int .i64 en.at_, .int .i64 en.size, .int .i64 en.off, .int .i64 en.time, .bool en.tomb, .int .i64 n] 40)
  have hX0 := Box.new w 40 #[.int .i64 dir, .int .i64 4, .string key, .string hi, .int .i64 en.seg, .int .i64 en.at_, .int .i64 en.size, .int .i64 en.off, .int .i64 en.time, .bool en.tomb, .int .i64 n]
  have hD0 := h.next hb0
  have hbc := (hD0.look hi0).2
  have HM := Lib.hid hmod
  have H := Lib.hid (And.intro h (And.intro hD0 (And.intro hX0 hb0)))
  have hxc := hX0.cell
  have hi1 : (0 : Int) ≤ i := by omega
  have hi2 : (i : Int) < ns := by omega
  have hsx := hb0.size
  clear h hmod hb0 hX0 hD0 hie
  go_enter Try.func6, Try.ntmps6
  go_wp2
  go_quiet ((go_at_call 10; exact Calls.quiet_of_same (HM.out _)))
  clear hbc hxc
  have hb1 := below_drewN H.out.2.2.2 nq
  have hX1 := H.out.2.2.1.drewN nq
  have hD1 := H.out.2.1.next (below_drewN (Below.refl _ _) nq)
  generalize hW1 : (w.alloc (.cells #[.int .i64 dir, .int .i64 4, .string key, .string hi, .int .i64 en.seg, .int .i64 en.at_, .int .i64 en.size, .int .i64 en.off, .int .i64 en.time, .bool en.tomb, .int .i64 n] 40)).drewN nq = W1 at hb1 hX1 hD1 ⊢
  clear hW1
  obtain ⟨⟨hcD, hcR⟩, hbc⟩ := hD1.look hi0
  have hxc := hX1.cell
  have hnl : (ls i).length ≤ N := hD1.len i hi0
  have hs1 := hb1.size
  have H1 := Lib.hid (And.intro hD1 (And.intro hX1 hb1))
  clear hb1 hX1 hD1
  obtain ⟨⟨o, b⟩, ha⟩ : ∃ a, a = eA (ls i) key := ⟨_, rfl⟩
  have HA := Lib.hid ha
  clear ha
  go_wp2_with (first
    | (go_at_call 19
       refine (rem_all (ds i) key (ls i) _ (H1.out.1.dir i hi0) hz1 (by have := H1.out.1.len i hi0; show (ls i).length ≤ _; omega)).mono ?_
       rintro e w2 ⟨rfl, hd2, hc2'⟩
       rw [← HA.out]
       have hr2 := H1.out.1.ref_dch hi0 hi0 hc2'
       obtain ⟨pd, hbd⟩ := (H1.out.1.dir i hi0).box
       have hX2 := H1.out.2.1.chg hc2' (fun e => box_box hbd H1.out.2.1 (by decide) e.symm)
       have hs2 := hc2'.size
       have hxc2 := (hX2.alloc (.cells #[.int .i64 o.seg, .int .i64 o.at_, .int .i64 o.size, .int .i64 o.off, .int .i64 o.time, .bool o.tomb] 38)).cell
       have H2 := Lib.hid (And.intro hd2 (And.intro hc2' (And.intro hr2 hX2)))
       clear hd2 hc2' hr2 hbd hX2)
    | (go_at_call 20
       refine (rem8_all B (rs i) (vs i) key (ls i) _ (H2.out.2.2.1.below (bal w2 (.cells #[.int .i64 o.seg, .int .i64 o.at_, .int .i64 o.size, .int .i64 o.off, .int .i64 o.time, .bool o.tomb] 38))) hz1 (by have := H1.out.1.len i hi0; show (ls i).length ≤ _; omega) (by have := H1.out.1.size; simp; omega)).mono ?_
       rintro e w3 ⟨rfl, hu3⟩
       rw [← HA.out]
       have hr3 := H2.out.2.2.1.below (bal w2 (.cells #[.int .i64 o.seg, .int .i64 o.at_, .int .i64 o.size, .int .i64 o.off, .int .i64 o.time, .bool o.tomb] 38))
       have hO := Box.new w2 38 #[.int .i64 o.seg, .int .i64 o.at_, .int .i64 o.size, .int .i64 o.off, .int .i64 o.time, .bool o.tomb]
       have hO3 := hO.chg hu3.2 (by rintro (e | e); exact box_box hr3.1 hO (by decide) e.symm; exact box_row hO hr3.2.1 (by decide) e.symm)
       have hoc := (hO3.alloc (.cells #[.int .i64 o.seg, .int .i64 o.at_, .int .i64 o.size, .int .i64 o.off, .int .i64 o.time, .bool o.tomb] 38)).cell
       have hnc := (Box.new w3 38 #[.int .i64 o.seg, .int .i64 o.at_, .int .i64 o.size, .int .i64 o.off, .int .i64 o.time, .bool o.tomb]).cell
       have H3 := Lib.hid hu3
       clear hu3 hr3 hO hO3))
  go_ret
  refine ⟨rfl, ?_⟩
  obtain ⟨s', _, h1, h2⟩ := H1.out.1.step (i := i) hi0 H2.out.2.1 H2.out.1 ((H3.out.from (bal w2 (.cells #[.int .i64 o.seg, .int .i64 o.at_, .int .i64 o.size, .int .i64 o.off, .int .i64 o.time, .bool o.tomb] 38))).below (bal w3 (.cells #[.int .i64 o.seg, .int .i64 o.at_, .int .i64 o.size, .int .i64 o.off, .int .i64 o.time, .bool o.tomb] 38))) (N' := N + 1) (Nat.le_trans (rstep_len (ls i) key) (Nat.le_succ_of_le (H1.out.1.len i hi0))) (by omega)
  exact ⟨s', h1, h2.ahead H1.out.2.2⟩
set_option maxRecDepth 100000 in
set_option maxHeartbeats 8000000 in
theorem told_note (B wb N ns : Nat) (Lv : Value) (ds rs : Nat → Nat) (vs : Nat → Value) (ls : Nat → List KE) (g c g' c' : Nat) (dir : Int) (key hi : ByteArray) (en : En) (n : Int) (w : World) (h : DW B wb Lv N (St.at ns ds rs vs ls g c g' c') w) (hN : N ≤ 2000000) (hz1 : key.size ≤ maxLen) :
    Calls Try.prog 6 #[.pointer (some ⟨wb, 0, none⟩), Mv.v ⟨dir, 1, key, hi, en, n⟩] w (TR B wb Lv N (St.at ns ds rs vs ls g c g' c') w) := by
  obtain ⟨hn0, hc1, hc2⟩ := h.caps
  have hi0 : modK dir ns < ns := modK_lt dir (by omega)
  obtain ⟨i, hie⟩ : ∃ i, i = modK dir ns := ⟨_, rfl⟩
  have hmod := fun W => mod_is dir ns (by omega) (by omega) W
  rw [← hie] at hi0
  simp only [← hie] at hmod
  have hb0 := bal w (.cells #[.int .i64 dir, .int .i64 1, .string key, .string hi, .int .i64 en.seg, .int .i64 en.at_, .int .i64 en.size, .int .i64 en.off, .int .i64 en.time, .bool en.tomb, .int .i64 n] 40)
  have hX0 := Box.new w 40 #[.int .i64 dir, .int .i64 1, .string key, .string hi, .int .i64 en.seg, .int .i64 en.at_, .int .i64 en.size, .int .i64 en.off, .int .i64 en.time, .bool en.tomb, .int .i64 n]
  have hD0 := h.next hb0
  have hbc := (hD0.look hi0).2
  have HM := Lib.hid hmod
  have H := Lib.hid (And.intro h (And.intro hD0 (And.intro hX0 hb0)))
  have hxc := hX0.cell
  have hi1 : (0 : Int) ≤ i := by omega
  have hi2 : (i : Int) < ns := by omega
  have hsx := hb0.size
  clear h hmod hb0 hX0 hD0 hie
  go_enter Try.func6, Try.ntmps6
  go_wp2
  go_quiet ((go_at_call 10; exact Calls.quiet_of_same (HM.out _)))
  clear hbc hxc
  have hb1 := below_drewN H.out.2.2.2 nq
  have hX1 := H.out.2.2.1.drewN nq
  have hD1 := H.out.2.1.next (below_drewN (Below.refl _ _) nq)
  generalize hW1 : (w.alloc (.cells #[.int .i64 dir, .int .i64 1, .string key, .string hi, .int .i64 en.seg, .int .i64 en.at_, .int .i64 en.size, .int .i64 en.off, .int .i64 en.time, .bool en.tomb, .int .i64 n] 40)).drewN nq = W1 at hb1 hX1 hD1 ⊢
  clear hW1
  obtain ⟨⟨hcD, hcR⟩, hbc⟩ := hD1.look hi0
  have hxc := hX1.cell
  have hnl : (ls i).length ≤ N := hD1.len i hi0
  have hs1 := hb1.size
  have H1 := Lib.hid (And.intro hD1 (And.intro hX1 hb1))
  clear hb1 hX1 hD1
  obtain ⟨⟨b, z⟩, ha⟩ : ∃ a, a = nA (ls i) key en := ⟨_, rfl⟩
  have HA := Lib.hid ha
  clear ha
  go_wp2_with (first
    | (go_at_call 13
       refine (note_all (ds i) key en (ls i) _ (H1.out.1.dir i hi0) hz1 (by have := H1.out.1.len i hi0; show (ls i).length ≤ _; omega)).mono ?_
       rintro e w2 ⟨rfl, hd2, hc2'⟩
       rw [← HA.out]
       have hr2 := H1.out.1.ref_dch hi0 hi0 hc2'
       obtain ⟨pd, hbd⟩ := (H1.out.1.dir i hi0).box
       have hX2 := H1.out.2.1.chg hc2' (fun e => box_box hbd H1.out.2.1 (by decide) e.symm)
       have hs2 := hc2'.size
       have hxc2 := hX2.cell
       have H2 := Lib.hid (And.intro hd2 (And.intro hc2' (And.intro hr2 hX2)))
       clear hd2 hc2' hr2 hbd hX2)
    | (go_at_call 14
       refine (note8_all B (rs i) (vs i) key en (ls i) _ H2.out.2.2.1 hz1 (by have := H1.out.1.len i hi0; show (ls i).length ≤ _; omega) (by have := H1.out.1.size; simp; omega)).mono ?_
       rintro e w3 ⟨rfl, hu3⟩
       rw [← HA.out]
       have H3 := Lib.hid hu3
       clear hu3))
  go_ret
  refine ⟨rfl, ?_⟩
  obtain ⟨s', _, h1, h2⟩ := H1.out.1.step (i := i) hi0 H2.out.2.1 H2.out.1 H3.out (N' := N + 1) (Nat.le_trans (nstep_len (ls i) key en) (Nat.succ_le_succ (H1.out.1.len i hi0))) (by omega)
  exact ⟨s', h1, h2.ahead H1.out.2.2⟩
set_option maxRecDepth 100000 in
set_option maxHeartbeats 8000000 in
theorem told_point (B wb N ns : Nat) (Lv : Value) (ds rs : Nat → Nat) (vs : Nat → Value) (ls : Nat → List KE) (g c g' c' : Nat) (dir : Int) (key hi : ByteArray) (en : En) (n : Int) (w : World) (h : DW B wb Lv N (St.at ns ds rs vs ls g c g' c') w) (hN : N ≤ 2000000) (hz1 : key.size ≤ maxLen) :
    Calls Try.prog 6 #[.pointer (some ⟨wb, 0, none⟩), Mv.v ⟨dir, 2, key, hi, en, n⟩] w (TR B wb Lv N (St.at ns ds rs vs ls g c g' c') w) := by
  obtain ⟨hn0, hc1, hc2⟩ := h.caps
  have hi0 : modK dir ns < ns := modK_lt dir (by omega)
  obtain ⟨i, hie⟩ : ∃ i, i = modK dir ns := ⟨_, rfl⟩
  have hmod := fun W => mod_is dir ns (by omega) (by omega) W
  rw [← hie] at hi0
  simp only [← hie] at hmod
  have hb0 := bal w (.cells #[.int .i64 dir, .int .i64 2, .string key, .string hi, .int .i64 en.seg, .int .i64 en.at_, .int .i64 en.size, .int .i64 en.off, .int .i64 en.time, .bool en.tomb, .int .i64 n] 40)
  have hX0 := Box.new w 40 #[.int .i64 dir, .int .i64 2, .string key, .string hi, .int .i64 en.seg, .int .i64 en.at_, .int .i64 en.size, .int .i64 en.off, .int .i64 en.time, .bool en.tomb, .int .i64 n]
  have hD0 := h.next hb0
  have hbc := (hD0.look hi0).2
  have HM := Lib.hid hmod
  have H := Lib.hid (And.intro h (And.intro hD0 (And.intro hX0 hb0)))
  have hxc := hX0.cell
  have hi1 : (0 : Int) ≤ i := by omega
  have hi2 : (i : Int) < ns := by omega
  have hsx := hb0.size
  clear h hmod hb0 hX0 hD0 hie
  go_enter Try.func6, Try.ntmps6
  go_wp2
  go_quiet ((go_at_call 10; exact Calls.quiet_of_same (HM.out _)))
  clear hbc hxc
  have hb1 := below_drewN H.out.2.2.2 nq
  have hX1 := H.out.2.2.1.drewN nq
  have hD1 := H.out.2.1.next (below_drewN (Below.refl _ _) nq)
  generalize hW1 : (w.alloc (.cells #[.int .i64 dir, .int .i64 2, .string key, .string hi, .int .i64 en.seg, .int .i64 en.at_, .int .i64 en.size, .int .i64 en.off, .int .i64 en.time, .bool en.tomb, .int .i64 n] 40)).drewN nq = W1 at hb1 hX1 hD1 ⊢
  clear hW1
  obtain ⟨⟨hcD, hcR⟩, hbc⟩ := hD1.look hi0
  have hxc := hX1.cell
  have hnl : (ls i).length ≤ N := hD1.len i hi0
  have hs1 := hb1.size
  have H1 := Lib.hid (And.intro hD1 (And.intro hX1 hb1))
  clear hb1 hX1 hD1
  obtain ⟨b, ha⟩ : ∃ a, a = pB (ls i) key en.off := ⟨_, rfl⟩
  have HA := Lib.hid ha
  clear ha
  go_wp2_with (first
    | (go_at_call 15
       refine (point_all (ds i) key en.off en.seg en.at_ (ls i) _ (H1.out.1.dir i hi0) hz1 (by have := H1.out.1.len i hi0; show (ls i).length ≤ _; omega)).mono ?_
       rintro e w2 ⟨rfl, hd2, hc2'⟩
       rw [← HA.out]
       have hr2 := H1.out.1.ref_dch hi0 hi0 hc2'
       obtain ⟨pd, hbd⟩ := (H1.out.1.dir i hi0).box
       have hX2 := H1.out.2.1.chg hc2' (fun e => box_box hbd H1.out.2.1 (by decide) e.symm)
       have hs2 := hc2'.size
       have hxc2 := hX2.cell
       have H2 := Lib.hid (And.intro hd2 (And.intro hc2' (And.intro hr2 hX2)))
       clear hd2 hc2' hr2 hbd hX2)
    | (go_at_call 16
       refine (point8_all B (rs i) (vs i) key en.off en.seg en.at_ (ls i) _ H2.out.2.2.1 hz1 (by have := H1.out.1.len i hi0; show (ls i).length ≤ _; omega)).mono ?_
       rintro e w3 ⟨rfl, hu3⟩
       rw [← HA.out]
       have H3 := Lib.hid hu3
       clear hu3))
  go_ret
  refine ⟨rfl, ?_⟩
  obtain ⟨s', _, h1, h2⟩ := H1.out.1.step (i := i) hi0 H2.out.2.1 H2.out.1 H3.out (N' := N + 1) (Nat.le_trans (pstep_len (ls i) key en.off en.seg en.at_) (Nat.succ_le_succ (H1.out.1.len i hi0))) (by omega)
  exact ⟨s', h1, h2.ahead H1.out.2.2⟩
set_option maxRecDepth 100000 in
set_option maxHeartbeats 8000000 in
theorem told_get (B wb N ns : Nat) (Lv : Value) (ds rs : Nat → Nat) (vs : Nat → Value) (ls : Nat → List KE) (g c g' c' : Nat) (dir : Int) (key hi : ByteArray) (en : En) (n : Int) (w : World) (h : DW B wb Lv N (St.at ns ds rs vs ls g c g' c') w) (hN : N ≤ 2000000) (hz1 : key.size ≤ maxLen) :
    Calls Try.prog 6 #[.pointer (some ⟨wb, 0, none⟩), Mv.v ⟨dir, 3, key, hi, en, n⟩] w (TR B wb Lv N (St.at ns ds rs vs ls g c g' c') w) := by
  obtain ⟨hn0, hc1, hc2⟩ := h.caps
  have hi0 : modK dir ns < ns := modK_lt dir (by omega)
  obtain ⟨i, hie⟩ : ∃ i, i = modK dir ns := ⟨_, rfl⟩
  have hmod := fun W => mod_is dir ns (by omega) (by omega) W
  rw [← hie] at hi0
  simp only [← hie] at hmod
  have hb0 := bal w (.cells #[.int .i64 dir, .int .i64 3, .string key, .string hi, .int .i64 en.seg, .int .i64 en.at_, .int .i64 en.size, .int .i64 en.off, .int .i64 en.time, .bool en.tomb, .int .i64 n] 40)
  have hX0 := Box.new w 40 #[.int .i64 dir, .int .i64 3, .string key, .string hi, .int .i64 en.seg, .int .i64 en.at_, .int .i64 en.size, .int .i64 en.off, .int .i64 en.time, .bool en.tomb, .int .i64 n]
  have hD0 := h.next hb0
  have hbc := (hD0.look hi0).2
  have HM := Lib.hid hmod
  have H := Lib.hid (And.intro h (And.intro hD0 (And.intro hX0 hb0)))
  have hxc := hX0.cell
  have hi1 : (0 : Int) ≤ i := by omega
  have hi2 : (i : Int) < ns := by omega
  have hsx := hb0.size
  clear h hmod hb0 hX0 hD0 hie
  go_enter Try.func6, Try.ntmps6
  go_wp2
  go_quiet ((go_at_call 10; exact Calls.quiet_of_same (HM.out _)))
  clear hbc hxc
  have hb1 := below_drewN H.out.2.2.2 nq
  have hX1 := H.out.2.2.1.drewN nq
  have hD1 := H.out.2.1.next (below_drewN (Below.refl _ _) nq)
  generalize hW1 : (w.alloc (.cells #[.int .i64 dir, .int .i64 3, .string key, .string hi, .int .i64 en.seg, .int .i64 en.at_, .int .i64 en.size, .int .i64 en.off, .int .i64 en.time, .bool en.tomb, .int .i64 n] 40)).drewN nq = W1 at hb1 hX1 hD1 ⊢
  clear hW1
  obtain ⟨⟨hcD, hcR⟩, hbc⟩ := hD1.look hi0
  have hxc := hX1.cell
  have hnl : (ls i).length ≤ N := hD1.len i hi0
  have hs1 := hb1.size
  have H1 := Lib.hid (And.intro hD1 (And.intro hX1 hb1))
  clear hb1 hX1 hD1
  obtain ⟨⟨o, b⟩, ha⟩ : ∃ a, a = eA (ls i) key := ⟨_, rfl⟩
  have HA := Lib.hid ha
  clear ha
  go_wp2_with (first
    | (go_at_call 17
       refine (get_all (ds i) key (ls i) _ (H1.out.1.dir i hi0) hz1).mono ?_
       rintro e w2 ⟨rfl, hb2⟩
       rw [← HA.out]
       have hs2 := hb2.size
       have hD2 := H1.out.1.next hb2
       have hX2 := H1.out.2.1.below hb2 H1.out.2.1.lt
       have hxc2 := (hX2.alloc (.cells #[.int .i64 o.seg, .int .i64 o.at_, .int .i64 o.size, .int .i64 o.off, .int .i64 o.time, .bool o.tomb] 38)).cell
       have H2 := Lib.hid (And.intro hD2 hb2)
       clear hb2 hX2 hD2)
    | (go_at_call 18
       refine (get8_all B (rs i) (vs i) key (ls i) _ ((H2.out.1.next (bal w2 (.cells #[.int .i64 o.seg, .int .i64 o.at_, .int .i64 o.size, .int .i64 o.off, .int .i64 o.time, .bool o.tomb] 38))).ref i hi0) hz1 (by have := H1.out.1.len i hi0; show (ls i).length ≤ _; omega)).mono ?_
       rintro e w3 ⟨rfl, hb3⟩
       rw [← HA.out]
       have hO := Box.new w2 38 #[.int .i64 o.seg, .int .i64 o.at_, .int .i64 o.size, .int .i64 o.off, .int .i64 o.time, .bool o.tomb]
       have hO3 := hO.below hb3 hO.lt
       have hoc := (hO3.alloc (.cells #[.int .i64 o.seg, .int .i64 o.at_, .int .i64 o.size, .int .i64 o.off, .int .i64 o.time, .bool o.tomb] 38)).cell
       have hnc := (Box.new w3 38 #[.int .i64 o.seg, .int .i64 o.at_, .int .i64 o.size, .int .i64 o.off, .int .i64 o.time, .bool o.tomb]).cell
       have H3 := Lib.hid hb3
       clear hb3 hO hO3))
  go_ret
  have hbb : Below W1.heap.size W1 (w3.alloc (.cells #[.int .i64 o.seg, .int .i64 o.at_, .int .i64 o.size, .int .i64 o.off, .int .i64 o.time, .bool o.tomb] 38)) := ((H2.out.2.alloc hs2 (.cells #[.int .i64 o.seg, .int .i64 o.at_, .int .i64 o.size, .int .i64 o.off, .int .i64 o.time, .bool o.tomb] 38)).trans (H3.out.mono (by simp; omega))).trans ((bal w3 (.cells #[.int .i64 o.seg, .int .i64 o.at_, .int .i64 o.size, .int .i64 o.off, .int .i64 o.time, .bool o.tomb] 38)).mono (by have := H3.out.size; simp at this; omega))
  exact ⟨rfl, _, (H1.out.1.next hbb).mono (by omega), (Turn.of_below hbb).ahead H1.out.2.2⟩
set_option maxRecDepth 100000 in
set_option maxHeartbeats 8000000 in
theorem told_nth (B wb N ns : Nat) (Lv : Value) (ds rs : Nat → Nat) (vs : Nat → Value) (ls : Nat → List KE) (g c g' c' : Nat) (dir : Int) (key hi : ByteArray) (en : En) (n : Int) (w : World) (h : DW B wb Lv N (St.at ns ds rs vs ls g c g' c') w) (hN : N ≤ 2000000) (hz3 : n ≤ 9223372036854775807) :
    Calls Try.prog 6 #[.pointer (some ⟨wb, 0, none⟩), Mv.v ⟨dir, 6, key, hi, en, n⟩] w (TR B wb Lv N (St.at ns ds rs vs ls g c g' c') w) := by
  obtain ⟨hn0, hc1, hc2⟩ := h.caps
  have hi0 : modK dir ns < ns := modK_lt dir (by omega)
  obtain ⟨i, hie⟩ : ∃ i, i = modK dir ns := ⟨_, rfl⟩
  have hmod := fun W => mod_is dir ns (by omega) (by omega) W
  rw [← hie] at hi0
  simp only [← hie] at hmod
  have hb0 := bal w (.cells #[.int .i64 dir, .int .i64 6, .string key, .string hi, .int .i64 en.seg, .int .i64 en.at_, .int .i64 en.size, .int .i64 en.off, .int .i64 en.time, .bool en.tomb, .int .i64 n] 40)
  have hX0 := Box.new w 40 #[.int .i64 dir, .int .i64 6, .string key, .string hi, .int .i64 en.seg, .int .i64 en.at_, .int .i64 en.size, .int .i64 en.off, .int .i64 en.time, .bool en.tomb, .int .i64 n]
  have hD0 := h.next hb0
  have hbc := (hD0.look hi0).2
  have HM := Lib.hid hmod
  have H := Lib.hid (And.intro h (And.intro hD0 (And.intro hX0 hb0)))
  have hxc := hX0.cell
  have hi1 : (0 : Int) ≤ i := by omega
  have hi2 : (i : Int) < ns := by omega
  have hsx := hb0.size
  clear h hmod hb0 hX0 hD0 hie
  go_enter Try.func6, Try.ntmps6
  go_wp2
  go_quiet ((go_at_call 10; exact Calls.quiet_of_same (HM.out _)))
  clear hbc hxc
  have hb1 := below_drewN H.out.2.2.2 nq
  have hX1 := H.out.2.2.1.drewN nq
  have hD1 := H.out.2.1.next (below_drewN (Below.refl _ _) nq)
  generalize hW1 : (w.alloc (.cells #[.int .i64 dir, .int .i64 6, .string key, .string hi, .int .i64 en.seg, .int .i64 en.at_, .int .i64 en.size, .int .i64 en.off, .int .i64 en.time, .bool en.tomb, .int .i64 n] 40)).drewN nq = W1 at hb1 hX1 hD1 ⊢
  clear hW1
  obtain ⟨⟨hcD, hcR⟩, hbc⟩ := hD1.look hi0
  have hxc := hX1.cell
  have hnl : (ls i).length ≤ N := hD1.len i hi0
  have hs1 := hb1.size
  have H1 := Lib.hid (And.intro hD1 (And.intro hX1 hb1))
  clear hb1 hX1 hD1
  obtain ⟨⟨⟨kk, o⟩, b⟩, ha⟩ : ∃ a, a = tA (ls i) n := ⟨_, rfl⟩
  have HA := Lib.hid ha
  clear ha
  go_wp2_with (first
    | (go_at_call 25
       refine (nth_all (ds i) n (ls i) _ (H1.out.1.dir i hi0) (by have := H1.out.1.len i hi0; show (ls i).length ≤ _; omega) hz3).mono ?_
       rintro e w2 ⟨rfl, hb2⟩
       rw [← HA.out]
       have hs2 := hb2.size
       have hD2 := H1.out.1.next hb2
       have hX2 := H1.out.2.1.below hb2 H1.out.2.1.lt
       have hxc2 := (hX2.alloc (.cells #[.string kk, .int .i64 o.seg, .int .i64 o.at_, .int .i64 o.size, .int .i64 o.off, .int .i64 o.time, .bool o.tomb] 58)).cell
       have H2 := Lib.hid (And.intro hD2 hb2)
       clear hb2 hX2 hD2)
    | (go_at_call 26
       refine (nth8_all B (rs i) (vs i) n (ls i) _ ((H2.out.1.next (bal w2 (.cells #[.string kk, .int .i64 o.seg, .int .i64 o.at_, .int .i64 o.size, .int .i64 o.off, .int .i64 o.time, .bool o.tomb] 58))).ref i hi0)).mono ?_
       rintro e w3 ⟨rfl, hb3⟩
       rw [← HA.out]
       have hO := Box.new w2 58 #[.string kk, .int .i64 o.seg, .int .i64 o.at_, .int .i64 o.size, .int .i64 o.off, .int .i64 o.time, .bool o.tomb]
       have hO3 := hO.below hb3 hO.lt
       have hoc := (hO3.alloc (.cells #[.string kk, .int .i64 o.seg, .int .i64 o.at_, .int .i64 o.size, .int .i64 o.off, .int .i64 o.time, .bool o.tomb] 58)).cell
       have hnc := (Box.new w3 58 #[.string kk, .int .i64 o.seg, .int .i64 o.at_, .int .i64 o.size, .int .i64 o.off, .int .i64 o.time, .bool o.tomb]).cell
       have H3 := Lib.hid hb3
       clear hb3 hO hO3))
  go_ret
  have hbb : Below W1.heap.size W1 (w3.alloc (.cells #[.string kk, .int .i64 o.seg, .int .i64 o.at_, .int .i64 o.size, .int .i64 o.off, .int .i64 o.time, .bool o.tomb] 58)) := ((H2.out.2.alloc hs2 (.cells #[.string kk, .int .i64 o.seg, .int .i64 o.at_, .int .i64 o.size, .int .i64 o.off, .int .i64 o.time, .bool o.tomb] 58)).trans (H3.out.mono (by simp; omega))).trans ((bal w3 (.cells #[.string kk, .int .i64 o.seg, .int .i64 o.at_, .int .i64 o.size, .int .i64 o.off, .int .i64 o.time, .bool o.tomb] 58)).mono (by have := H3.out.size; simp at this; omega))
  exact ⟨rfl, _, (H1.out.1.next hbb).mono (by omega), (Turn.of_below hbb).ahead H1.out.2.2⟩
set_option maxRecDepth 100000 in
set_option maxHeartbeats 8000000 in
theorem told_rank (B wb N ns : Nat) (Lv : Value) (ds rs : Nat → Nat) (vs : Nat → Value) (ls : Nat → List KE) (g c g' c' : Nat) (dir : Int) (key hi : ByteArray) (en : En) (n : Int) (w : World) (h : DW B wb Lv N (St.at ns ds rs vs ls g c g' c') w) (hN : N ≤ 2000000) (hz1 : key.size ≤ maxLen) :
    Calls Try.prog 6 #[.pointer (some ⟨wb, 0, none⟩), Mv.v ⟨dir, 5, key, hi, en, n⟩] w (TR B wb Lv N (St.at ns ds rs vs ls g c g' c') w) := by
  obtain ⟨hn0, hc1, hc2⟩ := h.caps
  have hi0 : modK dir ns < ns := modK_lt dir (by omega)
  obtain ⟨i, hie⟩ : ∃ i, i = modK dir ns := ⟨_, rfl⟩
  have hmod := fun W => mod_is dir ns (by omega) (by omega) W
  rw [← hie] at hi0
  simp only [← hie] at hmod
  have hb0 := bal w (.cells #[.int .i64 dir, .int .i64 5, .string key, .string hi, .int .i64 en.seg, .int .i64 en.at_, .int .i64 en.size, .int .i64 en.off, .int .i64 en.time, .bool en.tomb, .int .i64 n] 40)
  have hX0 := Box.new w 40 #[.int .i64 dir, .int .i64 5, .string key, .string hi, .int .i64 en.seg, .int .i64 en.at_, .int .i64 en.size, .int .i64 en.off, .int .i64 en.time, .bool en.tomb, .int .i64 n]
  have hD0 := h.next hb0
  have hbc := (hD0.look hi0).2
  have HM := Lib.hid hmod
  have H := Lib.hid (And.intro h (And.intro hD0 (And.intro hX0 hb0)))
  have hxc := hX0.cell
  have hi1 : (0 : Int) ≤ i := by omega
  have hi2 : (i : Int) < ns := by omega
  have hsx := hb0.size
  clear h hmod hb0 hX0 hD0 hie
  go_enter Try.func6, Try.ntmps6
  go_wp2
  go_quiet ((go_at_call 10; exact Calls.quiet_of_same (HM.out _)))
  clear hbc hxc
  have hb1 := below_drewN H.out.2.2.2 nq
  have hX1 := H.out.2.2.1.drewN nq
  have hD1 := H.out.2.1.next (below_drewN (Below.refl _ _) nq)
  generalize hW1 : (w.alloc (.cells #[.int .i64 dir, .int .i64 5, .string key, .string hi, .int .i64 en.seg, .int .i64 en.at_, .int .i64 en.size, .int .i64 en.off, .int .i64 en.time, .bool en.tomb, .int .i64 n] 40)).drewN nq = W1 at hb1 hX1 hD1 ⊢
  clear hW1
  obtain ⟨⟨hcD, hcR⟩, hbc⟩ := hD1.look hi0
  have hxc := hX1.cell
  have hnl : (ls i).length ≤ N := hD1.len i hi0
  have hs1 := hb1.size
  have H1 := Lib.hid (And.intro hD1 (And.intro hX1 hb1))
  clear hb1 hX1 hD1
  have hnx : ∀ nq, DW B wb Lv N (St.at ns ds rs vs ls g c g' c') (W1.drewN nq) := fun nq => H1.out.1.next (below_drewN (Below.refl _ _) nq)
  have HX := Lib.hid hnx
  clear hnx
  go_wp2
  go_quiet (first
    | (go_at_call 21; exact Calls.quiet_of (rank_any (ds i) key (ls i) _ ((HX.out _).dir i hi0) hz1 (by have := H1.out.1.len i hi0; show (ls i).length ≤ _; omega)))
    | (go_at_call 22; exact Calls.quiet_of (rank8 B (rs i) (vs i) key (ls i) _ ((HX.out _).ref i hi0) hz1 (by have := H1.out.1.len i hi0; show (ls i).length ≤ _; omega)))
    | (go_at_call 23; exact Calls.quiet_of_same (lenD (ds i) (ls i) _ ((HX.out _).dir i hi0)))
    | (go_at_call 24; exact Calls.quiet_of_same (len8 B (rs i) (vs i) (ls i) _ ((HX.out _).ref i hi0))))
  go_wp2
  go_ret
  refine ⟨by simp, _, (HX.out _).mono (by omega), (Turn.of_below (below_drewN (Below.refl _ _) _)).ahead H1.out.2.2⟩
end Go.Proofs.Ytglmhpmjebjcgaa
