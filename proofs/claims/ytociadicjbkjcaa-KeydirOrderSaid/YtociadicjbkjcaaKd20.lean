import Derived.Test.YtociadicjbkjcaaKd18
/- 'last': what a key was last given in a list of items; and that a directory laid from the items answers just that. -/
namespace Go.Proofs.Ytociadicjbkjcaa
open Go.RowKit Go.Maps

def lastL (key : ByteArray) (l : List KE) : Option En := (l.reverse.find? fun x => decide (x.1 = key)).map (·.2)
def lastB (key : ByteArray) (l : List KE) : Option En := if goodB key = true then lastL key l else none
theorem lastL_snoc (key : ByteArray) (a : List KE) (x : KE) : lastL key (a ++ [x]) = if x.1 = key then some x.2 else lastL key a := by
  unfold lastL
  rw [List.reverse_append, List.reverse_cons, List.reverse_nil, List.nil_append, List.cons_append, List.nil_append, List.find?_cons]
  by_cases h : x.1 = key
  · simp [h]
  · simp [h]
theorem take_snoc (l : List KE) (k : Nat) (h : k < l.length) : l.take (k + 1) = l.take k ++ [l[k]] := by
  rw [List.take_add_one, List.getElem?_eq_getElem h, Option.toList_some]
theorem build_get (key : ByteArray) (l : List KE) : ∀ k, k ≤ l.length → Sorted (build (l.take k)) ∧ getL key (build (l.take k)) = lastB key (l.take k) := by
  intro k
  induction k with
  | zero => intro _; exact ⟨List.Pairwise.nil, by simp [build, getL, lastB, lastL]⟩
  | succ k ih =>
    intro h
    obtain ⟨i1, i2⟩ := ih (by omega)
    rw [build_snoc l k (by omega), take_snoc l k (by omega)]
    unfold bstep
    generalize l[k]'(by omega) = x
    unfold lastB at i2 ⊢
    rw [lastL_snoc]
    by_cases hg : goodB x.1 = true
    · rw [if_pos hg]
      refine ⟨i1.put _ _, ?_⟩
      rw [get_put i1]
      by_cases hk : key = x.1
      · subst hk; rw [if_pos rfl, if_pos hg, if_pos rfl]
      · have hk' : ¬ x.1 = key := fun e => hk e.symm
        rw [if_neg hk, i2, if_neg hk']
    · rw [if_neg hg]
      refine ⟨i1, ?_⟩
      by_cases hk : x.1 = key
      · subst hk; rw [i2, if_neg hg, if_neg hg]
      · rw [i2, if_neg hk]
theorem getL_build (key : ByteArray) (l : List KE) : getL key (build l) = lastB key l := by
  have := (build_get key l l.length (Nat.le_refl _)).2
  rwa [List.take_length] at this

theorem key_ne {a b : ByteArray} (h : ¬ a = b) : (a.toList == b.toList) = false := by
  rw [beq_eq_false_iff_ne]
  intro e
  rw [ByteArray.toList_eq, ByteArray.toList_eq] at e
  exact h (WideShapes.bytes_inj e)
set_option maxRecDepth 100000 in
set_option maxHeartbeats 8000000 in
theorem last_any (A : Option Addr) (n c : Nat) (key : ByteArray) (l : List KE) (w : World) (hA : Rd w w.heap.size A (l.flatMap keC)) (hn : l.length = n) (hmx : n ≤ 140737488351232) (hz : key.size ≤ maxLen) :
    Calls Try.prog 13 #[.slice A n c, .string key] w fun e w' => e = .returned (entV (lastB key l)) ∧ Below w.heap.size w w' := by
  have Hn := Lib.hid hn
  clear hn
  have hb0 : Below w.heap.size w (w.alloc (.cells #[.int .i64 0, .int .i64 0, .int .i64 0, .int .i64 0, .int .i64 0, .bool false] 26)) := (Below.refl _ _).alloc (Nat.le_refl _) _
  have hx0 := Box.new w 26 #[.int .i64 0, .int .i64 0, .int .i64 0, .int .i64 0, .int .i64 0, .bool false]
  have H0 := Lib.hid (And.intro hb0 hx0)
  clear hb0 hx0
  cases hg : goodB key with
  | false =>
    have HG := Lib.hid hg
    clear hg
    go_enter Try.func13, Try.ntmps13
    go_wp2
    go_loopw [6] (fun i wr => i = .int .i64 ((n : Int) - 1) ∧ Below w.heap.size w wr ∧ Box wr w.heap.size 26 #[.int .i64 0, .int .i64 0, .int .i64 0, .int .i64 0, .int .i64 0, .bool false]) (fun i _ => 0)
    case atStart => exact ⟨by go_num, H0.out.1, H0.out.2⟩
    case round =>
      obtain ⟨rfl, hbl, hx⟩ := hrel
      have hxc := hx.cell
      have hxf := hx.free
      have H := Lib.hid hbl
      clear hbl hx H0
      by_cases h0 : (0 : Int) ≤ (n : Int) - 1
      · go_wp2_with (first
          | (go_at_call 11
             refine (good_is HG.out hz).mono ?_
             rintro e w' ⟨rfl, rfl⟩))
        refine bodyPost_ret (v := .tuple #[En.zero.v, .bool false]) ?_ rfl ?_
        · simp [results, Try.results13, go_sem, hxc, En.zero]
        refine ⟨by unfold lastB; rw [HG.out]; rfl, ?_⟩
        repeat (first | with_reducible exact H.out | refine Below.setCell ?_ (by simp) _)
      · go_wp2
        refine bodyPost_ret (v := .tuple #[En.zero.v, .bool false]) ?_ rfl ?_
        · simp [results, Try.results13, go_sem, hxc, En.zero]
        refine ⟨by unfold lastB; rw [HG.out]; rfl, ?_⟩
        repeat (first | with_reducible exact H.out | refine Below.setCell ?_ (by simp) _)
  | true =>
    have HG := Lib.hid hg
    clear hg
    go_enter Try.func13, Try.ntmps13
    go_wp2
    go_loopw [6] (fun i wr => ∃ k : Nat, k ≤ n ∧ i = .int .i64 ((k : Int) - 1) ∧ lastL key l = lastL key (l.take k) ∧ Below w.heap.size w wr ∧ Box wr w.heap.size 26 #[.int .i64 0, .int .i64 0, .int .i64 0, .int .i64 0, .int .i64 0, .bool false]) (fun i _ => (intOf i + 1).toNat)
    case atStart => exact ⟨n, Nat.le_refl _, by go_num, by rw [← Hn.out, List.take_length], H0.out.1, H0.out.2⟩
    case round =>
      obtain ⟨k, hk, rfl, hL, hbl, hx⟩ := hrel
      have hxc := hx.cell
      have hxf := hx.free
      have H := Lib.hid (And.intro hbl (And.intro hL hx))
      clear hbl hx H0 hL
      cases k with
      | zero =>
        go_wp2
        refine bodyPost_ret (v := .tuple #[En.zero.v, .bool false]) ?_ rfl ?_
        · simp [results, Try.results13, go_sem, hxc, En.zero]
        refine ⟨by unfold lastB; rw [HG.out, if_pos rfl, H.out.2.1]; rfl, ?_⟩
        repeat (first | with_reducible exact H.out.1 | refine Below.setCell ?_ (by simp) _)
      | succ j =>
        have hjl : j < l.length := by rw [Hn.out]; omega
        have hj0 : (0 : Int) ≤ j := by omega
        have hj1 : (j : Int) < n := by omega
        have hji : ((j + 1 : Nat) : Int) - 1 = j := by omega
        rw [hji]
        obtain ⟨ad, rfl, had, a0, a1, a2, a3, a4, a5, a6⟩ := (hA.below H.out.1).ke hjl
        have hLs := lastL_snoc key (l.take j) l[j]
        rw [← take_snoc l j hjl] at hLs
        generalize l[j] = x at a0 a1 a2 a3 a4 a5 a6 hLs
        have HLS := Lib.hid hLs
        clear hLs
        by_cases he : x.1 = key
        · go_wp2_with (first
            | (go_at_call 11
               refine (good_is HG.out hz).mono ?_
               rintro e w' ⟨rfl, rfl⟩))
          refine bodyPost_ret (v := .tuple #[x.2.v, .bool true]) ?_ rfl ?_
          · simp [results, Try.results13, go_sem, hxc]
          refine ⟨by unfold lastB; rw [HG.out, if_pos rfl, H.out.2.1, HLS.out, if_pos he]; rfl, ?_⟩
          repeat (first | with_reducible exact H.out.1 | refine Below.setCell ?_ (by simp) _)
        · have hkn := key_ne he
          go_wp2_with (first
            | (go_at_call 11
               refine (good_is HG.out hz).mono ?_
               rintro e w' ⟨rfl, rfl⟩))
          go_roundw
          case rel => exact ⟨j, by omega, by go_num, by rw [H.out.2.1, HLS.out, if_neg he], H.out.1, H.out.2.2⟩
          case measure => simp [intOf]
end Go.Proofs.Ytociadicjbkjcaa
