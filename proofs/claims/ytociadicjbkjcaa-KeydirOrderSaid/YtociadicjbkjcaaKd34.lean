import Derived.Test.YtociadicjbkjcaaKd25
import Derived.Test.YtociadicjbkjcaaKd13
/- Rank and Nth. -/
namespace Go.Proofs.Ytociadicjbkjcaa
open Go.RowKit Go.Maps

theorem rank_less {key k0 : ByteArray} {e0 : En} {l r : List KE} (h : Sorted (l ++ (k0, e0) :: r)) (hk : kc k0 key = -1) : (lo key (l ++ (k0, e0) :: r)).length = l.length + 1 + (lo key r).length := by
  have hs := kc_swap k0 key
  rw [(lo_more h (show kc key k0 = 1 by omega)).1]
  simp; omega
theorem rank_same {key : ByteArray} {e0 : En} {l r : List KE} (h : Sorted (l ++ (key, e0) :: r)) : (lo key (l ++ (key, e0) :: r)).length = (lo key l).length := by
  rw [(lo_same h).1]
  have := (h.parts).2.2.1
  rw [show lo key l = l from filter_all fun x hx => by simp [this x hx]]
theorem rank_more {key k0 : ByteArray} {e0 : En} {l r : List KE} (h : Sorted (l ++ (k0, e0) :: r)) (hk : kc k0 key = 1) : (lo key (l ++ (k0, e0) :: r)).length = (lo key l).length := by
  have hs := kc_swap k0 key
  rw [(lo_less h (show kc key k0 = -1 by omega)).1]
theorem lo_le (key : ByteArray) (xs : List KE) : (lo key xs).length ≤ xs.length := List.length_filter_le _ _

set_option maxRecDepth 100000 in
set_option maxHeartbeats 4000000 in
theorem rank_any (d : Nat) (key : ByteArray) (xs : List KE) (w : World) (h : DR w d xs) (hz : key.size ≤ maxLen) (hc : xs.length ≤ 800000000000000) :
    Calls Try.prog 26 #[.pointer (some ⟨d, 0, none⟩), .string key] w fun e w' => e = .returned (.int .i64 (lo key xs).length) ∧ ∃ n, w' = w.drewN n := by
  obtain ⟨t, p, h1, h2, rfl, h4, h5⟩ := h
  have H := Lib.hid (And.intro h1 (And.intro h2 (And.intro h4 h5)))
  clear h1 h2 h4 h5
  go_enter Try.func26, Try.ntmps26
  go_wp2_with (first
    | (go_at_call 38; refine (top_any d p _ H.out.1).mono ?_; rintro e w' ⟨rfl, rfl⟩))
  go_loopw [5, 6] (fun s v wr => ∃ (u : Tn) (q : Option Addr) (n a : Nat), s = .int .i64 a ∧ v = .pointer q ∧ wr = w.drewN n ∧ Tr w w.heap.size u q ∧ Sorted u.flat ∧ KeysOk u.flat ∧ (lo key t.flat).length = a + (lo key u.flat).length)
    (fun _ v wr => szOf wr v)
  case atStart => exact ⟨t, p, 0, 0, rfl, rfl, rfl, H.out.2.1, H.out.2.2.1, H.out.2.2.2, by omega⟩
  case round =>
    obtain ⟨u, q, n, a, rfl, rfl, rfl, hT, hS, hK, hG⟩ := hrel
    cases u with
    | leaf =>
      obtain rfl : q = none := hT
      have HG := Lib.hid hG
      clear hG hS hK
      go_wp2
      go_ret
      exact ⟨by rw [HG.out]; simp [Tn.flat, lo], n, rfl⟩
    | node k0 e0 l r =>
      have Hsz := Lib.hid (szOf_tr (hT.dr (n := n)))
      obtain ⟨b, p1, p2, rfl, hb, h1, h2, hx⟩ := hT.cells
      have hN := NC.of hx
      have hS2 : Sorted (l.flat ++ (k0, e0) :: r.flat) := hS
      have hK2 : KeysOk (l.flat ++ (k0, e0) :: r.flat) := hK
      obtain ⟨s1, s2, _⟩ := hS2.parts
      obtain ⟨o1, o2, o3, o4⟩ := hK2.parts
      have hG2 : (lo key t.flat).length = a + (lo key (l.flat ++ (k0, e0) :: r.flat)).length := hG
      have hle := lo_le key t.flat
      have HH := Lib.hid (And.intro h1 (And.intro h2 (And.intro s1 (And.intro s2 (And.intro o1 (And.intro o2 (And.intro hS2 (And.intro hG2 hN))))))))
      obtain ⟨n0, n1, n2, n3, n4, n5, n6, n8, n9⟩ := hN
      have hcn := Tn.cnt_node k0 e0 l r
      have HCN := Lib.hid hcn
      have o4' := Lib.hid o4
      clear hT hx hS hK hG hS2 hK2 s1 s2 o1 o2 hcn o3 o4 h1 h2
      rcases kc_range k0 key with hk | hk | hk
      · have hr := rank_less HH.out.2.2.2.2.2.2.1 hk
        have hlc : l.flat.length = l.cnt := rfl
        have hab : a + l.cnt + 1 ≤ 800000000000000 := by have := HH.out.2.2.2.2.2.2.2.1; omega
        have HR := Lib.hid hr
        clear hr hG2 hlc
        go_wp2_with (first
          | (go_at_call 41; (with_reducible refine (cmp_is (sz64 o4'.out) hz hk).mono ?_); rintro e w' ⟨rfl, nq, rfl⟩)
          | (go_at_call 40
             (with_reducible refine (count_any l p1 w.heap.size _ ?_).mono ?_)
             · first | exact HH.out.1.dr | exact (HH.out.1.dr).dr
             rintro e w' ⟨rfl, hw'⟩
             subst hw'))
        go_roundw
        case rel => exact ⟨r, p2, _, a + l.cnt + 1, by go_num, rfl, by first | rfl | exact World.drewN_drewN .., HH.out.2.1, HH.out.2.2.2.1, HH.out.2.2.2.2.2.1, by rw [HH.out.2.2.2.2.2.2.2.1, HR.out]; have hlc : l.flat.length = l.cnt := rfl; omega⟩
        case measure =>
          have e1 := Hsz.out
          have e2 := HCN.out
          have e3 := szOf_tr (HH.out.2.1.dr (n := n + nq))
          simp only [szOf_dr] at *
          omega
      · obtain rfl := kc_eq hk
        have hr := rank_same HH.out.2.2.2.2.2.2.1
        have HR := Lib.hid hr
        clear hr hG2
        go_wp2_with (first
          | (go_at_call 41; (with_reducible refine (cmp_is (sz64 o4'.out) hz hk).mono ?_); rintro e w' ⟨rfl, nq, rfl⟩))
        go_roundw
        case rel => exact ⟨l, p1, _, a, rfl, rfl, by first | rfl | exact World.drewN_drewN .., HH.out.1, HH.out.2.2.1, HH.out.2.2.2.2.1, by rw [HH.out.2.2.2.2.2.2.2.1, HR.out]⟩
        case measure =>
          have e1 := Hsz.out
          have e2 := HCN.out
          have e3 := szOf_tr (HH.out.1.dr (n := n + nq))
          simp only [szOf_dr] at *
          omega
      · have hr := rank_more HH.out.2.2.2.2.2.2.1 hk
        have HR := Lib.hid hr
        clear hr hG2
        go_wp2_with (first
          | (go_at_call 41; (with_reducible refine (cmp_is (sz64 o4'.out) hz hk).mono ?_); rintro e w' ⟨rfl, nq, rfl⟩))
        go_roundw
        case rel => exact ⟨l, p1, _, a, rfl, rfl, by first | rfl | exact World.drewN_drewN .., HH.out.1, HH.out.2.2.1, HH.out.2.2.2.2.1, by rw [HH.out.2.2.2.2.2.2.2.1, HR.out]⟩
        case measure =>
          have e1 := Hsz.out
          have e2 := HCN.out
          have e3 := szOf_tr (HH.out.1.dr (n := n + nq))
          simp only [szOf_dr] at *
          omega

/-- What Nth answers. -/
abbrev keV (x : KE) : Value := .agg #[.string x.1, .int .i64 x.2.seg, .int .i64 x.2.at_, .int .i64 x.2.size, .int .i64 x.2.off, .int .i64 x.2.time, .bool x.2.tomb]
theorem at_left {l r : List KE} {x : KE} {a : Nat} (h : a < l.length) : (l ++ x :: r)[a]? = l[a]? := List.getElem?_append_left h
theorem at_mid {l r : List KE} {x : KE} : (l ++ x :: r)[l.length]? = some x := by simp
theorem at_right {l r : List KE} {x : KE} {a : Nat} (h : l.length < a) : (l ++ x :: r)[a]? = r[a - (l.length + 1)]? := by
  rw [List.getElem?_append_right (by omega), show a - l.length = (a - (l.length + 1)) + 1 by omega, List.getElem?_cons_succ]
set_option maxRecDepth 100000 in
set_option maxHeartbeats 4000000 in
theorem nth_none (d k : Nat) (xs : List KE) (w : World) (h : DR w d xs) (hc : xs.length ≤ 800000000000000) (hx : xs[k]? = none) (hk : k ≤ 4611686018427387904) :
    Calls Try.prog 25 #[.pointer (some ⟨d, 0, none⟩), .int .i64 k] w fun e w' => e = .returned (.tuple #[.agg #[.string ⟨#[]⟩, .int .i64 0, .int .i64 0, .int .i64 0, .int .i64 0, .int .i64 0, .bool false], .bool false]) ∧ Below w.heap.size w w' := by
  obtain ⟨t, p, h1, h2, rfl, h4, h5⟩ := h
  have hb0 := bal w (.cells #[.string ⟨#[]⟩, .int .i64 0, .int .i64 0, .int .i64 0, .int .i64 0, .int .i64 0, .bool false] 28)
  have hX0 := Box.new w 28 #[.string ⟨#[]⟩, .int .i64 0, .int .i64 0, .int .i64 0, .int .i64 0, .int .i64 0, .bool false]
  have H := Lib.hid (And.intro (h1.below hb0 h1.lt) (And.intro (h2.below hb0) (And.intro h4 (And.intro h5 (And.intro hb0 (And.intro hX0 hx))))))
  clear h1 h2 h4 h5 hb0 hX0 hx
  go_enter Try.func25, Try.ntmps25
  have hk0 : (0 : Int) ≤ k := by omega
  go_wp2_with (first
    | (go_at_call 38; refine (top_any d p _ H.out.1).mono ?_; rintro e w' ⟨rfl, hw'⟩; subst hw'))
  generalize hW1 : w.alloc (.cells #[.string ⟨#[]⟩, .int .i64 0, .int .i64 0, .int .i64 0, .int .i64 0, .int .i64 0, .bool false] 28) = W1 at H ⊢
  clear hW1
  go_loopw [1, 6] (fun s v wr => ∃ (u : Tn) (q : Option Addr) (a : Nat), s = .int .i64 a ∧ a ≤ k ∧ v = .pointer q ∧ wr = W1 ∧ Tr wr wr.heap.size u q ∧ t.flat[k]? = u.flat[a]? ∧ u.cnt ≤ t.cnt)
    (fun _ v wr => szOf wr v)
  case atStart => exact ⟨t, p, k, rfl, Nat.le_refl _, rfl, rfl, H.out.2.1, rfl, Nat.le_refl _⟩
  case round =>
    obtain ⟨u, q, a, rfl, hak, rfl, rfl, hT, hG, hcu⟩ := hrel
    have hxc := H.out.2.2.2.2.2.1.cell
    have hxf := H.out.2.2.2.2.2.1.free
    have hxl := H.out.2.2.2.2.2.1.lt
    have HL := Lib.hid H.out.2.2.2.2.1
    cases u with
    | leaf =>
      obtain rfl : q = none := hT
      have hx0 := H.out.2.2.2.2.2.2
      clear hG
      go_wp2
      refine bodyPost_ret (v := .tuple #[.agg #[.string ⟨#[]⟩, .int .i64 0, .int .i64 0, .int .i64 0, .int .i64 0, .int .i64 0, .bool false], .bool false]) ?_ rfl ?_
      · simp [results, Try.results25, go_sem, hxc]
      refine ⟨rfl, ?_⟩
      repeat (first | with_reducible exact HL.out | refine Below.setCell ?_ (by simp) _)
    | node k0 e0 l r =>
      have hct : t.cnt ≤ 800000000000000 := hc
      have Hsz := Lib.hid (szOf_tr hT)
      obtain ⟨b, p1, p2, rfl, hb, h1, h2, hx⟩ := hT.cells
      have hN := NC.of hx
      have hG2 : t.flat[k]? = (l.flat ++ (k0, e0) :: r.flat)[a]? := hG
      have hcn := Tn.cnt_node k0 e0 l r
      have HH := Lib.hid (And.intro h1 (And.intro h2 hG2))
      obtain ⟨n0, n1, n2, n3, n4, n5, n6, n8, n9⟩ := hN
      have HCN := Lib.hid hcn
      have hlc : l.cnt ≤ 800000000000000 := by omega
      have hll := Lib.hid (show l.flat.length = l.cnt from rfl)
      clear hT hx hG hG2 hcn h1 h2
      rcases Nat.lt_trichotomy a l.cnt with hal | hal | hal
      · have hal' : (a : Int) < l.cnt := by omega
        have hne : ¬ (a : Int) = l.cnt := by omega
        go_wp2_with (first
          | (go_at_call 40
             (with_reducible refine (count_any l p1 _ _ HH.out.1).mono ?_)
             rintro e w' ⟨rfl, hw'⟩
             subst hw'))
        go_roundw
        case rel => exact ⟨l, p1, a, rfl, hak, rfl, (by first | rfl | trivial), HH.out.1, by rw [HH.out.2.2]; exact at_left (by rw [hll.out]; exact hal), by have := HCN.out; omega⟩
        case measure =>
          have e1 := Hsz.out
          have e2 := HCN.out
          have e3 := szOf_tr HH.out.1
          omega
      · have heq : (a : Int) = l.cnt := by omega
        have hx0 := H.out.2.2.2.2.2.2
        rw [HH.out.2.2, show a = l.flat.length by rw [hll.out]; exact hal, at_mid] at hx0
        cases hx0
      · have hal' : ¬ (a : Int) < l.cnt := by omega
        have hne : ¬ (a : Int) = l.cnt := by omega
        go_wp2_with (first
          | (go_at_call 40
             (with_reducible refine (count_any l p1 _ _ HH.out.1).mono ?_)
             rintro e w' ⟨rfl, hw'⟩
             subst hw'))
        go_roundw
        case rel => exact ⟨r, p2, a - (l.cnt + 1), by go_num, by omega, rfl, (by first | rfl | trivial), HH.out.2.1, by rw [HH.out.2.2, ← hll.out]; exact at_right (by rw [hll.out]; exact hal), by have := HCN.out; omega⟩
        case measure =>
          have e1 := Hsz.out
          have e2 := HCN.out
          have e3 := szOf_tr HH.out.2.1
          omega
set_option maxRecDepth 100000 in
set_option maxHeartbeats 4000000 in
theorem nth_some (d k : Nat) (xs : List KE) (w : World) (h : DR w d xs) (hc : xs.length ≤ 800000000000000) (x : KE) (hx : xs[k]? = some x) (hk : k ≤ 4611686018427387904) :
    Calls Try.prog 25 #[.pointer (some ⟨d, 0, none⟩), .int .i64 k] w fun e w' => e = .returned (.tuple #[keV x, .bool true]) ∧ Below w.heap.size w w' := by
  obtain ⟨t, p, h1, h2, rfl, h4, h5⟩ := h
  have hb0 := bal w (.cells #[.string ⟨#[]⟩, .int .i64 0, .int .i64 0, .int .i64 0, .int .i64 0, .int .i64 0, .bool false] 28)
  have hX0 := Box.new w 28 #[.string ⟨#[]⟩, .int .i64 0, .int .i64 0, .int .i64 0, .int .i64 0, .int .i64 0, .bool false]
  have H := Lib.hid (And.intro (h1.below hb0 h1.lt) (And.intro (h2.below hb0) (And.intro h4 (And.intro h5 (And.intro hb0 (And.intro hX0 hx))))))
  clear h1 h2 h4 h5 hb0 hX0 hx
  go_enter Try.func25, Try.ntmps25
  have hk0 : (0 : Int) ≤ k := by omega
  go_wp2_with (first
    | (go_at_call 38; refine (top_any d p _ H.out.1).mono ?_; rintro e w' ⟨rfl, hw'⟩; subst hw'))
  generalize hW1 : w.alloc (.cells #[.string ⟨#[]⟩, .int .i64 0, .int .i64 0, .int .i64 0, .int .i64 0, .int .i64 0, .bool false] 28) = W1 at H ⊢
  clear hW1
  go_loopw [1, 6] (fun s v wr => ∃ (u : Tn) (q : Option Addr) (a : Nat), s = .int .i64 a ∧ a ≤ k ∧ v = .pointer q ∧ wr = W1 ∧ Tr wr wr.heap.size u q ∧ t.flat[k]? = u.flat[a]? ∧ u.cnt ≤ t.cnt)
    (fun _ v wr => szOf wr v)
  case atStart => exact ⟨t, p, k, rfl, Nat.le_refl _, rfl, rfl, H.out.2.1, rfl, Nat.le_refl _⟩
  case round =>
    obtain ⟨u, q, a, rfl, hak, rfl, rfl, hT, hG, hcu⟩ := hrel
    have hxc := H.out.2.2.2.2.2.1.cell
    have hxf := H.out.2.2.2.2.2.1.free
    have hxl := H.out.2.2.2.2.2.1.lt
    have HL := Lib.hid H.out.2.2.2.2.1
    cases u with
    | leaf =>
      obtain rfl : q = none := hT
      have hx0 := H.out.2.2.2.2.2.2
      rw [hG] at hx0
      cases hx0
    | node k0 e0 l r =>
      have hct : t.cnt ≤ 800000000000000 := hc
      have Hsz := Lib.hid (szOf_tr hT)
      obtain ⟨b, p1, p2, rfl, hb, h1, h2, hx⟩ := hT.cells
      have hN := NC.of hx
      have hG2 : t.flat[k]? = (l.flat ++ (k0, e0) :: r.flat)[a]? := hG
      have hcn := Tn.cnt_node k0 e0 l r
      have HH := Lib.hid (And.intro h1 (And.intro h2 hG2))
      obtain ⟨n0, n1, n2, n3, n4, n5, n6, n8, n9⟩ := hN
      have HCN := Lib.hid hcn
      have hlc : l.cnt ≤ 800000000000000 := by omega
      have hll := Lib.hid (show l.flat.length = l.cnt from rfl)
      clear hT hx hG hG2 hcn h1 h2
      rcases Nat.lt_trichotomy a l.cnt with hal | hal | hal
      · have hal' : (a : Int) < l.cnt := by omega
        have hne : ¬ (a : Int) = l.cnt := by omega
        go_wp2_with (first
          | (go_at_call 40
             (with_reducible refine (count_any l p1 _ _ HH.out.1).mono ?_)
             rintro e w' ⟨rfl, hw'⟩
             subst hw'))
        go_roundw
        case rel => exact ⟨l, p1, a, rfl, hak, rfl, (by first | rfl | trivial), HH.out.1, by rw [HH.out.2.2]; exact at_left (by rw [hll.out]; exact hal), by have := HCN.out; omega⟩
        case measure =>
          have e1 := Hsz.out
          have e2 := HCN.out
          have e3 := szOf_tr HH.out.1
          omega
      · have heq : (a : Int) = l.cnt := by omega
        have hx0 := H.out.2.2.2.2.2.2
        rw [HH.out.2.2, show a = l.flat.length by rw [hll.out]; exact hal, at_mid] at hx0
        obtain rfl : (k0, e0) = x := by injection hx0
        clear hx0
        go_wp2_with (first
          | (go_at_call 40
             (with_reducible refine (count_any l p1 _ _ HH.out.1).mono ?_)
             rintro e w' ⟨rfl, hw'⟩
             subst hw'))
        go_still_tail 9, (by kernel_rfl)
        have hx2 := H.out.2.2.2.2.2.1.drew
        have hb2 := HL.out.drew
        show wpList _ _ _ _ _ wr.drew
        generalize wr.drew = W2 at hx2 hb2 ⊢
        have hxc2 := hx2.cell
        have hxf2 := hx2.free
        have HB2 := Lib.hid hb2
        clear hxc hxf hx2 hb2 n0 n1 n2 n3 n4 n5 n6 n8 n9
        go_wp2
        refine bodyPost_ret (v := .tuple #[keV (k0, e0), .bool true]) ?_ rfl ?_
        · simp [results, Try.results25, go_sem, hxc2]
        refine ⟨rfl, ?_⟩
        repeat (first | with_reducible exact HB2.out | refine Below.setCell ?_ (by simp) _)
      · have hal' : ¬ (a : Int) < l.cnt := by omega
        have hne : ¬ (a : Int) = l.cnt := by omega
        go_wp2_with (first
          | (go_at_call 40
             (with_reducible refine (count_any l p1 _ _ HH.out.1).mono ?_)
             rintro e w' ⟨rfl, hw'⟩
             subst hw'))
        go_roundw
        case rel => exact ⟨r, p2, a - (l.cnt + 1), by go_num, by omega, rfl, (by first | rfl | trivial), HH.out.2.1, by rw [HH.out.2.2, ← hll.out]; exact at_right (by rw [hll.out]; exact hal), by have := HCN.out; omega⟩
        case measure =>
          have e1 := Hsz.out
          have e2 := HCN.out
          have e3 := szOf_tr HH.out.2.1
          omega
end Go.Proofs.Ytociadicjbkjcaa
