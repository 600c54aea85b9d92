import Derived.Test.YtociadicjbkjcaaKd6
namespace Go.Proofs.Ytociadicjbkjcaa
open Go.RowKit Go.Maps

set_option maxRecDepth 100000 in
set_option maxHeartbeats 8000000 in
theorem without_any : ∀ (t : Tn) (p : Option Addr) (key : ByteArray) (w : World), Tr w w.heap.size t p → Sorted t.flat → KeysOk t.flat → key.size ≤ 64 → getL key t.flat ≠ none → t.cnt ≤ 800000000000000 →
    Calls Try.prog 39 #[.pointer p, .string key] w (MT (delL key t.flat) w) := by
  intro t
  induction t with
  | leaf => intro p key w h _ _ _ hg _; exact absurd rfl hg
  | node k0 e0 l r ihl ihr =>
    intro p key w h hs hk hz hgn hcnt
    obtain ⟨b, p1, p2, rfl, hb, h1, h2, hx⟩ := h.cells
    have hT : ∀ W, Aft w W → Tr W W.heap.size l p1 ∧ Tr W W.heap.size r p2 ∧ NC W b k0 e0 p1 p2 ∧ Below w.heap.size w W := fun W hW =>
      ⟨h1.below hW, h2.below hW, NC.of (hx.below hW hb), hW⟩
    have hS2 : Sorted (l.flat ++ (k0, e0) :: r.flat) := hs
    have hK2 : KeysOk (l.flat ++ (k0, e0) :: r.flat) := hk
    obtain ⟨s1, s2, _⟩ := hS2.parts
    obtain ⟨o1, o2, o3, o4⟩ := hK2.parts
    have HO := Lib.hid (And.intro (And.intro s1 o1) (And.intro (And.intro s2 o2) (And.intro hS2 o4)))
    have HCN := Lib.hid (Tn.cnt_node k0 e0 l r)
    have HGN : Hid (getL key (l.flat ++ (k0, e0) :: r.flat) ≠ none) := hgn
    obtain ⟨_, _, ⟨n0, n1, n2, n3, n4, n5, n6, n8, n9⟩, _⟩ := hT _ (Aft.refl _)
    have HT := Lib.hid hT
    clear h hs hk h1 h2 hx hT hS2 hK2 s1 s2 o1 o2 o3 o4 hgn
    go_enter Try.func39, Try.ntmps39
    rcases kc_range key k0 with hc | hc | hc
    · have hg2 : getL key l.flat ≠ none := by rw [← get_less HO.out.2.2.1 hc]; exact HGN.out
      have HG := Lib.hid hg2
      clear hg2
      go_wp2_with (first
        | (go_at_call 41; (with_reducible refine (cmp_is (sz64 hz) (sz64 HO.out.2.2.2) hc).mono ?_); rintro e w' ⟨rfl, nq, rfl⟩))
      generalize hW1 : World.drewN _ _ = W1
      have hA1 : Aft w W1 := by rw [← hW1]; exact (Aft.refl _).drewN
      obtain ⟨_, _, ⟨n0, n1, n2, n3, n4, n5, n6, n8, n9⟩, _⟩ := HT.out _ hA1
      clear hW1
      go_region_held3 (fun w' => w'.cell? ⟨b, 0, none⟩ = some (.string k0) ∧ w'.cell? ⟨b, 1, none⟩ = some (.int .i64 e0.seg) ∧ w'.cell? ⟨b, 2, none⟩ = some (.int .i64 e0.at_) ∧ w'.cell? ⟨b, 3, none⟩ = some (.int .i64 e0.size) ∧ w'.cell? ⟨b, 4, none⟩ = some (.int .i64 e0.off) ∧ w'.cell? ⟨b, 5, none⟩ = some (.int .i64 e0.time) ∧ w'.cell? ⟨b, 6, none⟩ = some (.bool e0.tomb) ∧ w'.cell? ⟨b, 8, none⟩ = some (.pointer p1) ∧ w'.cell? ⟨b, 9, none⟩ = some (.pointer p2)) (go_keep)
        (first
          | (go_at_call 39; (with_reducible refine (ihl p1 key _ ?_ ?_ ?_ ?_ ?_ ?_).mono ?_); (exact (HT.out _ hA1.drew).1); (exact HO.out.1.1); (exact HO.out.1.2); (exact hz); (exact HG.out); (have := HCN.out; omega); rintro e w1 ⟨t1, q1, rfl, f1, g1, b1⟩; have a1 : Aft _ w1 := Aft.next hA1.drew b1; have F1 := Lib.hid (And.intro f1 (And.intro g1 b1)); obtain ⟨_, _, ⟨z0, z1, z2, z3, z4, z5, z6, z8, z9⟩, _⟩ := HT.out _  a1; clear f1 g1 b1)
          | (go_at_call 65; (with_reducible refine (even_any k0 e0 t1 r _ _ _ ?_ ?_ ?_).mono ?_); (exact F1.out.2.1); (exact (HT.out _ a1).2.1); (have := HCN.out; have := del_len key l.flat; have := F1.out.1; unfold Tn.cnt at *; rw [this]; omega); rintro e w2 ⟨t2, q2, rfl, f2, g2, b2⟩; have a2 : Aft _ w2 := Aft.next a1 b2; have F2 := Lib.hid (And.intro f2 (And.intro g2 b2)); obtain ⟨_, _, ⟨z0, z1, z2, z3, z4, z5, z6, z8, z9⟩, _⟩ := HT.out _  a2; clear f2 g2 b2))
      all_goals
        go_wp2
        go_ret
        exact ⟨t2, q2, rfl, by rw [F2.out.1, F1.out.1]; exact (del_less HO.out.2.2.1 hc).symm, F2.out.2.1, (HT.out _ a2).2.2.2⟩
    · obtain rfl := kc_eq hc
      cases l with
      | leaf =>
        have hp1 : p1 = none := (HT.out _ (Aft.refl _)).1
        subst hp1
        go_wp2_with (first
          | (go_at_call 41; (with_reducible refine (cmp_is (sz64 hz) (sz64 HO.out.2.2.2) hc).mono ?_); rintro e w' ⟨rfl, nq, rfl⟩))
        generalize hW1 : World.drewN _ _ = W1
        have hA1 : Aft w W1 := by rw [← hW1]; exact (Aft.refl _).drewN
        obtain ⟨_, _, ⟨n0, n1, n2, n3, n4, n5, n6, n8, n9⟩, _⟩ := HT.out _ hA1
        clear hW1
        go_wp2
        go_ret
        exact ⟨r, p2, rfl, (del_same HO.out.2.2.1).symm, (HT.out _ hA1).2.1, (HT.out _ hA1).2.2.2⟩
      | node lk le ll lr =>
      have hl0 := (HT.out _ (Aft.refl _)).1
      obtain ⟨lb, l1, l2, rfl, _⟩ := hl0
      cases r with
      | leaf =>
        have hp2 : p2 = none := (HT.out _ (Aft.refl _)).2.1
        subst hp2
        go_wp2_with (first
          | (go_at_call 41; (with_reducible refine (cmp_is (sz64 hz) (sz64 HO.out.2.2.2) hc).mono ?_); rintro e w' ⟨rfl, nq, rfl⟩))
        generalize hW1 : World.drewN _ _ = W1
        have hA1 : Aft w W1 := by rw [← hW1]; exact (Aft.refl _).drewN
        obtain ⟨_, _, ⟨n0, n1, n2, n3, n4, n5, n6, n8, n9⟩, _⟩ := HT.out _ hA1
        clear hW1
        go_wp2
        go_ret
        exact ⟨.node lk le ll lr, some ⟨lb, 0, none⟩, rfl, ((del_same HO.out.2.2.1).trans (List.append_nil _)).symm, (HT.out _ hA1).1, (HT.out _ hA1).2.2.2⟩
      | node rk re rl rr =>
      have hr0 := (HT.out _ (Aft.refl _)).2.1
      obtain ⟨rb, r1, r2, rfl, _⟩ := hr0
      go_wp2_with (first
        | (go_at_call 41; (with_reducible refine (cmp_is (sz64 hz) (sz64 HO.out.2.2.2) hc).mono ?_); rintro e w' ⟨rfl, nq, rfl⟩))
      generalize hW1 : World.drewN _ _ = W1
      have hA1 : Aft w W1 := by rw [← hW1]; exact (Aft.refl _).drewN
      obtain ⟨_, _, ⟨n0, n1, n2, n3, n4, n5, n6, n8, n9⟩, _⟩ := HT.out _ hA1
      clear hW1
      go_wp2
      go_loop [6] (fun v => ∃ (mk : ByteArray) (me : En) (ml mr : Tn) (mb : Nat) (m1 m2 : Option Addr) (rest : List KE), v = .pointer (some ⟨mb, 0, none⟩) ∧ Tr W1 W1.heap.size (.node mk me ml mr) (some ⟨mb, 0, none⟩) ∧ mb < W1.heap.size ∧ Tr W1 W1.heap.size ml m1 ∧ Tr W1 W1.heap.size mr m2 ∧ Box W1 mb 82 (nodeC mk me (ml.cnt + mr.cnt + 1) m1 m2) ∧ (Tn.node rk re rl rr).flat = (ml.flat ++ (mk, me) :: mr.flat) ++ rest)
        (fun v => szOf W1 v)
      case atStart =>
        have hr1 := (HT.out _ hA1).2.1
        obtain ⟨b', m1, m2, hp, hb', g1, g2, gx⟩ := hr1.cells
        cases hp
        exact ⟨rk, re, rl, rr, rb, m1, m2, [], rfl, hr1, hb', g1, g2, gx, by simp [Tn.flat]⟩
      case round =>
        obtain ⟨mk, me, ml, mr, mb, m1, m2, rest, rfl, hM, hmb, g1, g2, gx, hfl⟩ := hrel
        obtain ⟨x0, x1, x2, x3, x4, x5, x6, x8, x9⟩ := NC.of gx
        cases ml with
        | node mk' me' ml' mr' =>
          have hg1 := g1
          obtain ⟨b', m1', m2', rfl, hb', g1', g2', gx'⟩ := g1.cells
          have HM := Lib.hid (And.intro (szOf_tr hM) (And.intro (szOf_tr hg1) (And.intro (Tn.cnt_node mk me (.node mk' me' ml' mr') mr) (And.intro hfl (And.intro hg1 (And.intro g1' (And.intro g2' gx')))))))
          clear hM g1 g2 gx hfl hg1 g1' g2' gx'
          go_wp2
          go_round
          case rel =>
            obtain ⟨_, _, _, hfl, hg1, g1', g2', gx'⟩ := HM.out
            exact ⟨mk', me', ml', mr', b', m1', m2', (mk, me) :: mr.flat ++ rest, rfl, hg1, hb', g1', g2', gx', by rw [hfl]; simp [Tn.flat]⟩
          case measure =>
            obtain ⟨h1, h2, h3, _⟩ := HM.out
            omega
        | leaf =>
          obtain rfl : m1 = none := g1
          have hfl2 : (Tn.node rk re rl rr).flat = [] ++ (mk, me) :: (mr.flat ++ rest) := by rw [hfl]; simp [Tn.flat]
          have hs2 : Sorted ([] ++ (mk, me) :: (mr.flat ++ rest)) := by rw [← hfl2]; exact HO.out.2.1.1
          have hk2 : KeysOk ([] ++ (mk, me) :: (mr.flat ++ rest)) := by rw [← hfl2]; exact HO.out.2.1.2
          have hmz := hk2.parts.2.2.2
          have hgm : getL mk (Tn.node rk re rl rr).flat ≠ none := by rw [hfl2, get_same hs2]; simp
          have hd : delL mk (Tn.node rk re rl rr).flat = mr.flat ++ rest := by rw [hfl2, del_same hs2]; rfl
          have hbx : ∀ W, Aft W1 W → NC W mb mk me none m2 := fun W hW => NC.of (gx.below hW hmb)
          have HM := Lib.hid (And.intro hgm (And.intro hd (And.intro hfl2 (And.intro hmz hbx))))
          have HX := Lib.hid hbx
          clear hM g2 gx hfl hfl2 hs2 hk2 hmz hgm hd hbx
          go_wp2
          go_region_held3 (fun w' => w'.cell? ⟨b, 8, none⟩ = some (.pointer (some ⟨lb, 0, none⟩)) ∧ w'.cell? ⟨b, 9, none⟩ = some (.pointer (some ⟨rb, 0, none⟩)) ∧ w'.cell? ⟨mb, 0, none⟩ = some (.string mk) ∧ w'.cell? ⟨mb, 1, none⟩ = some (.int .i64 me.seg) ∧ w'.cell? ⟨mb, 2, none⟩ = some (.int .i64 me.at_) ∧ w'.cell? ⟨mb, 3, none⟩ = some (.int .i64 me.size) ∧ w'.cell? ⟨mb, 4, none⟩ = some (.int .i64 me.off) ∧ w'.cell? ⟨mb, 5, none⟩ = some (.int .i64 me.time) ∧ w'.cell? ⟨mb, 6, none⟩ = some (.bool me.tomb)) (go_keep)
            (first
              | (go_at_call 39; (with_reducible refine (ihr (some ⟨rb, 0, none⟩) mk _ ?_ ?_ ?_ ?_ ?_ ?_).mono ?_); (exact (HT.out _ hA1.drew).2.1); (exact HO.out.2.1.1); (exact HO.out.2.1.2); (exact HM.out.2.2.2.1); (exact HM.out.1); (have := HCN.out; omega); rintro e w1 ⟨t1, q1, rfl, f1, g1, b1⟩; have a1 : Aft _ w1 := Aft.next hA1.drew b1; have F1 := Lib.hid (And.intro f1 (And.intro g1 b1)); obtain ⟨_, _, ⟨z0, z1, z2, z3, z4, z5, z6, z8, z9⟩, _⟩ := HT.out _  a1; obtain ⟨v0, v1, v2, v3, v4, v5, v6, v8, v9⟩ := HX.out _ (Aft.next ((Aft.refl W1).drew) b1); clear f1 g1 b1)
              | (go_at_call 65; (with_reducible refine (even_any mk me (.node lk le ll lr) t1 _ _ _ ?_ ?_ ?_).mono ?_); (exact (HT.out _ a1).1); (exact F1.out.2.1); (have := HCN.out; have := del_len mk (Tn.node rk re rl rr).flat; have := F1.out.1; unfold Tn.cnt at *; rw [this]; omega); rintro e w2 ⟨t2, q2, rfl, f2, g2, b2⟩; have a2 : Aft _ w2 := Aft.next a1 b2; have F2 := Lib.hid (And.intro f2 (And.intro g2 b2)); obtain ⟨_, _, ⟨z0, z1, z2, z3, z4, z5, z6, z8, z9⟩, _⟩ := HT.out _  a2; obtain ⟨v0, v1, v2, v3, v4, v5, v6, v8, v9⟩ := HX.out _ (Aft.next (Aft.next ((Aft.refl W1).drew) F1.out.2.2) b2); clear f2 g2 b2))
          all_goals
            go_wp2
            go_ret
            refine ⟨t2, q2, rfl, ?_, F2.out.2.1, (HT.out _ a2).2.2.2⟩
            rw [F2.out.1, F1.out.1, HM.out.2.1]
            have := del_same HO.out.2.2.1
            refine Eq.trans ?_ this.symm
            rw [HM.out.2.2.1]; rfl
    · have hg2 : getL key r.flat ≠ none := by rw [← get_more HO.out.2.2.1 hc]; exact HGN.out
      have HG := Lib.hid hg2
      clear hg2
      go_wp2_with (first
        | (go_at_call 41; (with_reducible refine (cmp_is (sz64 hz) (sz64 HO.out.2.2.2) hc).mono ?_); rintro e w' ⟨rfl, nq, rfl⟩))
      generalize hW1 : World.drewN _ _ = W1
      have hA1 : Aft w W1 := by rw [← hW1]; exact (Aft.refl _).drewN
      obtain ⟨_, _, ⟨n0, n1, n2, n3, n4, n5, n6, n8, n9⟩, _⟩ := HT.out _ hA1
      clear hW1
      go_region_held3 (fun w' => w'.cell? ⟨b, 0, none⟩ = some (.string k0) ∧ w'.cell? ⟨b, 1, none⟩ = some (.int .i64 e0.seg) ∧ w'.cell? ⟨b, 2, none⟩ = some (.int .i64 e0.at_) ∧ w'.cell? ⟨b, 3, none⟩ = some (.int .i64 e0.size) ∧ w'.cell? ⟨b, 4, none⟩ = some (.int .i64 e0.off) ∧ w'.cell? ⟨b, 5, none⟩ = some (.int .i64 e0.time) ∧ w'.cell? ⟨b, 6, none⟩ = some (.bool e0.tomb) ∧ w'.cell? ⟨b, 8, none⟩ = some (.pointer p1) ∧ w'.cell? ⟨b, 9, none⟩ = some (.pointer p2)) (go_keep)
        (first
          | (go_at_call 39; (with_reducible refine (ihr p2 key _ ?_ ?_ ?_ ?_ ?_ ?_).mono ?_); (exact (HT.out _ hA1.drew).2.1); (exact HO.out.2.1.1); (exact HO.out.2.1.2); (exact hz); (exact HG.out); (have := HCN.out; omega); rintro e w1 ⟨t1, q1, rfl, f1, g1, b1⟩; have a1 : Aft _ w1 := Aft.next hA1.drew b1; have F1 := Lib.hid (And.intro f1 (And.intro g1 b1)); obtain ⟨_, _, ⟨z0, z1, z2, z3, z4, z5, z6, z8, z9⟩, _⟩ := HT.out _  a1; clear f1 g1 b1)
          | (go_at_call 65; (with_reducible refine (even_any k0 e0 l t1 _ _ _ ?_ ?_ ?_).mono ?_); (exact (HT.out _ a1).1); (exact F1.out.2.1); (have := HCN.out; have := del_len key r.flat; have := F1.out.1; unfold Tn.cnt at *; rw [this]; omega); rintro e w2 ⟨t2, q2, rfl, f2, g2, b2⟩; have a2 : Aft _ w2 := Aft.next a1 b2; have F2 := Lib.hid (And.intro f2 (And.intro g2 b2)); obtain ⟨_, _, ⟨z0, z1, z2, z3, z4, z5, z6, z8, z9⟩, _⟩ := HT.out _  a2; clear f2 g2 b2))
      all_goals
        go_wp2
        go_ret
        exact ⟨t2, q2, rfl, by rw [F2.out.1, F1.out.1]; exact (del_more HO.out.2.2.1 hc).symm, F2.out.2.1, (HT.out _ a2).2.2.2⟩
end Go.Proofs.Ytociadicjbkjcaa
