import Derived.Test.YtmhlgbpgdhhfnaaGreatV14
set_option linter.unusedVariables false
set_option linter.unusedSimpArgs false
namespace Go.Proofs.YtmhlgbpgdhhfnaaGreat
open Go.RowKit Go.Maps Sqz

/-! chronicleref2.Read, Decode -/
theorem nmU_bound : ∀ (f j : Nat) (l : List UInt8) (v k : Nat), nmU f j l = some (v, k) → v < 128 ^ f ∧ 0 < k ∧ k ≤ l.length
  | 0, _, _, _, _, h => by cases h
  | f + 1, _, [], _, _, h => by cases h
  | f + 1, j, c :: r, v, k, h => by
    have hc := c.toNat_lt
    have hp : 0 < 128 ^ f := Nat.pow_pos (by omega)
    rw [nmU] at h
    split at h
    · split at h
      · cases h
      cases h
      exact ⟨by rw [Nat.pow_succ]; omega, by omega, by simp⟩
    rcases hh : nmU f (j + 1) r with _ | ⟨v', k'⟩
    · rw [hh] at h; cases h
    rw [hh] at h
    simp only [Option.map_some, Option.some.injEq, Prod.mk.injEq] at h
    obtain ⟨rfl, rfl⟩ := h
    obtain ⟨h1, h2, h3⟩ := nmU_bound f (j + 1) r v' k' hh
    exact ⟨by rw [Nat.pow_succ]; omega, by omega, by simp only [List.length_cons]; omega⟩
theorem nmE_bound {l : List UInt8} {v k : Nat} (h : nmE l = some (v, k)) : v < 2097152 ∧ 0 < k ∧ k ≤ l.length := nmU_bound 3 0 l v k h
theorem numAt_some {A : Option Addr} {n c : Nat} {b : List UInt8} {a v k : Nat} {w : World} (h : nmE (b.drop a) = some (v, k)) (hA : Rd w w.heap.size A (bv b)) (hn : b.length = n) (hmx : n ≤ 1000000000) (ha : a ≤ n) :
    Calls Tryz.prog 78 #[.slice A n c, .int .i64 a] w fun e w' => e = .returned (.tuple #[.int .i64 v, .int .i64 ((a + k : Nat) : Int), .bool true]) ∧ w = w' := by
  have := numAt_any A n c b a w hA hn hmx ha
  rw [h] at this
  exact this
theorem numAt_none {A : Option Addr} {n c : Nat} {b : List UInt8} {a : Nat} {w : World} (h : nmE (b.drop a) = none) (hA : Rd w w.heap.size A (bv b)) (hn : b.length = n) (hmx : n ≤ 1000000000) (ha : a ≤ n) :
    Calls Tryz.prog 78 #[.slice A n c, .int .i64 a] w fun e w' => e = .returned (.tuple #[.int .i64 0, .int .i64 a, .bool false]) ∧ w = w' := by
  have := numAt_any A n c b a w hA hn hmx ha
  rw [h] at this
  exact this
theorem numAt0_some {A : Option Addr} {n c : Nat} {b : List UInt8} {v k : Nat} {w : World} (h : nmE b = some (v, k)) (hA : Rd w w.heap.size A (bv b)) (hn : b.length = n) (hmx : n ≤ 1000000000) :
    Calls Tryz.prog 78 #[.slice A n c, .int .i64 0] w fun e w' => e = .returned (.tuple #[.int .i64 v, .int .i64 k, .bool true]) ∧ w = w' := by
  have := numAt_some (A := A) (c := c) (a := 0) (show nmE (b.drop 0) = some (v, k) from h) hA hn hmx (Nat.zero_le _)
  rw [Nat.zero_add] at this
  exact this
theorem numAt0_none {A : Option Addr} {n c : Nat} {b : List UInt8} {w : World} (h : nmE b = none) (hA : Rd w w.heap.size A (bv b)) (hn : b.length = n) (hmx : n ≤ 1000000000) :
    Calls Tryz.prog 78 #[.slice A n c, .int .i64 0] w fun e w' => e = .returned (.tuple #[.int .i64 0, .int .i64 0, .bool false]) ∧ w = w' :=
  numAt_none (A := A) (c := c) (a := 0) (show nmE (b.drop 0) = none from h) hA hn hmx (Nat.zero_le _)
def keepW (b : List UInt8) : Option (List Tok) → Option (List Tok)
  | none => none
  | some ts => if writeR ts = some b then some ts else none
theorem readR_eq (b : List UInt8) : readR b = keepW b (parseR b) := by
  unfold readR
  cases parseR b <;> rfl
def bigK (k : Tok) : Prop := k.lit.length ≤ 1000000000 ∧ k.dist ≤ 1000000000 ∧ k.len ≤ 1000000000
/-- What the loop of the document's Read keeps. -/
structure RrL (w wr : World) (L a : Nat) (v : Value) (ts : List Tok) : Prop where
  to_ : TO wr w.heap.size v ts
  bel : Below w.heap.size w wr
  le : ts.length ≤ a
  al : a ≤ L
  big : ∀ k ∈ ts, bigK k
theorem bigK_push {ts : List Tok} {k : Tok} (h : ∀ k ∈ ts, bigK k) (hk : bigK k) : ∀ j ∈ ts ++ [k], bigK j := fun j hj => by
  rcases List.mem_append.1 hj with hj | hj
  · exact h j hj
  rw [List.mem_singleton.1 hj]; exact hk
set_option maxRecDepth 100000 in
set_option maxHeartbeats 8000000 in
theorem readR_any (A : Option Addr) (L c : Nat) (b : List UInt8) (w : World) (hA : Rd w w.heap.size A (bv b)) (hL : b.length = L) (hmx : L ≤ 1000000000) :
    Calls Tryz.prog 55 #[.slice A L c] w fun e w' => RdA w w' (readR b) e ∧ Below w.heap.size w w' := by
  obtain ⟨i0, hi0, hz0, hs0, hy0⟩ := info_parts info_tok
  obtain ⟨i1, hi1, hz1, hs1, hy1⟩ := info_parts info_u8
  have HA : Hid (∀ W, Below w.heap.size w W → Rd W W.heap.size A (bv b)) := fun W hW => (hA.below hW).mono hW.size
  have HA0 := Lib.hid hA
  have HL := Lib.hid hL
  generalize hR : readR b = R
  generalize hP : parseR b = P
  have HRP : Hid (keepW b P = R) := by show _ = _; rw [← hR, readR_eq, hP]
  have HP := Lib.hid hP
  clear hA hL hR hP
  go_enter Tryz.func55, Tryz.ntmps55
  cases hr0 : nmE b with
  | none =>
    have HE : Hid (R = none) := by show _ = _; rw [← HRP.out, ← HP.out, parseR, hr0]; rfl
    have HN := Lib.hid hr0
    clear hr0
    go_wp2_with (go_at_call 78; refine (numAt0_none HN.out (HA.out _ (Below.refl _ _)) HL.out hmx).mono ?_; rintro e w1 ⟨rfl, rfl⟩)
    go_ret2
    refine ⟨?_, Below.refl _ _⟩
    rw [HE.out]
    exact ⟨20, by decide, rfl⟩
  | some x0 =>
    obtain ⟨v0, k0⟩ := x0
    obtain ⟨hv0, hk0, hkL⟩ := nmE_bound hr0
    rw [HL.out] at hkL
    have HGO : Hid (goR (b.length + 1) (b.drop k0) [] = P) := by show _ = _; rw [← HP.out, parseR, hr0]
    have HN := Lib.hid hr0
    clear hr0
    go_wp2_with (go_at_call 78; refine (numAt0_some HN.out (HA.out _ (Below.refl _ _)) HL.out hmx).mono ?_; rintro e w1 ⟨rfl, rfl⟩)
    go_loopw [5, 7] (fun s u wr => ∃ (a f : Nat) (ts : List Tok), s = .int .i64 a ∧ RrL w wr L a u ts ∧ goR f (b.drop a) ts = P ∧ L - a < f) (fun s _ _ => L - (intOf s).toNat)
    case atStart =>
      exact ⟨k0, b.length + 1, [], rfl, ⟨TO.nil _ _, Below.refl _ _, Nat.zero_le _, hkL, fun k hk => by cases hk⟩, HGO.out, by rw [HL.out]; omega⟩
    case round =>
      obtain ⟨a, f, ts, rfl, hk, hgo, hf⟩ := hrel
      obtain ⟨vb, vc, rfl⟩ := hk.to_.slice
      have haL := hk.al
      have htl := hk.le
      have hbs := hk.bel.size
      have hvl : Hid (∀ j, (Value.slice vb ts.length vc).ownBlock = some j → j < wr.heap.size) := by
        obtain ⟨ms, _, h2, _⟩ := hk.to_
        exact fun j e => (h2.lt j e).2
      have HK := Lib.hid hk
      clear hk
      obtain ⟨f, rfl⟩ : ∃ g, f = g + 1 := ⟨f - 1, by omega⟩
      by_cases hal : a < L
      · have hne : b.drop a ≠ [] := fun e => by
          have := congrArg List.length e
          simp only [List.length_drop, List.length_nil] at this
          rw [HL.out] at this; omega
        rw [goR, if_neg hne] at hgo
        cases hr1 : nmE (b.drop a) with
        | none =>
          rw [hr1] at hgo
          have HE : Hid (R = none) := by show _ = _; rw [← HRP.out, ← hgo]; rfl
          have HN1 := Lib.hid hr1
          clear hgo hr1 hne
          go_wp2_with (first
            | (go_at_call 78
               refine (numAt_none HN1.out (HA.out _ HK.out.bel) HL.out hmx haL).mono ?_
               rintro e w2 ⟨rfl, rfl⟩))
          go_ret2
          refine ⟨?_, HK.out.bel⟩
          rw [HE.out]
          exact ⟨20, by decide, rfl⟩
        | some y =>
          obtain ⟨h, k⟩ := y
          obtain ⟨hh2, hk0', hkL'⟩ := nmE_bound hr1
          rw [hr1] at hgo
          simp only at hgo
          rw [List.length_drop, HL.out] at hkL'
          have HN1 := Lib.hid hr1
          have haL2 : a + k ≤ L := by omega
          have e0 : ((a + k : Nat) : Int) = (a : Int) + k := by omega
          clear hr1 hne
          obtain ⟨z, hz⟩ : ∃ z, h / 2 = z := ⟨_, rfl⟩
          rw [hz] at hgo
          have e1 : (h : Int) / 2 = z := by omega
          have T1 : True := trivial
          by_cases hev : h % 2 = 0
          · rw [if_pos hev] at hgo
            have e2 : (h : Int) % 2 = 0 := by omega
            by_cases hlong : ((b.drop a).drop k).length < z
            · rw [if_pos hlong] at hgo
              have HE : Hid (R = none) := by show _ = _; rw [← HRP.out, ← hgo]; rfl
              rw [List.length_drop, List.length_drop, HL.out] at hlong
              have g1 : (L : Int) - ((a : Int) + k) < z := by omega
              have g1' : (L : Int) - ((a + k : Nat) : Int) < z := by omega
              clear hgo
              go_wp2_with (first
                | (go_at_call 78
                   have z0 := T1
                   clear z0
                   refine (numAt_some HN1.out (HA.out _ HK.out.bel) HL.out hmx haL).mono ?_
                   rintro e w2 ⟨rfl, rfl⟩
                   have T2 := T1
                   clear T1))
              go_ret2
              refine ⟨?_, HK.out.bel⟩
              rw [HE.out]
              exact ⟨20, by decide, rfl⟩
            rw [if_neg hlong] at hgo
            rw [List.length_drop, List.length_drop, HL.out] at hlong
            have g1 : ¬ (L : Int) - ((a : Int) + k) < z := by omega
            have g1' : ¬ (L : Int) - ((a + k : Nat) : Int) < z := by omega
            simp only [List.drop_drop, ← Nat.add_assoc] at hgo
            have HLL : Hid (((b.drop (a + k)).take z).length = z) := by show _ = _; rw [List.length_take, List.length_drop, HL.out]; omega
            have HGET : Hid (∀ i, i < z → ((b.drop (a + k)).take z)[i]? = b[a + k + i]?) := fun i hi => by rw [List.getElem?_take, if_pos hi, List.getElem?_drop]
            generalize (b.drop (a + k)).take z = lit at *
            have HGN : Hid (goR f (b.drop (a + k + z)) (ts ++ [⟨lit, 0, 0⟩]) = P) := hgo
            clear hgo
            go_wp2_with (first
              | (go_at_call 78
                 have z0 := T1
                 clear z0
                 refine (numAt_some HN1.out (HA.out _ HK.out.bel) HL.out hmx haL).mono ?_
                 rintro e w2 ⟨rfl, rfl⟩
                 have T2 := T1
                 clear T1))
            obtain ⟨wo, hwo⟩ : ∃ wo, wo = wr := ⟨wr, rfl⟩
            subst hwo
            go_loopw [12, 13] (fun u s wz => ∃ i : Nat, i ≤ z ∧ s = .int .i64 i ∧ wz.ownsRow wo.heap.size 5 1 u i (bv (lit.take i)) ∧ Below wo.heap.size wo wz) (fun _ s _ => z - (intOf s).toNat)
            case atStart => exact ⟨0, Nat.zero_le _, rfl, World.ownsRow_nil _ _ _ _, Below.refl _ _⟩
            case round =>
              obtain ⟨i, hi, rfl, hrow, hb⟩ := hrel
              obtain ⟨yb, yc, rfl⟩ := ownsRow_slice hrow
              have hbs2 := hb.size
              have HZ := Lib.hid (And.intro hrow hb)
              clear hrow hb
              by_cases hiz : i < z
              · have g2 : a + k + i < b.length := by rw [HL.out]; omega
                obtain ⟨ad, rfl, had, p0⟩ := HA0.out (a + k + i) (.int .u8 (b[a + k + i]'g2).toNat) (by simp [bv, g2])
                replace p0 := ((HK.out.bel.trans (HZ.out.2.mono hbs)).cell (p := ad.add (a + k + i)) (by rw [add_block]; exact had)).trans p0
                have HTK : Hid (bv (lit.take (i + 1)) = bv (lit.take i) ++ [.int .u8 (b[a + k + i]'g2).toNat]) := by
                  show _ = _
                  have g3 : i < lit.length := by rw [HLL.out]; exact hiz
                  have g4 := HGET.out i hiz
                  rw [List.getElem?_eq_getElem g3, List.getElem?_eq_getElem g2] at g4
                  rw [List.take_succ_eq_append_getElem g3, bv_app, Option.some.inj g4]
                  rfl
                generalize (b[a + k + i]'g2).toNat = y at p0 HTK
                have f1 : ((a : Int) + k + i).toNat = a + k + i := by omega
                have f2 : (((a + k : Nat) : Int) + i).toNat = a + k + i := by omega
                go_wp2_with (first
                  | (at_builtin
                     refine wpList_app _ rfl (.tmp 56) (.tmp 63) _ rfl wo.heap.size 5 i1 _ 1 1 Tryz.underlying22 hi1 hz1 hs1 hy1 rfl (by omega) (.slice yb i yc) i _ rfl (HZ.out.1.alloc _) _ _ 1 1 _ rfl rfl (rd_new _ _ _) (by simp [Value.oneCell']) (by unfold maxLen; omega) (by omega) (by simp <;> omega) ?_
                     intro v4 w4 hown hg _
                     have hb4 := (HZ.out.2.alloc hbs2 (.cells #[.int .u8 (y : Nat)] 5)).grown hg (by simp <;> omega) (fun j e => (HZ.out.1.lt j e).1)
                     have H4 := Lib.hid (And.intro hown hb4)
                     clear hown hg hb4))
                go_roundw
                case rel => exact ⟨i + 1, by omega, by go_num, by rw [HTK.out]; exact H4.out.1, H4.out.2⟩
                case measure => simp [intOf]; omega
              obtain rfl : i = z := by omega
              have HTK : Hid (lit.take i = lit) := List.take_of_length_le (by rw [HLL.out]; exact Nat.le_refl _)
              go_wp2_with (first
                | (at_builtin
                   obtain ⟨ms, hm1, hm2, hm3⟩ := (HK.out.to_.below HZ.out.2).below ((Below.refl wr.heap.size wr).alloc (Nat.le_refl _) (.cells #[.slice yb i yc, .int .i64 0, .int .i64 0] 112))
                   refine wpList_app _ rfl (.tmp 65) (.tmp 68) _ rfl w.heap.size 112 i0 _ 3 40 Tryz.underlying96 hi0 hz0 hs0 hy0 rfl (by omega) (.slice vb ts.length vc) ts.length (ms.flatMap tmc) rfl hm2 _ _ 1 1 _ rfl rfl (rd_newB wr rfl _ _) (by simp [Value.oneCell']) (by unfold maxLen; omega) (by omega) (by simp <;> omega) ?_
                   intro v7 w7 hown hg hvv
                   obtain ⟨b7, c7, rfl⟩ := ownsRow_slice hown
                   have hb7 : Below w.heap.size w w7 := ((HK.out.bel.trans (HZ.out.2.mono hbs)).alloc (by omega) (.cells #[.slice yb i yc, .int .i64 0, .int .i64 0] 112)).grown hg (by simp <;> omega) (fun j e => (hm2.lt j e).1)
                   have hto : TO w7 w.heap.size (.slice b7 (ts.length + 1) c7) (ts ++ [⟨lit, 0, 0⟩]) := by
                     have := TO.push hm2 hm3 ⟨yb, yc, ⟨lit, 0, 0⟩⟩ ⟨by have h := ownsRow_rd (ownsRow_below HZ.out.1 ((Below.refl wr.heap.size wr).alloc (Nat.le_refl _) (.cells #[.slice yb i yc, .int .i64 0, .int .i64 0] 112))); rw [HTK.out] at h; exact h, fun ad' e => by
                       obtain ⟨q1, q2⟩ := HZ.out.1.lt ad'.block (by simp [Value.ownBlock, show yb = some ad' from e])
                       refine ⟨by omega, by simp; omega, fun e2 => ?_⟩
                       have := hvl.out _ e2.symm
                       omega⟩ (by have := congrArg List.length hm1; simp at this; omega) (by rw [show tmc ⟨yb, yc, ⟨lit, 0, 0⟩⟩ = [.slice yb i yc, .int .i64 0, .int .i64 0] by simp only [tmc, HLL.out]; rfl]; exact hown) hg hvv
                     rw [hm1] at this
                     exact this
                   have H7 := Lib.hid (And.intro hto hb7)
                   clear hm1 hm2 hm3 hown hg hvv hb7 hto))
              go_roundw
              case rel =>
                refine ⟨a + k + i, f, ts ++ [⟨lit, 0, 0⟩], by go_num, ⟨by simpa using H7.out.1, H7.out.2, by simp; omega, by omega, bigK_push HK.out.big ⟨by show lit.length ≤ _; rw [HLL.out]; omega, by simp, by simp⟩⟩, HGN.out, by omega⟩
              case measure => simp [intOf]; omega
          rw [if_neg hev] at hgo
          have e2 : (h : Int) % 2 = 1 := by omega
          rw [List.drop_drop] at hgo
          cases hr2 : nmE (b.drop (a + k)) with
          | none =>
            rw [hr2] at hgo
            have HE : Hid (R = none) := by show _ = _; rw [← HRP.out, ← hgo]; rfl
            have HN2 := Lib.hid hr2
            clear hgo hr2
            go_wp2_with (first
              | (go_at_call 78
                 have z0 := T1
                 clear z0
                 refine (numAt_some HN1.out (HA.out _ HK.out.bel) HL.out hmx haL).mono ?_
                 rintro e w2 ⟨rfl, rfl⟩
                 have T2 := T1
                 clear T1)
              | (go_at_call 78
                 have z0 := T2
                 clear z0
                 refine (numAt_none HN2.out (HA.out _ HK.out.bel) HL.out hmx haL2).mono ?_
                 rintro e w3 ⟨rfl, rfl⟩
                 clear T2))
            go_ret2
            refine ⟨?_, HK.out.bel⟩
            rw [HE.out]
            exact ⟨20, by decide, rfl⟩
          | some y2 =>
            obtain ⟨d, k2⟩ := y2
            obtain ⟨hd2, hk2', hkL2⟩ := nmE_bound hr2
            rw [hr2] at hgo
            simp only [List.drop_drop] at hgo
            rw [List.length_drop, HL.out] at hkL2
            have HN2 := Lib.hid hr2
            have HGN : Hid (goR f (b.drop (a + k + k2)) (ts ++ [⟨[], d, z⟩]) = P) := by show _ = _; rw [← hgo]
            have e3 : ((a + k + k2 : Nat) : Int) = (a : Int) + k + k2 := by omega
            clear hgo hr2
            go_wp2_with (first
              | (go_at_call 78
                 have z0 := T1
                 clear z0
                 refine (numAt_some HN1.out (HA.out _ HK.out.bel) HL.out hmx haL).mono ?_
                 rintro e w2 ⟨rfl, rfl⟩
                 have T2 := T1
                 clear T1)
              | (go_at_call 78
                 have z0 := T2
                 clear z0
                 refine (numAt_some HN2.out (HA.out _ HK.out.bel) HL.out hmx haL2).mono ?_
                 rintro e w3 ⟨rfl, rfl⟩
                 clear T2)
              | (at_builtin
                 obtain ⟨ms, hm1, hm2, hm3⟩ := HK.out.to_.below ((Below.refl wr.heap.size wr).alloc (Nat.le_refl _) (.cells #[.slice none 0 0, .int .i64 (d : Nat), .int .i64 (z : Nat)] 112))
                 refine wpList_app _ rfl (.tmp 82) (.tmp 87) _ rfl w.heap.size 112 i0 _ 3 40 Tryz.underlying96 hi0 hz0 hs0 hy0 rfl (by omega) (.slice vb ts.length vc) ts.length (ms.flatMap tmc) rfl hm2 _ _ 1 1 _ rfl rfl (rd_newB wr rfl _ _) (by simp [Value.oneCell']) (by unfold maxLen; omega) (by omega) (by simp <;> omega) ?_
                 intro v7 w7 hown hg hvv
                 obtain ⟨b7, c7, rfl⟩ := ownsRow_slice hown
                 have hb7 : Below w.heap.size w w7 := (HK.out.bel.alloc hbs (.cells #[.slice none 0 0, .int .i64 (d : Nat), .int .i64 (z : Nat)] 112)).grown hg (by simp <;> omega) (fun j e => (hm2.lt j e).1)
                 have hto : TO w7 w.heap.size (.slice b7 (ts.length + 1) c7) (ts ++ [⟨[], d, z⟩]) := by
                   have := TO.push hm2 hm3 ⟨none, 0, ⟨[], d, z⟩⟩ ⟨Rd.nil _ _ _, fun ad e => by cases e⟩ (by have := congrArg List.length hm1; simp at this; omega) (hown) hg hvv
                   rw [hm1] at this
                   exact this
                 have H7 := Lib.hid (And.intro hto hb7)
                 clear hm1 hm2 hm3 hown hg hvv hb7 hto))
            go_roundw
            case rel =>
              refine ⟨a + k + k2, f, ts ++ [⟨[], d, z⟩], by go_num, ⟨by simpa using H7.out.1, H7.out.2, by simp; omega, by omega, bigK_push HK.out.big ⟨by simp, by show d ≤ _; omega, by show z ≤ _; omega⟩⟩, HGN.out, by omega⟩
            case measure => simp [intOf]; omega
      have hdr : b.drop a = [] := List.drop_eq_nil_of_le (by rw [HL.out]; omega)
      rw [hdr, goR, if_pos rfl] at hgo
      have HRT : Hid ((if writeR ts = some b then some ts else none) = R) := by show _ = _; rw [← HRP.out, ← hgo]; rfl
      clear hgo hdr
      have hmts : ts.length ≤ 1000000000 := by omega
      have HW := Lib.hid (writeR_any vb ts.length vc ts wr (HK.out.to_.row rfl) rfl hmts HK.out.big)
      cases hw : writeR ts with
      | none =>
        have HE : Hid (R = none) := by show _ = _; rw [← HRT.out, hw, if_neg (by simp)]
        rw [hw] at HW
        clear hw
        go_wp2_with (first
          | (go_at_call 79
             refine HW.out.mono ?_
             rintro e w5 ⟨⟨er, her, rfl⟩, hb5⟩
             have her' : (er == 0) = false := by simpa using her
             have her2 : decide (er = 0) = false := decide_eq_false her
             have H5 := Lib.hid hb5
             clear hb5))
        go_ret2
        refine ⟨?_, HK.out.bel.trans (H5.out.mono hbs)⟩
        rw [HE.out]
        exact ⟨20, by decide, rfl⟩
      | some y =>
        rw [hw] at HW
        have hyl : y.length ≤ 1000000000 := by
          unfold writeR at hw
          cases hx : expandL ts [] with
          | none => rw [hx] at hw; cases hw
          | some x =>
            rw [hx] at hw
            cases hw
            obtain ⟨h1, h2⟩ := expandL_small ts [] x hx
            have h3 := expandL_le ts [] x (by simp) hx
            simp only [List.length_nil, Nat.add_zero] at h2
            exact blockB_le _ _ h1 (by omega)
        obtain ⟨q, hq⟩ : ∃ q, y.length = q := ⟨_, rfl⟩
        rw [hq] at hyl
        have Hq := Lib.hid hq
        clear hq
        by_cases hyb : y = b
        · have HE : Hid (R = some ts) := by show _ = _; rw [← HRT.out, hw, hyb, if_pos rfl]
          have HD : Hid (decide (y = b) = true) := decide_eq_true hyb
          clear hw hyb
          go_wp2_with (first
            | (go_at_call 79
               refine HW.out.mono ?_
               rintro e w5 ⟨⟨b5, c5, rfl, ho5⟩, hb5⟩
               rw [Hq.out] at ho5 ⊢
               have H5 := Lib.hid (And.intro ho5 hb5)
               clear ho5 hb5)
            | (go_at_call 58
               refine (same2_any b5 A q c5 L c y b _ (ownsRow_rd H5.out.1) Hq.out (HA.out _ (HK.out.bel.trans (H5.out.2.mono hbs))) HL.out (by omega) hmx).mono ?_
               rintro e w6 ⟨rfl, x6, rfl⟩
               rw [HD.out]))
          go_ret2
          refine ⟨?_, HK.out.bel.trans (below_drewN (H5.out.2.mono hbs) _)⟩
          rw [HE.out]
          exact ⟨vb, vc, rfl, HK.out.to_.below (below_drewN H5.out.2 _)⟩
        have HE : Hid (R = none) := by show _ = _; rw [← HRT.out, hw, if_neg (fun e => hyb (Option.some.inj e))]
        have HD : Hid (decide (y = b) = false) := decide_eq_false hyb
        clear hw hyb
        go_wp2_with (first
          | (go_at_call 79
             refine HW.out.mono ?_
             rintro e w5 ⟨⟨b5, c5, rfl, ho5⟩, hb5⟩
             rw [Hq.out] at ho5 ⊢
             have H5 := Lib.hid (And.intro ho5 hb5)
             clear ho5 hb5)
          | (go_at_call 58
             refine (same2_any b5 A q c5 L c y b _ (ownsRow_rd H5.out.1) Hq.out (HA.out _ (HK.out.bel.trans (H5.out.2.mono hbs))) HL.out (by omega) hmx).mono ?_
             rintro e w6 ⟨rfl, x6, rfl⟩
             rw [HD.out]))
        go_ret2
        refine ⟨?_, HK.out.bel.trans (below_drewN (H5.out.2.mono hbs) _)⟩
        rw [HE.out]
        exact ⟨20, by decide, rfl⟩
theorem readR_small {b : List UInt8} {ts : List Tok} (h : readR b = some ts) : (∀ k ∈ ts, smallK k) ∧ ts.length ≤ 4096 := by
  unfold readR at h
  split at h
  · cases h
  rename_i ts' hts
  split at h
  · rename_i hw
    cases h
    unfold writeR at hw
    cases hx : expandL ts [] with
    | none => rw [hx] at hw; cases hw
    | some x =>
      obtain ⟨h1, h2⟩ := expandL_small ts [] x hx
      have h3 := expandL_le ts [] x (by simp) hx
      simp only [List.length_nil, Nat.add_zero] at h2
      exact ⟨h1, by omega⟩
  cases h
set_option maxRecDepth 100000 in
set_option maxHeartbeats 4000000 in
theorem decodeR_any (A : Option Addr) (L c : Nat) (b : List UInt8) (w : World) (hA : Rd w w.heap.size A (bv b)) (hL : b.length = L) (hmx : L ≤ 1000000000) :
    Calls Tryz.prog 42 #[.slice A L c] w fun e w' => DcA w w' (decR b) e ∧ Below w.heap.size w w' := by
  have HRD := Lib.hid (readR_any A L c b w hA hL hmx)
  have HA := Lib.hid hA
  have HL := Lib.hid hL
  clear hA hL
  generalize hR : decR b = R
  cases hrp : readR b with
  | none =>
    have HE : Hid (R = none) := by show _ = _; rw [← hR, decR, hrp]
    rw [hrp] at HRD
    clear hR hrp
    go_enter Tryz.func42, Tryz.ntmps42
    go_wp2_with (go_at_call 55
                 refine HRD.out.mono ?_
                 rintro e w1 ⟨⟨er, her, rfl⟩, hb1⟩
                 have her' : (er == 0) = false := by simpa using her
                 have H1 := Lib.hid (And.intro her hb1)
                 clear her hb1)
    go_ret2
    refine ⟨?_, H1.out.2⟩
    rw [HE.out]
    exact ⟨er, H1.out.1, rfl⟩
  | some ts =>
    have hsm := readR_small hrp
    rw [hrp] at HRD
    obtain ⟨m, hm⟩ : ∃ m, ts.length = m := ⟨_, rfl⟩
    have HR0 : Hid ((if enc (textP ts) = b then some (textP ts) else none) = R) := by show _ = _; rw [← hR, decR, hrp]
    have hx4 := textP_le ts
    obtain ⟨x, hx⟩ : ∃ x, textP ts = x := ⟨_, rfl⟩
    rw [hx] at HR0 hx4
    obtain ⟨q, hq⟩ : ∃ q, x.length = q := ⟨_, rfl⟩
    rw [hq] at hx4
    have Hq := Lib.hid hq
    have Hm := Lib.hid hm
    have Hsm := Lib.hid hsm
    have HXT : Hid (∀ (w w' : World) (e : Ending), ExA w w' (expandL ts []) e → ∃ vb c er, e = .returned (.tuple #[.slice vb q c, .int .i64 er]) ∧ w'.ownsRow w.heap.size 5 1 (.slice vb q c) q (bv x)) := by
      intro w w' e h
      cases he : expandL ts [] with
      | none =>
        rw [he] at h
        obtain ⟨er, _, rfl⟩ := h
        have hx0 : x = [] := by rw [← hx]; unfold textP; rw [he]; rfl
        subst hx0
        subst hq
        exact ⟨none, 0, er, rfl, World.ownsRow_nil _ _ _ _⟩
      | some y =>
        rw [he] at h
        obtain ⟨vb, c, rfl, ho⟩ := h
        have hx0 : x = y := by rw [← hx]; unfold textP; rw [he]; rfl
        subst hx0
        subst hq
        exact ⟨vb, c, 0, rfl, ho⟩
    clear hR hrp hsm hm hx hq
    have hm9 : m ≤ 4096 := by have := Hsm.out.2; rw [Hm.out] at this; exact this
    go_enter Tryz.func42, Tryz.ntmps42
    by_cases heq : enc x = b
    · have HE : Hid (R = some x) := by show _ = _; rw [← HR0.out, if_pos heq]
      have HD : Hid (decide (enc x = b) = true) := decide_eq_true heq
      clear heq
      go_wp2_with (first
        | (go_at_call 55
           refine HRD.out.mono ?_
           rintro e w1 ⟨⟨vb1, c1, rfl, hto⟩, hb1⟩
           rw [Hm.out] at hto ⊢
           have H1 := Lib.hid (And.intro hto hb1)
           clear hto hb1)
        | (go_at_call 56
           refine (expandR_any vb1 m c1 ts _ (H1.out.1.row Hm.out) Hm.out (by omega) (fun k hk => (Hsm.out.1 k hk).le)).mono ?_
           rintro e w2 ⟨hx, hb2⟩
           obtain ⟨vb2, c2, er2, rfl, ho2⟩ := HXT.out _ _ _ hx
           have hc2 := ownsRow_cap ho2
           have H2 := Lib.hid (And.intro (ownsRow_le ho2 H1.out.2.size) (H1.out.2.trans (hb2.mono H1.out.2.size)))
           clear hx ho2 hb2)
        | (go_at_call 57
           refine (encodeR_any vb2 q c2 x _ (ownsRow_rd H2.out.1) Hq.out hx4).mono ?_
           rintro e w3 ⟨vb3, c3, rfl, ho3, hb3⟩
           have H3 := Lib.hid ho3
           have H4 := Lib.hid (And.intro (ownsRow_below H2.out.1 hb3) (H2.out.2.trans (hb3.mono H2.out.2.size)))
           clear ho3 hb3)
        | (go_at_call 58
           refine (same2_any vb3 A _ c3 L c (enc x) b _ (ownsRow_rd H3.out) rfl ((HA.out.below H4.out.2).mono H4.out.2.size) HL.out (enc_le x (by rw [Hq.out]; exact hx4)) hmx).mono ?_
           rintro e w4 ⟨rfl, x4, rfl⟩
           rw [HD.out]))
      go_ret2
      refine ⟨?_, below_drewN H4.out.2 _⟩
      rw [HE.out]
      refine ⟨vb2, c2, by rw [Hq.out]; rfl, ?_⟩
      rw [Hq.out]
      exact H4.out.1
    have HE : Hid (R = none) := by show _ = _; rw [← HR0.out, if_neg heq]
    have HD : Hid (decide (enc x = b) = false) := decide_eq_false heq
    clear heq
    go_wp2_with (first
      | (go_at_call 55
         refine HRD.out.mono ?_
         rintro e w1 ⟨⟨vb1, c1, rfl, hto⟩, hb1⟩
         rw [Hm.out] at hto ⊢
         have H1 := Lib.hid (And.intro hto hb1)
         clear hto hb1)
      | (go_at_call 56
         refine (expandR_any vb1 m c1 ts _ (H1.out.1.row Hm.out) Hm.out (by omega) (fun k hk => (Hsm.out.1 k hk).le)).mono ?_
         rintro e w2 ⟨hx, hb2⟩
         obtain ⟨vb2, c2, er2, rfl, ho2⟩ := HXT.out _ _ _ hx
         have hc2 := ownsRow_cap ho2
         have H2 := Lib.hid (And.intro (ownsRow_le ho2 H1.out.2.size) (H1.out.2.trans (hb2.mono H1.out.2.size)))
         clear hx ho2 hb2)
      | (go_at_call 57
         refine (encodeR_any vb2 q c2 x _ (ownsRow_rd H2.out.1) Hq.out hx4).mono ?_
         rintro e w3 ⟨vb3, c3, rfl, ho3, hb3⟩
         have H3 := Lib.hid ho3
         have H4 := Lib.hid (And.intro (ownsRow_below H2.out.1 hb3) (H2.out.2.trans (hb3.mono H2.out.2.size)))
         clear ho3 hb3)
      | (go_at_call 58
         refine (same2_any vb3 A _ c3 L c (enc x) b _ (ownsRow_rd H3.out) rfl ((HA.out.below H4.out.2).mono H4.out.2.size) HL.out (enc_le x (by rw [Hq.out]; exact hx4)) hmx).mono ?_
         rintro e w4 ⟨rfl, x4, rfl⟩
         rw [HD.out]))
    go_ret2
    refine ⟨?_, below_drewN H4.out.2 _⟩
    rw [HE.out]
    exact ⟨20, by decide, rfl⟩
end Go.Proofs.YtmhlgbpgdhhfnaaGreat
