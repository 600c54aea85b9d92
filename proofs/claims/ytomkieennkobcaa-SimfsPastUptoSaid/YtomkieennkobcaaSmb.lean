import Derived.Test.YtomkieennkobcaaRows
import Derived.Test.YtomkieennkobcaaMem
/- Words: bytes as cells, rows of the call's own. -/
namespace Go.Proofs.Ytomkieennkobcaa
open Go.RowKit Go.Maps

theorem info_u8 : (Try.prog.info? 5).map (fun i => (i.zero, i.size, i.bytes)) = some (some (.int .u8 0), 1, 1) := by kernel_rfl
/-- Bytes as cells. -/
def bv (l : List UInt8) : List Value := l.map fun c => .int .u8 c.toNat
theorem bv_len (l : List UInt8) : (bv l).length = l.length := by simp [bv]
theorem bv_app (a b : List UInt8) : bv (a ++ b) = bv a ++ bv b := by simp [bv]
theorem bv_take (l : List UInt8) (n : Nat) : bv (l.take n) = (bv l).take n := by simp [bv, List.map_take]
theorem bv_drop (l : List UInt8) (n : Nat) : bv (l.drop n) = (bv l).drop n := by simp [bv, List.map_drop]
theorem bv_get {l : List UInt8} {k : Nat} (h : k < l.length) : (bv l)[k]? = some (.int .u8 l[k].toNat) := by simp [bv, h]
theorem bv_inj {a b : List UInt8} (h : bv a = bv b) : a = b := by
  induction a generalizing b with
  | nil => cases b with
    | nil => rfl
    | cons y b => simp [bv] at h
  | cons x a ih => cases b with
    | nil => simp [bv] at h
    | cons y b =>
      simp only [bv, List.map_cons, List.cons.injEq, Value.int.injEq, true_and] at h
      have h1 : x = y := UInt8.toNat_inj.1 (by omega)
      rw [h1, ih h.2]
theorem one_bv (l : List UInt8) : ∀ u ∈ bv l, u.oneCell' = true := by
  intro u hu; obtain ⟨x, _, rfl⟩ := List.mem_map.1 hu; rfl
theorem nil_own (w : World) (B : Nat) (t : TypeId) (size : Nat) : w.ownsRow B t size (.slice none 0 0) 0 [] := World.ownsRow_nil w B t size
theorem below_drew {B : Nat} {a w : World} (h : Below B a w) : Below B a w.drew := ⟨h.os, h.tape, h.output, h.size, h.block⟩
theorem Below.al (W : World) (o : Obj) : Below W.heap.size W (W.alloc o) := (Below.refl _ _).alloc (Nat.le_refl _) o
theorem bel_next {w W W' : World} (h : Below w.heap.size w W) (hb : Below W.heap.size W W') : Below w.heap.size w W' := h.trans (hb.mono h.size)
theorem Box.next {W W' : World} {bl : Nat} {t : TypeId} {ar : Array Value} (h : Box W bl t ar) (hb : Below W.heap.size W W') : Box W' bl t ar := h.below hb h.lt
theorem Own.next {W W' : World} {B g : Nat} {t : TypeId} {cs : List Value} (h : Own W B g t cs) (hb : Below W.heap.size W W') : Own W' B g t cs := h.below hb h.lt
theorem Rd.next {W W' : World} {A : Option Addr} {xs : List Value} (h : Rd W W.heap.size A xs) (hb : Below W.heap.size W W') : Rd W' W'.heap.size A xs := (h.below hb).mono hb.size

section
variable {w w' : World} {base size n c : Nat} {e : TypeId} {v : Value} {b : Option Addr} {xs : List Value}
theorem row_slice (h : w.ownsRow base e size v n xs) : ∃ b cap, v = .slice b n cap := by
  rcases h.2 with ⟨rfl, e⟩ | ⟨g, cap, _, rfl, _⟩
  · exact ⟨none, 0, by rw [e]⟩
  · exact ⟨_, _, rfl⟩
theorem row_rd (h : w.ownsRow base e size (.slice b n c) n xs) : Rd w w.heap.size b xs := by
  intro j u hj
  rcases h.2 with ⟨hv, hn⟩ | ⟨g, c, cur, hv, _⟩
  · have := h.1
    have := (List.getElem?_eq_some_iff.1 hj).1
    subst hn; omega
  · injection hv with hv
    subst hv
    refine ⟨_, rfl, ?_, h.cells (g := g) rfl j u hj⟩
    exact (h.lt g rfl).2
theorem row_block (h : w.ownsRow base e size v n xs) (hb : ∀ k, v.ownBlock = some k → w'.heap[k]? = w.heap[k]?) : w'.ownsRow base e size v n xs := by
  refine ⟨h.1, ?_⟩
  rcases h.2 with h2 | ⟨g, cap, cur, hv, hg, hh, r⟩
  · exact .inl h2
  · exact .inr ⟨g, cap, cur, hv, hg, by rw [hb g (by rw [hv]; rfl)]; exact hh, r⟩
theorem row_next (h : w.ownsRow base e size v n xs) (hb : Below w.heap.size w w') : w'.ownsRow base e size v n xs := row_block h fun k hk => hb.block k (h.lt k hk).2
theorem row_cap (h : w.ownsRow base e size (.slice b n c) n xs) : n ≤ c := by
  rcases h.2 with ⟨hv, h0⟩ | ⟨g, c', cur, hv, _, _, hnc, _⟩
  · omega
  · injection hv with _ _ e2
    omega
theorem row_le {base' : Nat} (h : w.ownsRow base e size v n xs) (hb : base' ≤ base) : w.ownsRow base' e size v n xs := by
  refine ⟨h.1, ?_⟩
  rcases h.2 with h | ⟨g, c, cur, hv, h1, h2⟩
  · exact .inl h
  · exact .inr ⟨g, c, cur, hv, Nat.le_trans hb h1, h2⟩
theorem row_far (h : w.ownsRow base e size v n xs) {p : Addr} (hv : ∀ k, v.ownBlock = some k → k ≠ p.block) (u : Value) : (w.setCell p u).ownsRow base e size v n xs :=
  row_block h fun k hk => Below.heap_setCell w p u k (hv k hk)
theorem row_put {g cap i : Nat} (h : w.ownsRow base e size (.slice (some ⟨g, 0, none⟩) n cap) n xs) (u : Value) : (w.setCell ⟨g, i, none⟩ u).ownsRow base e size (.slice (some ⟨g, 0, none⟩) n cap) n (xs.set i u) := by
  obtain ⟨h1, h2⟩ := h
  refine ⟨by simpa using h1, ?_⟩
  rcases h2 with ⟨hv, _⟩ | ⟨g', cap', cur, hv, hg, hh, hnc, hcm, hsz, htk⟩
  · cases hv
  · cases hv
    refine .inr ⟨g, cap, cur.setIfInBounds i u, rfl, hg, Box.set_ (show Box w g e cur from hh) i u, hnc, hcm, by simpa using hsz, ?_⟩
    rw [Array.toList_setIfInBounds, List.take_set, htk]
end
theorem Own.get {w : World} {B g : Nat} {t : TypeId} {cs : List Value} (h : Own w B g t cs) {i : Nat} {u : Value} (hi : cs[i]? = some u) : w.cell? ⟨g, i, none⟩ = some u := by
  have hl := (List.getElem?_eq_some_iff.1 hi).1
  rw [h.cell hl, ← hi, List.getElem?_eq_getElem hl]
theorem Own.rd_pre {w : World} {B g : Nat} {t : TypeId} {xs ts : List Value} (h : Own w B g t (xs ++ ts)) : Rd w w.heap.size (some ⟨g, 0, none⟩) xs :=
  h.rd h.lt fun j u hj => by rw [List.getElem?_append_left (List.getElem?_eq_some_iff.1 hj).1]; exact hj
theorem Own.tail {w : World} {B g : Nat} {t : TypeId} {xs ts : List Value} (h : Own w B g t (xs ++ ts)) {n j : Nat} (hn : xs.length = n) {u : Value} (hu : ts[j]? = some u) : w.cell? ⟨g, n + j, none⟩ = some u :=
  h.get (by rw [List.getElem?_append_right (by omega), hn, Nat.add_sub_cancel_left]; exact hu)
theorem Chg.grown {S : Nat → Prop} {a w w' : World} {row : Option Nat} (h : Chg S a w) (hg : w.grownBy w' row) (hr : ∀ k, row = some k → S k ∨ a.heap.size ≤ k) : Chg S a w' :=
  ⟨hg.os.trans h.os, hg.tape.trans h.tape, hg.output.trans h.output, Nat.le_trans h.size hg.size, fun k hk hn => (hg.block k (Nat.lt_of_lt_of_le hk h.size) fun e => by
    rcases hr k e.symm with h1 | h1
    · exact hn h1
    · omega).trans (h.block k hk hn)⟩
theorem Chg.next {S : Nat → Prop} {a w w' : World} (h : Chg S a w) (hb : Below w.heap.size w w') : Chg S a w' := h.trans (Chg.of_below hb S)

/-- The marks that stand behind bytes that are handed in. -/
def mk8 (k : Nat) : List UInt8 := (List.range k).map fun i => UInt8.ofNat (200 + i)
theorem mk8_len (k : Nat) : (mk8 k).length = k := by simp [mk8]
theorem mk8_succ (k : Nat) : mk8 (k + 1) = mk8 k ++ [UInt8.ofNat (200 + k)] := by simp [mk8, List.range_succ]
theorem mk8_get {k n : Nat} (h : k < n) : (bv (mk8 n))[k]? = some (.int .u8 (UInt8.ofNat (200 + k)).toNat) := by simp [bv, mk8, h]

set_option maxRecDepth 100000 in
set_option maxHeartbeats 4000000 in
theorem roomy_any (A : Option Addr) (n c : Nat) (bs : List UInt8) (w : World) (hA : Rd w w.heap.size A (bv bs)) (hn : bs.length = n) (hmx : n ≤ 140737488351232) :
    Calls Try.prog 53 #[.slice A n c] w fun e w' =>
      ∃ g c', e = .returned (.slice (some ⟨g, 0, none⟩) n c') ∧ n + 8 ≤ c' ∧ c' ≤ maxLen ∧ Own w' w.heap.size g 5 (bv (bs ++ mk8 8)) ∧ Below w.heap.size w w' := by
  obtain ⟨i1, hi1, hz1, hs1, hy1⟩ := info_parts info_u8
  have hb1 : Below w.heap.size w (w.alloc (.cells #[] 5)) := (Below.refl _ _).alloc (Nat.le_refl _) _
  have Hb1 := Lib.hid hb1
  have Hown0 := Lib.hid (own_empty w w.heap.size 5 1 (Nat.le_refl _))
  have Hrd0 := Lib.hid (hA.below hb1)
  have Hn := Lib.hid (show (bv bs).length = n * 1 by simp [bv, hn])
  have HL := Lib.hid hn
  clear hb1 hA hn
  go_enter Try.func53, Try.ntmps53
  go_wp2_with (at_builtin
               refine wpList_app _ rfl (.tmp 5) (.tmp 6) _ rfl w.heap.size 5 i1 _ 1 1 Try.underlying22 hi1 hz1 hs1 hy1 rfl (by omega) (.slice (some ⟨w.heap.size, 0, none⟩) 0 0) 0 [] rfl Hown0.out _ A n c (bv bs) rfl Hn.out Hrd0.out (one_bv _) (by unfold maxLen; omega) (by omega) (by simp <;> omega) ?_
               intro v1 w1 hown1 hg1 _
               rw [Nat.zero_add, List.nil_append] at hown1
               have hb1 := Hb1.out.grown hg1 (by simp <;> omega) (by simp [Value.ownBlock] <;> omega)
               have H1 := Lib.hid (And.intro hown1 hb1)
               clear hown1 hg1 hb1)
  go_loopw [3, 4] (fun v i wr => ∃ k : Nat, k ≤ 8 ∧ i = .int .i64 k ∧ wr.ownsRow w.heap.size 5 1 v (n + k) (bv (bs ++ mk8 k)) ∧ Below w.heap.size w wr) (fun _ i _ => 8 - (intOf i).toNat)
  case atStart => exact ⟨0, Nat.zero_le _, rfl, by simpa [mk8] using H1.out.1, H1.out.2⟩
  case round =>
    obtain ⟨k, hk, rfl, hrow, hb⟩ := hrel
    obtain ⟨rb, rc, rfl⟩ := row_slice hrow
    have HR := Lib.hid (And.intro hrow hb)
    clear hrow hb
    by_cases hlt : k < 8
    · go_wp2_with (at_builtin
                   refine wpList_app _ rfl (.tmp 12) (.tmp 16) _ rfl w.heap.size 5 i1 _ 1 1 Try.underlying22 hi1 hz1 hs1 hy1 rfl (by omega) (.slice rb (n + k) rc) (n + k) _ rfl (HR.out.1.alloc _) _ _ 1 1 _ rfl rfl (rd_new _ _ _) (by simp [Value.oneCell']) (by unfold maxLen; omega) (by omega) (by have := HR.out.2.size; simp <;> omega) ?_
                   intro v2 w2 hown2 hg2 _
                   have hb2 := (HR.out.2.alloc HR.out.2.size (.cells #[.int .u8 (200 + (k : Int))] 5)).grown hg2 (by have := HR.out.2.size; simp <;> omega) (fun j e => (HR.out.1.lt j e).1)
                   have H2 := Lib.hid (And.intro hown2 hb2)
                   clear hown2 hg2 hb2)
      go_roundw
      case rel =>
        refine ⟨k + 1, by omega, by go_num, ?_, H2.out.2⟩
        have e : bv (bs ++ mk8 (k + 1)) = bv (bs ++ mk8 k) ++ [.int .u8 (200 + (k : Int))] := by
          rw [mk8_succ, ← List.append_assoc, bv_app]
          congr 1
          simp [bv]
          omega
        rw [e]
        exact H2.out.1
      case measure => simp [intOf]; omega
    · have hk8 : k = 8 := by omega
      subst hk8
      obtain ⟨g, cap, hv, h1, h2, h3⟩ := Own.of_row HR.out.1 (by omega)
      injection hv with e1 _ e2
      subst e1 e2
      have hq1 : (n : Int) ≤ (rc : Int) := by omega
      have H3 := Lib.hid (And.intro h2 h3)
      clear h2 h3
      go_wp2
      go_ret
      exact ⟨g, rc, rfl, by omega, H3.out.1, H3.out.2, HR.out.2⟩

set_option maxRecDepth 100000 in
set_option maxHeartbeats 4000000 in
/-- Two slices of bytes: are they alike? -/
theorem sameBytes_any (A A' : Option Addr) (n c n' c' : Nat) (a b : List UInt8) (w : World) (hn : a.length = n) (hn' : b.length = n') (hA : Rd w w.heap.size A (bv a)) (hA' : Rd w w.heap.size A' (bv b)) (hmx : n ≤ 140737488351232) (hmx' : n' ≤ 140737488351232) :
    Calls Try.prog 16 #[.slice A n c, .slice A' n' c'] w fun e w' => e = .returned (.bool (decide (a = b))) ∧ ∃ k, w' = w.drewN k := by
  have Hn := Lib.hid (And.intro hn hn')
  have HA := Lib.hid (And.intro hA hA')
  clear hA hA'
  by_cases hnn : n = n'
  · subst hnn
    clear hn hn'
    go_enter Try.func16, Try.ntmps16
    go_wp2
    go_loopw [5] (fun i wr => ∃ (k m : Nat), k ≤ n ∧ i = .int .i64 k ∧ wr = w.drewN m ∧ a.take k = b.take k) (fun i _ => n - (intOf i).toNat)
    case atStart => exact ⟨0, 0, Nat.zero_le _, rfl, rfl, rfl⟩
    case round =>
      obtain ⟨k, m, hk, rfl, rfl, ht⟩ := hrel
      have Ht := Lib.hid ht
      clear ht
      by_cases hlt : k < n
      · have hk0 : (0 : Int) ≤ k := by omega
        have hk1 : (k : Int) < n := by omega
        have hka : k < a.length := by rw [Hn.out.1]; exact hlt
        have hkb : k < b.length := by rw [Hn.out.2]; exact hlt
        obtain ⟨ad, rfl, had, p0⟩ := HA.out.1 _ _ (bv_get hka)
        obtain ⟨ad', rfl, had', q0⟩ := HA.out.2 _ _ (bv_get hkb)
        have HTA := Lib.hid (List.take_succ_eq_append_getElem hka)
        have HTB := Lib.hid (List.take_succ_eq_append_getElem hkb)
        have HNE := Lib.hid (fun (h : a[k] ≠ b[k]) (e : a = b) => h (by subst e; rfl))
        generalize a[k] = x at p0 HTA HNE
        generalize b[k] = y at q0 HTB HNE
        clear hka hkb
        by_cases hxy : x = y
        · subst hxy
          go_wp2
          go_quiet (fail)
          go_wp2
          go_roundw
          case rel => exact ⟨k + 1, _, by omega, by go_num, by first | rfl | exact World.drewN_drewN .., by rw [HTA.out, HTB.out, Ht.out]⟩
          case measure => simp [intOf]; omega
        · have hne : ¬ (x.toNat : Int) = (y.toNat : Int) := fun e => hxy (UInt8.toNat_inj.1 (by omega))
          have HF := Lib.hid (HNE.out hxy)
          clear hxy
          go_wp2
          go_quiet (fail)
          go_wp2
          go_ret
          exact ⟨ret_bool (decide_eq_false HF.out).symm, _, by first | rfl | exact World.drewN_drewN ..⟩
      · go_wp2
        go_ret
        refine ⟨?_, m, rfl⟩
        have hk' : k = n := by omega
        have e : a = b := by
          have := Ht.out
          rwa [List.take_of_length_le (by rw [Hn.out.1]; omega), List.take_of_length_le (by rw [Hn.out.2]; omega)] at this
        exact ret_bool (decide_eq_true e).symm
  · have hne : ¬ (n : Int) = (n' : Int) := by omega
    have HF := Lib.hid (show ¬ a = b from fun e => hnn (by rw [← hn, ← hn', e]))
    clear hnn hn hn'
    go_enter Try.func16, Try.ntmps16
    go_wp2
    go_ret
    exact ⟨ret_bool (decide_eq_false HF.out).symm, 0, rfl⟩
end Go.Proofs.Ytomkieennkobcaa
