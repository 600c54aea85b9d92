import Derived.Test.YtnkhmebmgncjbaaCf1
namespace Go.Proofs.Ytnkhmebmgncjbaa
open Go.RowKit Go.Maps

theorem row_slice {w : World} {base : Nat} {e : TypeId} {size n : Nat} {v : Value} {xs : List Value} (h : w.ownsRow base e size v n xs) : ∃ b c, v = .slice b n c := by
  rcases h.2 with ⟨hv, h0⟩ | ⟨g, c, cur, hv, _⟩
  · exact ⟨none, 0, by rw [hv, h0]⟩
  · exact ⟨some ⟨g, 0, none⟩, c, hv⟩
theorem nil_own (w : World) (B : Nat) (t : TypeId) (size : Nat) : w.ownsRow B t size (.slice none 0 0) 0 [] := World.ownsRow_nil w B t size
theorem ownsRow_rd {w : World} {base : Nat} {e : TypeId} {size n : Nat} {b : Option Addr} {cap : Nat} {xs : List Value} (h : w.ownsRow base e size (.slice b n cap) n xs) : Rd w w.heap.size b xs := by
  rcases h.2 with ⟨hv, h0⟩ | ⟨g, c, cur, hv, _, hb, hnc, _, hsz, hxs⟩
  · have hl : xs.length = 0 := by rw [h.1, h0, Nat.zero_mul]
    have : xs = [] := List.eq_nil_of_length_eq_zero hl
    subst this; exact Rd.nil _ _ _
  · cases hv
    intro j u hj
    refine ⟨_, rfl, (Array.getElem?_eq_some_iff.1 hb).1, ?_⟩
    have hjl : j < n * size := by rw [← h.1]; exact (List.getElem?_eq_some_iff.1 hj).1
    rw [← hxs, List.getElem?_take_of_lt hjl] at hj
    have e : (⟨g, 0, none⟩ : Addr).add j = ⟨g, j, none⟩ := by unfold Addr.add; split <;> simp_all
    rw [e, cell_of_row w g j cur _ _ hb, ← Array.getElem?_toList]
    exact hj
theorem ownsRow_le {w : World} {base base' : Nat} {e : TypeId} {size n : Nat} {v : Value} {xs : List Value} (h : w.ownsRow base e size v n xs) (hb : base' ≤ base) : w.ownsRow base' e size v n xs := by
  refine ⟨h.1, ?_⟩
  rcases h.2 with h | ⟨g, c, cur, hv, h1, h2⟩
  · exact .inl h
  · exact .inr ⟨g, c, cur, hv, Nat.le_trans hb h1, h2⟩
theorem ownsRow_block {w w' : World} {base : Nat} {e : TypeId} {size n : Nat} {v : Value} {xs : List Value} (h : w.ownsRow base e size v n xs) (hb : ∀ k, v.ownBlock = some k → w'.heap[k]? = w.heap[k]?) : w'.ownsRow base e size v n xs := by
  refine ⟨h.1, ?_⟩
  rcases h.2 with h | ⟨g, c, cur, hv, h1, h2, h3⟩
  · exact .inl h
  · exact .inr ⟨g, c, cur, hv, h1, (hb g (by rw [hv]; rfl)).trans h2, h3⟩
theorem key_ne {a b : ByteArray} (h : ¬ a = b) : (a.toList == b.toList) = false := by
  rw [beq_eq_false_iff_ne]
  intro e
  rw [ByteArray.toList_eq, ByteArray.toList_eq] at e
  exact h (WideShapes.bytes_inj e)
theorem info_pa : (Try.prog.info? 29).map (fun i => (i.zero, i.size, i.bytes)) = some (some (.agg #[.string ByteArray.empty, .string ByteArray.empty, .int .i64 0, .int .i64 0]), 4, 48) := by kernel_rfl
theorem info_rc : (Try.prog.info? 31).map (fun i => (i.zero, i.size, i.bytes)) = some (some (.agg #[.int .i64 0, .int .i64 0, .int .i64 0, .int .i64 0, .int .i64 0, .string ByteArray.empty, .string ByteArray.empty]), 7, 72) := by kernel_rfl
theorem one_p4 (p : PA) : ∀ u ∈ p4 p, u.oneCell' = true := by
  intro u hu
  simp [p4] at hu
  rcases hu with rfl | rfl | rfl | rfl <;> rfl
def KeysP (l : List PA) : Prop := ∀ q ∈ l, q.key.size ≤ maxLen
/-- A row of pairs of the call's own, at v. -/
def PRow (w W : World) (v : Value) (l : List PA) : Prop := W.ownsRow w.heap.size 29 4 v l.length (l.flatMap p4) ∧ Below w.heap.size w W
section
variable {w W W' : World} {v : Value} {l : List PA}
theorem PRow.next (h : PRow w W v l) (hb : Below W.heap.size W W') : PRow w W' v l :=
  ⟨ownsRow_block h.1 fun k hk => hb.block k (h.1.lt k hk).2, h.2.trans (hb.mono h.2.size)⟩
theorem PRow.nil (w : World) : PRow w w (.slice none 0 0) [] := ⟨nil_own _ _ _ _, Below.refl _ _⟩
theorem PRow.drewN (h : PRow w W v l) (n : Nat) : PRow w (W.drewN n) v l := h.next (below_drewN (Below.refl _ _) n)
theorem PRow.slice (h : PRow w W v l) : ∃ b c, v = .slice b l.length c ∧ Rd W W.heap.size b (l.flatMap p4) := by
  obtain ⟨b, c, rfl⟩ := row_slice h.1
  exact ⟨b, c, rfl, ownsRow_rd h.1⟩
theorem PRow.grow {v' : Value} {p : PA} (h : PRow w W v l) (hown : W'.ownsRow w.heap.size 29 4 v' (l.length + 1) (l.flatMap p4 ++ p4 p)) (hg : W.grownBy W' v.ownBlock) : PRow w W' v' (l ++ [p]) := by
  refine ⟨?_, h.2.grown hg h.2.size fun k hk => (h.1.lt k hk).1⟩
  rw [List.flatMap_append, List.length_append]
  simpa using hown
end
theorem Below.al (W : World) (o : Obj) : Below W.heap.size W (W.alloc o) := (Below.refl _ _).alloc (Nat.le_refl _) o

theorem woL_snoc (k : ByteArray) (l : List PA) (x : PA) : woL k (l ++ [x]) = if x.key = k then woL k l else woL k l ++ [x] := by
  unfold woL
  rw [List.filter_append]
  by_cases h : x.key = k <;> simp [h]
theorem wiL_yes {p : PA} : ∀ {l : List PA} (_ : ∃ q ∈ l, ck q.key p.key > 0) (ys : List PA), wiL p (l ++ ys) = wiL p l ++ ys
  | [], h, _ => by obtain ⟨q, hq, _⟩ := h; cases hq
  | x :: l, h, ys => by
    simp only [List.cons_append]
    unfold wiL
    split
    · rfl
    · rename_i hx
      rw [wiL_yes _ ys]; rfl
      obtain ⟨q, hq, h1⟩ := h
      rcases List.mem_cons.1 hq with rfl | hq
      · exact absurd h1 hx
      · exact ⟨q, hq, h1⟩
theorem wiL_no {p : PA} : ∀ {l : List PA} (_ : ∀ q ∈ l, ¬ ck q.key p.key > 0) (ys : List PA), wiL p (l ++ ys) = l ++ wiL p ys
  | [], _, _ => rfl
  | x :: l, h, ys => by
    simp only [List.cons_append]
    rw [wiL, if_neg (h x (by simp)), wiL_no (fun q hq => h q (by simp [hq])) ys]

set_option maxRecDepth 100000 in
set_option maxHeartbeats 4000000 in
theorem withoutR (A : Option Addr) (n c : Nat) (l : List PA) (key : ByteArray) (w : World) (hA : Rd w w.heap.size A (l.flatMap p4)) (hn : l.length = n) (hmx : n ≤ 1000000000) :
    Calls Try.prog 12 #[.slice A n c, .string key] w fun e w' => ∃ v, e = .returned v ∧ PRow w w' v (woL key l) := by
  obtain ⟨i1, hi1, hz1, hs1, hy1⟩ := info_parts info_pa
  have HA := Lib.hid hA
  have Hn := Lib.hid hn
  clear hA hn
  go_enter Try.func12, Try.ntmps12
  go_wp2
  go_loopw [5, 6] (fun v i wr => ∃ k : Nat, k ≤ n ∧ i = .int .i64 k ∧ PRow w wr v (woL key (l.take k))) (fun _ i _ => n - (intOf i).toNat)
  case atStart => exact ⟨0, Nat.zero_le _, rfl, PRow.nil w⟩
  case round =>
    obtain ⟨k, hk, rfl, hR⟩ := hrel
    by_cases hlt : k < n
    · have hkl : k < l.length := by rw [Hn.out]; exact hlt
      obtain ⟨ad, rfl, hadb, p0, p1, p2, p3⟩ := (HA.out.below hR.2).p4_ hkl
      have HT := Lib.hid (show woL key (l.take (k + 1)) = if l[k].key = key then woL key (l.take k) else woL key (l.take k) ++ [l[k]] by rw [List.take_succ_eq_append_getElem hkl, woL_snoc])
      generalize l[k] = p at p0 p1 p2 p3 HT
      have hlm : (woL key (l.take k)).length ≤ k := Nat.le_trans (woL_len _ _) (by rw [List.length_take]; omega)
      have DS := Lib.hid hR
      have hsz := hR.2.size
      have hk0 : (0 : Int) ≤ k := by omega
      have hk1 : (k : Int) < n := by omega
      clear hR hkl
      by_cases hkey : p.key = key
      · rw [hkey] at p0
        have HX := Lib.hid (HT.out.trans (if_pos hkey))
        clear hkey
        go_wp2
        go_roundw
        case rel => exact ⟨k + 1, by omega, by go_num, by rw [HX.out]; exact DS.out⟩
        case measure => simp [intOf]; omega
      · have hkf := key_ne hkey
        have HX := Lib.hid (HT.out.trans (if_neg hkey))
        clear hkey
        go_wp2_with (at_builtin
                     have D1 := DS.out.next (Below.al wr (.cells (p4 p).toArray 29))
                     refine wpList_app _ rfl (.tmp 20) (.tmp 25) _ rfl w.heap.size 29 i1 _ 4 48 Try.underlying22 hi1 hz1 hs1 hy1 rfl (by decide) _ (woL key (l.take k)).length _ rfl D1.1 _ _ 1 1 (p4 p) rfl rfl (rd_new _ _ _) (one_p4 _) (by unfold maxLen; omega) (by omega) (by simp; omega) ?_
                     intro v' w4 hown hg4 hor
                     have HG := Lib.hid (D1.grow hown hg4)
                     clear hown hg4 hor D1)
        go_roundw
        case rel => exact ⟨k + 1, by omega, by go_num, by rw [HX.out]; exact HG.out⟩
        case measure => simp [intOf]; omega
    · have hkn : k = n := by omega
      subst hkn
      have HT := Lib.hid (show woL key (l.take k) = woL key l by rw [← Hn.out, List.take_length])
      have DS := Lib.hid hR
      clear hR
      go_wp2
      go_ret
      rw [HT.out] at DS
      exact ⟨_, rfl, DS.out⟩
end Go.Proofs.Ytnkhmebmgncjbaa
