import Derived.Test.YtmhlgbpgdhhfnaaGreatV36
import Derived.Test.YtmhlgbpgdhhfnaaGreatV41
set_option linter.unusedVariables false
set_option linter.unusedSimpArgs false
namespace Go.Proofs.YtmhlgbpgdhhfnaaGreat
open Go.RowKit Go.Maps Sqz

/-! chroniclelaw5.samePlaced -/
theorem Rd.pl {w : World} {B : Nat} {A : Option Addr} {l : List PL} (h : Rd w B A (l.flatMap plc)) {i : Nat} (hi : i < l.length) : ∃ ad : Addr, A = some ad ∧ ad.block < B ∧ w.cell? (ad.add (i * 9)) = some (.int .i64 l[i].1.kind) ∧
    w.cell? ⟨(ad.add (i * 9)).block, (ad.add (i * 9)).off + 1, none⟩ = some (.int .i64 l[i].1.off) ∧ w.cell? ⟨(ad.add (i * 9)).block, (ad.add (i * 9)).off + 2, none⟩ = some (.int .i64 l[i].1.time) ∧ w.cell? ⟨(ad.add (i * 9)).block, (ad.add (i * 9)).off + 3, none⟩ = some (.int .i64 l[i].1.pid) ∧ w.cell? ⟨(ad.add (i * 9)).block, (ad.add (i * 9)).off + 4, none⟩ = some (.int .i64 l[i].1.seq) ∧ w.cell? ⟨(ad.add (i * 9)).block, (ad.add (i * 9)).off + 5, none⟩ = some (.string ⟨l[i].1.key.toArray⟩) ∧ w.cell? ⟨(ad.add (i * 9)).block, (ad.add (i * 9)).off + 6, none⟩ = some (.string ⟨l[i].1.val.toArray⟩) ∧ w.cell? ⟨(ad.add (i * 9)).block, (ad.add (i * 9)).off + 7, none⟩ = some (.int .i64 l[i].2.1) ∧ w.cell? ⟨(ad.add (i * 9)).block, (ad.add (i * 9)).off + 8, none⟩ = some (.int .i64 l[i].2.2) := by
  have g := plc_get l i
  obtain ⟨ad, rfl, hb, c0⟩ := h _ _ ((g 0 hi (by omega)).trans rfl)
  refine ⟨ad, rfl, hb, c0, ?_, ?_, ?_, ?_, ?_, ?_, ?_, ?_⟩
  · obtain ⟨a', e, _, c⟩ := h _ _ ((g 1 hi (by omega)).trans rfl); cases e; rw [← add_add'] at c; exact c
  · obtain ⟨a', e, _, c⟩ := h _ _ ((g 2 hi (by omega)).trans rfl); cases e; rw [← add_add'] at c; exact c
  · obtain ⟨a', e, _, c⟩ := h _ _ ((g 3 hi (by omega)).trans rfl); cases e; rw [← add_add'] at c; exact c
  · obtain ⟨a', e, _, c⟩ := h _ _ ((g 4 hi (by omega)).trans rfl); cases e; rw [← add_add'] at c; exact c
  · obtain ⟨a', e, _, c⟩ := h _ _ ((g 5 hi (by omega)).trans rfl); cases e; rw [← add_add'] at c; exact c
  · obtain ⟨a', e, _, c⟩ := h _ _ ((g 6 hi (by omega)).trans rfl); cases e; rw [← add_add'] at c; exact c
  · obtain ⟨a', e, _, c⟩ := h _ _ ((g 7 hi (by omega)).trans rfl); cases e; rw [← add_add'] at c; exact c
  obtain ⟨a', e, _, c⟩ := h _ _ ((g 8 hi (by omega)).trans rfl); cases e; rw [← add_add'] at c; exact c
set_option maxRecDepth 100000 in
set_option maxHeartbeats 4000000 in
theorem samePl_eq (A A' : Option Addr) (n c c' : Nat) (l : List PL) (w : World) (hA : Rd w w.heap.size A (l.flatMap plc)) (hA' : Rd w w.heap.size A' (l.flatMap plc)) (hn : l.length = n) (hmx : n ≤ 1000000000) :
    Calls Tryz.prog 6 #[.slice A n c, .slice A' n c'] w fun e w' => e = .returned (.bool true) ∧ ∃ m, w' = w.drewN m := by
  have HA := Lib.hid hA
  have HA' := Lib.hid hA'
  have Hn := Lib.hid hn
  clear hA hA' hn
  go_enter Tryz.func6, Tryz.ntmps6
  go_wp2
  go_loopw [5] (fun v wr => ∃ (k x : Nat), k ≤ n ∧ v = .int .i64 k ∧ wr = w.drewN x) (fun v _ => n - (intOf v).toNat)
  case atStart => exact ⟨0, 0, Nat.zero_le _, rfl, rfl⟩
  case round =>
    obtain ⟨k, x, hk, rfl, rfl⟩ := hrel
    by_cases hlt : k < n
    · have g1 : k < l.length := by rw [Hn.out]; exact hlt
      obtain ⟨ad, rfl, had, p0, p1, p2, p3, p4, p5, p6, p7, p8⟩ := HA.out.pl g1
      obtain ⟨ad', rfl, had', q0, q1, q2, q3, q4, q5, q6, q7, q8⟩ := HA'.out.pl g1
      generalize l[k] = y at *
      obtain ⟨⟨kd, off, tm, pd, sq, kk, vv⟩, ps, ln⟩ := y
      simp only at p0 p1 p2 p3 p4 p5 p6 p7 p8 q0 q1 q2 q3 q4 q5 q6 q7 q8
      go_wp2
      go_quiet (fail)
      go_wp2
      go_roundw
      case rel => exact ⟨k + 1, _, by omega, by go_num, rfl⟩
      case measure => simp [intOf]; omega
    go_wp2
    go_ret
    exact ⟨rfl, _, rfl⟩
end Go.Proofs.YtmhlgbpgdhhfnaaGreat
namespace Go.Proofs.YtmhlgbpgdhhfnaaGreat
open Go.RowKit Go.Maps Sqz

/-! what the law of Look holds in memory: a row of bytes that it writes (g), boxes, rows of records -/
def GB (W : World) (g : Nat) (l : List UInt8) : Prop := Box W g 5 (bv l).toArray
theorem bv_set (l : List UInt8) (i : Nat) (x : UInt8) : (bv l).toArray.setIfInBounds i (.int .u8 x.toNat) = (bv (l.set i x)).toArray := by
  rw [List.setIfInBounds_toArray]
  congr 1
  unfold bv
  rw [List.map_set]
theorem GB.cell_ {W : World} {g : Nat} {l : List UInt8} (h : GB W g l) {i : Nat} (hi : i < l.length) : W.cell? ⟨g, i, none⟩ = some (.int .u8 (l[i]'hi).toNat) := by
  rw [Box.cell h i]
  simp [bv, hi]
theorem GB.rd {W : World} {g B : Nat} {l : List UInt8} (h : GB W g l) (hB : g < B) : Rd W B (some ⟨g, 0, none⟩) (bv l) := by
  intro j u hu
  refine ⟨_, rfl, hB, ?_⟩
  have e : (⟨g, 0, none⟩ : Addr).add j = ⟨g, j, none⟩ := by unfold Addr.add; split <;> simp_all
  rw [e, Box.cell h j]
  simpa using hu
theorem GB.put {W : World} {g : Nat} {l : List UInt8} (h : GB W g l) (i : Nat) (x : UInt8) : GB (W.setCell ⟨g, i, none⟩ (.int .u8 x.toNat)) g (l.set i x) := by
  have := Box.set_ h i (.int .u8 x.toNat)
  rw [bv_set] at this
  exact this
theorem cpy_set (T X : List UInt8) (k : Nat) (hk : k < T.length) (hx : T.length ≤ X.length) (x : UInt8) (hT : T[k] = x) : (T.take k ++ X.drop k).set k x = T.take (k + 1) ++ X.drop (k + 1) := by
  have h1 : (T.take k).length = k := by rw [List.length_take]; omega
  rw [List.set_append_right _ _ (by rw [h1]; exact Nat.le_refl _), h1, Nat.sub_self, List.take_succ_eq_append_getElem hk, hT]
  have hd : X.drop k = X[k]'(by omega) :: X.drop (k + 1) := (List.getElem_cons_drop (by omega)).symm
  rw [hd, List.set_cons_zero]
  simp
/-- Boxes bs and rows rs of the call's own, and g, which is none of them. -/
structure LS (w W : World) (g : Nat) (lg : List UInt8) (bs : List (Nat × TypeId × Array Value)) (rs : List (Value × List PL)) : Prop where
  bel : Below w.heap.size w W
  gb : GB W g lg
  hg : w.heap.size ≤ g
  box : ∀ x ∈ bs, Box W x.1 x.2.1 x.2.2
  bne : ∀ x ∈ bs, x.1 ≠ g
  row : ∀ r ∈ rs, W.ownsRow w.heap.size 35 9 r.1 r.2.length (r.2.flatMap plc)
  rne : ∀ r ∈ rs, r.1.ownBlock ≠ some g
section
variable {w W W' : World} {g : Nat} {lg : List UInt8} {bs : List (Nat × TypeId × Array Value)} {rs : List (Value × List PL)}
theorem LS.on (h : LS w W g lg bs rs) (hb : Below W.heap.size W W') : LS w W' g lg bs rs :=
  ⟨h.bel.trans (hb.mono h.bel.size), Box.below h.gb hb (Box.lt h.gb), h.hg, fun x hx => (h.box x hx).below hb (h.box x hx).lt, h.bne, fun r hr => ownsRow_below (h.row r hr) hb, h.rne⟩
theorem LS.put (h : LS w W g lg bs rs) (i : Nat) (x : UInt8) : LS w (W.setCell ⟨g, i, none⟩ (.int .u8 x.toNat)) g (lg.set i x) bs rs := by
  have hC : Chg (fun k => k = g) W (W.setCell ⟨g, i, none⟩ (.int .u8 x.toNat)) := Chg.setCell (S := fun k => k = g) (p := ⟨g, i, none⟩) (Chg.refl _ W) (.inl rfl) _
  refine ⟨h.bel.trans (hC.below h.bel.size fun k hk => by rw [hk]; exact h.hg), h.gb.put i x, h.hg, fun y hy => (h.box y hy).chg hC (h.bne y hy), h.bne, fun r hr => ownsRow_block (h.row r hr) fun k hk => hC.block k ((h.row r hr).lt k hk).2 fun e => h.rne r hr (by rw [hk, e]), h.rne⟩
theorem LS.two {w5 : World} {v : Value} {L : List PL} {t1 t2 : TypeId} {c1 c2 : Array Value} (h : LS w W g lg bs rs) (ho : w5.ownsRow W.heap.size 35 9 v L.length (L.flatMap plc)) (hb : Below W.heap.size W w5) :
    LS w ((w5.alloc (.cells c1 t1)).alloc (.cells c2 t2)) g lg ((w5.heap.size, t1, c1) :: (w5.heap.size + 1, t2, c2) :: bs) ((v, L) :: rs) := by
  have hgl : g < W.heap.size := Box.lt h.gb
  have h5 := h.on hb
  have hb2 : Below w5.heap.size w5 ((w5.alloc (.cells c1 t1)).alloc (.cells c2 t2)) := ((Below.refl _ _).alloc (Nat.le_refl _) _).alloc (by simp) _
  have h6 := h5.on hb2
  refine ⟨h6.bel, h6.gb, h.hg, fun x hx => ?_, fun x hx => ?_, fun r hr => ?_, fun r hr => ?_⟩
  · rcases List.mem_cons.1 hx with rfl | hx
    · exact (Box.new w5 t1 c1).alloc _
    rcases List.mem_cons.1 hx with rfl | hx
    · have := Box.new (w5.alloc (.cells c1 t1)) t2 c2
      rw [World.size_alloc] at this
      exact this
    exact h6.box x hx
  · have hs := hb.size
    rcases List.mem_cons.1 hx with rfl | hx
    · show w5.heap.size ≠ g; omega
    rcases List.mem_cons.1 hx with rfl | hx
    · show w5.heap.size + 1 ≠ g; omega
    exact h.bne x hx
  · rcases List.mem_cons.1 hr with rfl | hr
    · exact ownsRow_below (ownsRow_le ho h.bel.size) hb2
    exact h6.row r hr
  rcases List.mem_cons.1 hr with rfl | hr
  · intro e
    have := (ho.lt g e).1
    omega
  exact h.rne r hr
end
theorem lookO_shape (b : List UInt8) : ∃ a1 a2 a3 a4 a5 a6 a7 L e1 e2, lookO b = (.agg #[.int .i64 a1, .int .i64 a2, .int .i64 a3, .int .i64 a4, .int .i64 a5, .int .i64 a6, .bool a7], L, .agg #[.int .i64 e1, .int .i64 e2]) := by
  unfold lookO
  cases lookI b with
  | none => exact ⟨_, _, _, _, _, _, _, _, _, _, rfl⟩
  | some il => exact ⟨_, _, _, _, _, _, _, _, _, _, rfl⟩
set_option maxRecDepth 100000 in
theorem make_u8 (n : Nat) (hn : n ≤ 1000000100) (W : World) : (Instr.makeSlice 22 (.int .i64 n) (.int .i64 n)).run Tryz.prog W = .ok (.slice (some ⟨W.heap.size, 0, none⟩) n n) (W.alloc (.cells (bv (List.replicate n 0)).toArray 5)) := by
  obtain ⟨i0, hi0, hz0, hs0, hy0⟩ := info_parts info_u8
  have h := run_make (P := Tryz.prog) W 22 5 i0 _ Tryz.underlying22 hi0 hz0 .i64 .i64 n n (by omega) (by omega) (by rw [hy0]; omega) (by omega)
  rw [h, hs0]
  simp only [Int.toNat_natCast, Nat.mul_one]
  congr 3
  simp [madeCells, Value.cells, bv]
  apply Array.ext
  · simp
  intro i h1 h2; simp [Nat.mod_one]
/-- What comes of an answer of Look. -/
theorem LkA.open_ {b : List UInt8} {w w' : World} {e : Ending} {a1 a2 a3 a4 a5 a6 : Int} {a7 : Bool} {L : List PL} {e1 e2 : Int} (h : LkA b w e w') (hs : lookO b = (.agg #[.int .i64 a1, .int .i64 a2, .int .i64 a3, .int .i64 a4, .int .i64 a5, .int .i64 a6, .bool a7], L, .agg #[.int .i64 e1, .int .i64 e2])) :
    ∃ c k, e = .returned (.tuple #[.agg #[.int .i64 a1, .int .i64 a2, .int .i64 a3, .int .i64 a4, .int .i64 a5, .int .i64 a6, .bool a7], .slice c L.length k, .agg #[.int .i64 e1, .int .i64 e2]]) ∧ w'.ownsRow w.heap.size 35 9 (.slice c L.length k) L.length (L.flatMap plc) ∧ Below w.heap.size w w' := by
  obtain ⟨v, h1, h2, h3⟩ := h
  rw [hs] at h1 h2
  obtain ⟨c, k, rfl⟩ := ownsRow_slice h2
  exact ⟨c, k, h1, h2, h3⟩
theorem lookO_len (b : List UInt8) : (lookO b).2.1.length ≤ b.length := by
  cases hI : headR csum b with
  | none => rw [lookO_none hI]; exact Nat.zero_le _
  | some i =>
    have h := scan_ends b i.last (b.length + 1) 21 i.last [] (headR_ok hI).2.2.2.2.1 rfl rfl (by simp)
    obtain ⟨R, hR⟩ : ∃ R, scanAll b i.last = R := ⟨_, rfl⟩
    rw [show scan b (b.length + 1) 21 i.last [] = R from hR] at h
    obtain ⟨at_, lst, done⟩ := R
    by_cases hc : at_ + 17 ≤ b.length ∧ (b.drop at_).take 17 = tailS (b.take at_) done.length lst
    · rw [lookO_seal hI hR hc.1 hc.2 _ rfl]; exact Nat.le_trans h.2.2.2 h.1
    rw [lookO_open hI hR hc _ rfl]; exact Nat.le_trans h.2.2.2 h.1
end Go.Proofs.YtmhlgbpgdhhfnaaGreat
