import Derived.Test.YtmhlgbpgdhhfnaaGreatV19
import Derived.Test.YtmhlgbpgdhhfnaaGreatV17
import Derived.Test.YtmhlgbpgdhhfnaaGreatV10
import Derived.Test.YtmhlgbpgdhhfnaaGreatV01
set_option linter.unusedVariables false
set_option linter.unusedSimpArgs false
namespace Go.Proofs.YtmhlgbpgdhhfnaaGreat
open Go.RowKit Go.Maps Sqz

/-! record.read: words -/
theorem parts_t {b : List UInt8} {f1 o1 t1 p1 q1 : Nat} {k1 v1 : List UInt8} {s1 s2 s3 s4 s5 s6 s7 : RSt} (h1 : byS b ⟨0, false⟩ = (f1, s1)) (h2 : nmS b s1 = (o1, s2)) (h3 : nmS b s2 = (t1, s3)) (h4 : nmS b s3 = (p1, s4)) (h5 : nmS b s4 = (q1, s5)) (h6 : txS 64 b s5 = (k1, s6)) (h7 : rawS b s6 = (v1, s7)) (hc : f1 / 4 % 2 = 1) :
    partsP b = ⟨f1, o1, t1, p1, q1, k1, v1, s7.fl⟩ := by unfold partsP; simp only [h1, h2, h3, if_pos hc, h4, h5, h6, h7]
theorem parts_f {b : List UInt8} {f1 o1 t1 : Nat} {k1 v1 : List UInt8} {s1 s2 s3 s6 s7 : RSt} (h1 : byS b ⟨0, false⟩ = (f1, s1)) (h2 : nmS b s1 = (o1, s2)) (h3 : nmS b s2 = (t1, s3)) (h6 : txS 64 b s3 = (k1, s6)) (h7 : rawS b s6 = (v1, s7)) (hc : ¬ f1 / 4 % 2 = 1) :
    partsP b = ⟨f1, o1, t1, 0, 0, k1, v1, s7.fl⟩ := by unfold partsP; simp only [h1, h2, h3, if_neg hc, h6, h7]
theorem rawS_fl {l t : List UInt8} {s s' : RSt} (h : rawS l s = (t, s')) (hf : s'.fl = false) : s.fl = false ∧ s'.at_ = l.length := by
  unfold rawS at h
  split at h
  · rename_i hc; injection h with h1 h2; rw [← h2] at hf; rw [hf] at hc; cases hc
  rename_i hc; injection h with h1 h2; rw [← h2]; exact ⟨by simpa using hc, rfl⟩
theorem txS_fl {m : Nat} {l t : List UInt8} {s s' : RSt} (h : txS m l s = (t, s')) (hf : s'.fl = false) : s.fl = false := by
  have := txS_back (m := m) (l := l) (s := s) (by rw [h]; exact hf)
  obtain ⟨_, _, h2, _⟩ := this
  exact h2.1
theorem nmS_fl {l : List UInt8} {u : Nat} {s s' : RSt} (h : nmS l s = (u, s')) (hf : s'.fl = false) : s.fl = false ∧ u < 9223372036854775808 := by
  have := nmS_back (l := l) (s := s) (by rw [h]; exact hf)
  obtain ⟨_, _, h2, h3⟩ := this
  rw [h] at h3
  exact ⟨h2.1, h3⟩
theorem rawS_tk {l : List UInt8} {s : RSt} (h : s.at_ ≤ l.length) : rawS l s = tkS (l.length - s.at_) l s := by
  obtain ⟨a, fl⟩ := s
  cases fl with
  | true => rw [tkS_bad (.inl rfl)]; rfl
  | false =>
    simp only at h
    rw [tkS_ok rfl (by show a + (l.length - a) ≤ l.length; omega)]
    unfold rawS
    simp only [Bool.false_eq_true, if_false]
    rw [List.take_of_length_le (by simp), show a + (l.length - a) = l.length by omega]
theorem octTxD (p m : Nat) (l t : List UInt8) (s s' : RSt) (w : World) (h : ORd w p l s) (hu : txS m l s = (t, s')) (hmx : l.length ≤ 140737488355328) (hm : m ≤ 1000000) :
    Calls Tryz.prog 71 #[.pointer (some ⟨p, 0, none⟩), .int .i64 m] w fun e w' => e = .returned (.string ⟨t.toArray⟩) ∧ RAft p l s' w w' := by
  have := octTx p m l s w h hmx hm
  rw [hu] at this
  exact this
set_option maxRecDepth 1000000 in
theorem bits_tab : ∀ f : Fin 256, bits .and .u8 (f.val : Int) 1 = ((f.val % 2 : Nat) : Int) ∧ bits .and .u8 (f.val : Int) 4 = ((f.val / 4 % 2 * 4 : Nat) : Int) ∧ bits .and .u8 (f.val : Int) 2 = ((f.val / 2 % 2 * 2 : Nat) : Int) ∧ bits .andNot .u8 (f.val : Int) 7 = ((f.val / 8 * 8 : Nat) : Int) := by decide
theorem bits_of {f : Nat} (h : f < 256) : bits .and .u8 (f : Int) 1 = ((f % 2 : Nat) : Int) ∧ bits .and .u8 (f : Int) 4 = ((f / 4 % 2 * 4 : Nat) : Int) ∧ bits .and .u8 (f : Int) 2 = ((f / 2 % 2 * 2 : Nat) : Int) ∧ bits .andNot .u8 (f : Int) 7 = ((f / 8 * 8 : Nat) : Int) := bits_tab ⟨f, h⟩
theorem byS_lt (l : List UInt8) (s : RSt) : (byS l s).1 < 256 := by
  unfold byS
  split
  · simp
  split
  · simp
  rename_i c _ _; exact c.toNat_lt
theorem byS_at (l : List UInt8) (s : RSt) (h : s.at_ ≤ l.length) : (byS l s).2.at_ ≤ l.length := by
  unfold byS
  split
  · exact h
  split
  · exact Nat.le_refl _
  rename_i c r e
  have := congrArg List.length e
  simp only [List.length_drop, List.length_cons] at this
  show s.at_ + 1 ≤ l.length
  omega
theorem nmS_at (l : List UInt8) (s : RSt) (h : s.at_ ≤ l.length) : (nmS l s).2.at_ ≤ l.length := by
  unfold nmS
  split
  · exact Nat.le_refl _
  exact (uvS_le h).1
/-- While a body is read: the reader at p, the record at q, the result at z. -/
structure RB (w wr : World) (z p q : Nat) (l : List UInt8) (s : RSt) (cs : Array Value) : Prop where
  ord : ORd wr p l s
  bz : Box wr z 33 #[.int .i64 0, .int .i64 0, .int .i64 0, .int .i64 0, .int .i64 0, .string ⟨#[]⟩, .string ⟨#[]⟩]
  bq : Box wr q 33 cs
  bel : Below z w wr
  zz : z = w.heap.size
  hz : z < p
  hq : p < q
section
variable {w wr w' : World} {z p q : Nat} {l : List UInt8} {s s' : RSt} {cs : Array Value}
theorem RB.next (h : RB w wr z p q l s cs) (ha : RAft p l s' wr w') : RB w w' z p q l s' cs := by
  have h1 := h.hz
  have h2 := h.hq
  have h3 := h.bz.lt
  exact ⟨ha.1, h.bz.chg ha.2 (fun e => by have e' : z = p := e; omega), h.bq.chg ha.2 (fun e => by have e' : q = p := e; omega), h.bel.trans (ha.2.below (by omega) (fun k hk => by have hk' : k = p := hk; omega)), h.zz, h1, h2⟩
theorem RB.on (h : RB w wr z p q l s cs) (hb : Below wr.heap.size wr w') : RB w w' z p q l s cs :=
  ⟨h.ord.below hb, h.bz.below hb h.bz.lt, h.bq.below hb h.bq.lt, h.bel.trans (hb.mono (Nat.le_of_lt h.bz.lt)), h.zz, h.hz, h.hq⟩
theorem RB.set (h : RB w wr z p q l s cs) (i : Nat) (u : Value) : RB w (wr.setCell ⟨q, i, none⟩ u) z p q l s (cs.setIfInBounds i u) := by
  have h1 := h.hz
  have h2 := h.hq
  exact ⟨h.ord.chg ((Chg.refl (fun k => k = q) wr).set1 rfl i u) (fun k hk => by have hk' : k = q := hk; omega), h.bz.far (by show z ≠ q; omega) u, h.bq.set_ i u, h.bel.setCell (by show z ≤ q; omega) u, h.zz, h1, h2⟩
theorem RB.cell (h : RB w wr z p q l s cs) (i : Nat) : wr.cell? ⟨q, i, none⟩ = cs[i]? := h.bq.cell i
end
/-- What read answers. -/
def RcA (R : Option Rc) (e : Ending) : Prop := ∃ (kd off tm pd sq : Int) (k v : List UInt8) (ok : Bool),
  e = .returned (.tuple #[.agg #[.int .i64 kd, .int .i64 off, .int .i64 tm, .int .i64 pd, .int .i64 sq, .string ⟨k.toArray⟩, .string ⟨v.toArray⟩], .bool ok]) ∧
  ((R = none ∧ ok = false) ∨ (R = some ⟨kd, off, tm, pd, sq, k, v⟩ ∧ ok = true))
end Go.Proofs.YtmhlgbpgdhhfnaaGreat
