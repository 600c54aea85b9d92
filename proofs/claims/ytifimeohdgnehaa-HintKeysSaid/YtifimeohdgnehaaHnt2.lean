import Derived.Test.YtifimeohdgnehaaHnt1
namespace Go.Proofs.Ytifimeohdgnehaa
open Go.RowKit Go.Maps

/-- What a round of Right knows of the world: the hint (block h), the entry (block eb). -/
structure REn (seg size : Int) (sl : Value) (e : HE) (h eb : Nat) (w W : World) : Prop where
  h0 : W.cell? ⟨h, 0, none⟩ = some (.int .i64 seg)
  h1 : W.cell? ⟨h, 1, none⟩ = some (.int .i64 size)
  h2 : W.cell? ⟨h, 2, none⟩ = some sl
  e0 : W.cell? ⟨eb, 0, none⟩ = some (.string e.key)
  e1 : W.cell? ⟨eb, 1, none⟩ = some (.int .i64 e.off)
  e4 : W.cell? ⟨eb, 4, none⟩ = some (.int .i64 e.pos)
  e5 : W.cell? ⟨eb, 5, none⟩ = some (.int .i64 e.len)
  below : Below w.heap.size w W
  size : eb < W.heap.size ∧ h < W.heap.size
section
variable {seg size : Int} {sl : Value} {e : HE} {h eb : Nat} {w W W' : World}
theorem REn.next (r : REn seg size sl e h eb w W) (hB : w.heap.size ≤ W.heap.size) (hb : Below W.heap.size W W') : REn seg size sl e h eb w W' :=
  have c : ∀ {q : Addr} {u : Value}, W.cell? q = some u → W'.cell? q = some u := fun hq => (hb.cell (World.block_lt_of_cell? _ _ hq)).trans hq
  ⟨c r.h0, c r.h1, c r.h2, c r.e0, c r.e1, c r.e4, c r.e5, r.below.trans (hb.mono hB), Nat.lt_of_lt_of_le r.size.1 hb.size, Nat.lt_of_lt_of_le r.size.2 hb.size⟩
theorem REn.drewN (r : REn seg size sl e h eb w W) (m : Nat) : REn seg size sl e h eb w (W.drewN m) :=
  ⟨r.h0, r.h1, r.h2, r.e0, r.e1, r.e4, r.e5, below_drewN r.below m, r.size⟩
end

theorem key_ne {a b : ByteArray} (h : ¬ a = b) : (a.toList == b.toList) = false := by
  rw [beq_eq_false_iff_ne]
  intro e
  rw [ByteArray.toList_eq, ByteArray.toList_eq] at e
  exact h (WideShapes.bytes_inj e)
/-- What Right answers. -/
def RAns (seg size : Int) (l : List HE) (r : Ending) : Prop := (HintR seg size l ∧ r = .returned (.bool true)) ∨ (¬ HintR seg size l ∧ r = .returned (.bool false))
theorem RAns.no {seg size : Int} {l : List HE} (h : ¬ HintR seg size l) {r : Ending} (hr : r = .returned (.bool false)) : RAns seg size l r := .inr ⟨h, hr⟩
theorem RAns.yes {seg size : Int} {l : List HE} (h : HintR seg size l) {r : Ending} (hr : r = .returned (.bool true)) : RAns seg size l r := .inl ⟨h, hr⟩

set_option maxRecDepth 100000 in
set_option maxHeartbeats 4000000 in
theorem refRight (seg size : Int) (A : Option Addr) (c : Nat) (l : List HE) (w : World) (hA : Rd w w.heap.size A (l.flatMap six)) (hmx : l.length ≤ 140737488355328) :
    Calls Try.prog 28 #[hV seg size (.slice A l.length c)] w fun e w' => RAns seg size l e ∧ Below w.heap.size w w' := by
  have hb0 : Below w.heap.size w (w.alloc (.cells #[.int .i64 seg, .int .i64 size, .slice A l.length c] 24)) := (Below.refl _ _).alloc (Nat.le_refl _) _
  unfold hV
  by_cases hg : ¬ (0 ≤ seg ∧ seg < 1073741824 ∧ 38 ≤ size ∧ size ≤ 65536)
  · have Hbad := Lib.hid (show ¬ HintR seg size l from fun x => hg ⟨x.1, x.2.1, x.2.2.1, x.2.2.2.1⟩)
    have Hg := Lib.hid hg
    clear hg
    go_enter Try.func28, Try.ntmps28
    go_wp2
    all_goals first
      | (go_ret; exact ⟨.no Hbad.out rfl, hb0⟩)
      | (exfalso; apply Hg.out; omega)
  obtain ⟨g1, g2, g3, g4⟩ := Classical.not_not.1 hg
  clear hg
  go_enter Try.func28, Try.ntmps28
  go_wp2
  go_loopw [3, 4, 5] (fun o en i wr => ∃ k : Nat, k ≤ l.length ∧ i = .int .i64 k ∧ o = .int .i64 (offAt l k) ∧ en = .int .i64 (endAt l k) ∧ 0 ≤ endAt l k ∧ (∀ j, j < k → EntR (offAt l j) (endAt l j) size (nth l j)) ∧
      (∀ i j, i < k → j < i → (nth l j).key ≠ (nth l i).key) ∧ Below w.heap.size w wr ∧
      wr.cell? ⟨w.heap.size, 0, none⟩ = some (.int .i64 seg) ∧ wr.cell? ⟨w.heap.size, 1, none⟩ = some (.int .i64 size) ∧ wr.cell? ⟨w.heap.size, 2, none⟩ = some (.slice A l.length c) ∧ w.heap.size < wr.heap.size)
    (fun _ _ i _ => l.length - (intOf i).toNat)
  case atStart =>
    exact ⟨0, Nat.zero_le _, rfl, rfl, rfl, by simp [endAt], by omega, by omega, hb0, by go_simp, by go_simp, by go_simp, by simp⟩
  case round =>
    obtain ⟨k, hk, rfl, rfl, rfl, hen, hE, hN, hb, hc0, hc1, hc2, hsz⟩ := hrel
    have HE' := Lib.hid hE
    have HN := Lib.hid hN
    clear hE hN
    by_cases hlt : k < l.length
    · have hrd := Lib.hid (hA.below hb)
      obtain ⟨ad, rfl, hadb, p0, p1, p2, p3, p4, p5⟩ := hrd.out.six_ hlt
      have Hen := Lib.hid (show offAt l (k + 1) = (nth l k).off ∧ endAt l (k + 1) = (nth l k).pos + (nth l k).len from ⟨rfl, rfl⟩)
      rw [← nth_eq hlt] at p0 p1 p2 p3 p4 p5
      have Hp := Lib.hid (show nth l k = nth l k from rfl)
      generalize hpe : nth l k = p at p0 p1 p2 p3 p4 p5 Hen Hp
      have Hpe := Lib.hid hpe
      clear hpe Hp
      generalize hoe : offAt l k = oo
      have Hoe := Lib.hid hoe
      generalize hee : endAt l k = ee at hen
      have Hee := Lib.hid hee
      clear hoe hee
      by_cases hent : EntR oo ee size p
      · have hdec : decide (EntR oo ee size p) = true := decide_eq_true hent
        have Hent := Lib.hid hent
        have hlen1 : 14 ≤ p.len ∧ p.len ≤ 1124 := ⟨hent.2.2.2.2.2.2.1, hent.2.2.2.2.2.2.2.1⟩
        have hpos1 : 0 ≤ p.pos ∧ p.pos ≤ 65536 := by have := hent.2.2.2.2.2.2.2.2; omega
        clear hent
        obtain ⟨l1, l2⟩ := hlen1
        obtain ⟨q1, q2⟩ := hpos1
        obtain ⟨key, eo, et, ed, ep, el⟩ := p
        simp only at p0 p1 p2 p3 p4 p5 l1 l2 q1 q2
        go_wp2_with (go_at_call 50; refine (refEntry ⟨key, eo, et, ed, ep, el⟩ oo ee size _ g3 g4 hen).mono ?_; rintro r w3 ⟨rfl, hb3⟩)
        have hR : REn seg size (.slice (some ad) l.length c) ⟨key, eo, et, ed, ep, el⟩ w.heap.size wr.heap.size w (wr.alloc (.cells #[.string key, .int .i64 eo, .int .i64 et, .bool ed, .int .i64 ep, .int .i64 el] 33)) :=
          ⟨(World.cell?_alloc_lt _ _ _ (by simp; omega)).trans hc0, (World.cell?_alloc_lt _ _ _ (by simp; omega)).trans hc1, (World.cell?_alloc_lt _ _ _ (by simp; omega)).trans hc2, by go_simp, by go_simp, by go_simp, by go_simp, hb.alloc (by omega) _, by simp, by simp; omega⟩
        have hR3 := hR.next (by simp; omega) hb3
        have HR := Lib.hid hR3
        have k1 := hR3.h2
        have k2 := hR3.e0
        have HrdI := Lib.hid (hA.below hR3.below)
        clear hR hR3 p0 p1 p2 p3 p4 p5 hc0 hc1 hc2 hrd hb3
        go_loopw [8] (fun i2 wr2 => ∃ m q : Nat, m ≤ k ∧ i2 = .int .i64 m ∧ (∀ j, j < m → (nth l j).key ≠ key) ∧ wr2 = w3.drewN q)
          (fun i2 _ => k - (intOf i2).toNat)
        case atStart => exact ⟨0, 0, by omega, rfl, by omega, rfl⟩
        case round =>
          obtain ⟨m, q, hm, rfl, hne, rfl⟩ := hrel
          have Hne := Lib.hid hne
          clear hne
          by_cases hmk : m < k
          · have hml : m < l.length := by omega
            obtain ⟨ad2, e2, _, z0, _⟩ := HrdI.out.six_ hml
            cases e2
            rw [← nth_eq hml] at z0
            by_cases hkey : (nth l m).key = key
            · have Hbad := Lib.hid (show ¬ HintR seg size l from fun x => x.2.2.2.2.2 k m hlt hmk (by rw [Hpe.out]; exact hkey))
              rw [hkey] at z0
              go_wp2
              go_quiet (fail)
              go_wp2
              go_ret
              exact ⟨.no Hbad.out rfl, ((HR.out.drewN _).drewN _).below⟩
            · have Hkey := Lib.hid hkey
              have hkq := key_ne hkey
              generalize hqe : (nth l m).key = qk at z0 hkq Hkey
              have Hqe := Lib.hid hqe
              clear hqe hkey
              go_wp2
              go_quiet (fail)
              go_wp2
              go_roundw
              case rel =>
                refine ⟨m + 1, q + nq, by omega, by go_num, fun j hj => ?_, by go_simp⟩
                by_cases hjm : j = m
                · subst hjm; rw [Hqe.out]; exact Hkey.out
                · exact Hne.out j (by omega)
              case measure => simp [intOf]; omega
          · have hmk' : m = k := by omega
            subst hmk'
            have hfin := (HR.out.drewN q)
            have f1 := hfin.e1; have f4 := hfin.e4; have f5 := hfin.e5
            have hw : IntKind.i64.wrap (ep + el) = ep + el := Go.IntWalk.i64_in _ (by omega)
            go_wp2
            go_roundw
            case rel =>
              exact ⟨m + 1, by omega, by go_num, by rw [Hen.out.1], by rw [Hen.out.2], by rw [Hen.out.2]; omega,
                fun j hj => (by
                  by_cases hjm : j = m
                  · subst hjm; rw [Hoe.out, Hee.out, Hpe.out]; exact Hent.out
                  · exact HE'.out j (by omega)),
                fun i j hi hj => (by
                  by_cases him : i = m
                  · subst him; rw [Hpe.out]; exact Hne.out j hj
                  · exact HN.out i j (by omega) hj),
                hfin.below, hfin.h0, hfin.h1, hfin.h2, by have := hfin.size; simpa using this.2⟩
            case measure => simp [intOf]; omega
      · have Hbad := Lib.hid (show ¬ HintR seg size l from fun x => hent (by have := x.2.2.2.2.1 k hlt; rw [Hoe.out, Hee.out, Hpe.out] at this; exact this))
        have hdec : decide (EntR oo ee size p) = false := decide_eq_false hent
        clear hent
        obtain ⟨key, eo, et, ed, ep, el⟩ := p
        simp only at p0 p1 p2 p3 p4 p5
        go_wp2_with (go_at_call 50; refine (refEntry ⟨key, eo, et, ed, ep, el⟩ oo ee size _ g3 g4 hen).mono ?_; rintro r w3 ⟨rfl, hb3⟩)
        go_ret
        exact ⟨.no Hbad.out rfl, (hb.alloc (by omega) _).trans (hb3.mono (by simp; omega))⟩
    · go_wp2
      go_ret
      exact ⟨.yes ⟨g1, g2, g3, g4, fun i hi => HE'.out i (by omega), fun i j hi hj => HN.out i j (by omega) hj⟩ rfl, hb⟩
end Go.Proofs.Ytifimeohdgnehaa
