/- SimfsSettled, the '..Upto' form: the law returns true; what came in reads as it did. -/
import Derived.Test.YtomkieennkobcaaSt5
import Derived.Test.YtomkieennkobcaaOpenT
import Derived.OpenShut
import Derived.JoinedCond
namespace Go.Proofs.Ytomkieennkobcaa
open Go.ChangeShapes Go.WideShapes Go.ChangeAt Go.RowKit Go.Deep

theorem ownK : ownKnob Try.prog.godebug = none := by kernel_rfl
theorem laidOut : laidOutB Try.prog = true := by kernel_rfl
section
variable {H : Type} {enc : TypeId × Value → H} {P : Program} {w : World} {n : Nat} {t e : TypeId} {c : Value} {y : DataW H × List MemPlace}
theorem op_intsc {k : IntKind} (ht : P.underlying t = some (.slice e)) (he : P.underlying e = some (.int k)) (hc : P.cellsOf e = 1) (h : TR enc P w n t [c] y) :
    ∃ (A : Option Addr) (l : List Int) (cap : Nat), c = .slice A l.length cap ∧ Rd w w.heap.size A (l.map (.int k)) ∧ (∀ x ∈ l, (Lit.int k x).wf = true) ∧ ((y.1 = .nil ∧ l = []) ∨ ∃ el sp, y.1 = .slice el sp ∧ el.length = l.length) ∧ l.length ≤ cap := by
  rcases open_ints ht he hc h with ⟨hcs, hy⟩ | ⟨a, len, cap, zs, hcs, _, hl, hm, hz, hy, hcell, hw⟩
  · refine ⟨none, [], 0, by simpa using hcs, Rd.nil _ _ _, by simp, .inl ⟨by rw [hy], rfl⟩, Nat.le_refl _⟩
  · have hz' : zs.length = cap := by simpa using hz
    have hlen : (zs.take len).length = len := by simp; omega
    refine ⟨some a, zs.take len, cap, by rw [hlen]; simpa using hcs, ?_, fun x hx => hw x (List.mem_of_mem_take hx), .inr ⟨lits k (zs.take len), lits k (zs.drop len), by rw [hy], by simp [lits]⟩, by rw [hlen]; exact hl⟩
    intro j u hj
    obtain ⟨hj1, hj2⟩ := List.getElem?_eq_some_iff.1 hj
    have hjl : j < zs.length := by simp at hj1; omega
    have hc := hcell j hjl
    refine ⟨a, rfl, ?_, ?_⟩
    · rw [← add_block a j]; exact World.block_lt_of_cell? _ _ hc
    · rw [hc, ← hj2]; simp [List.getD_eq_getElem?_getD, List.getElem?_eq_getElem hjl]
end

set_option maxRecDepth 100000 in
theorem simfsSettled_lifted (os : Os) (started : os.Started) (H : Type) (enc : TypeId × Value → H) (F : Stop.Interp) :
    ReturnsInHanded {} Try.checked os 7 .any ((Rows.OpenSpec.upto Rows.simfsSettledSpec).pre6 enc Try.prog Try.f7 Rows.simfsSettledUptoRow.domain false) (((Rows.OpenSpec.upto Rows.simfsSettledSpec).at F).post enc Try.prog Try.f7 false true false false) := by
  refine returnsInHanded_of_cond (C := Try.checked) (s := Rows.OpenSpec.upto Rows.simfsSettledSpec) (k := Rows.uptoSmall) rfl ownK started (by kernel_rfl) Try.func7
    (OpenSpec.witness (enc := enc) (C := Try.checked) (s := Rows.OpenSpec.upto Rows.simfsSettledSpec) (k := Rows.uptoSmall) rfl false ⟨#[], #[.int .i64 0, .slice none 0 0, .slice none 0 0, .slice none 0 0], []⟩ 8 (by kernel_rfl) (by kernel_rfl) (by kernel_rfl)
      (x := ([.lit (.int .i64 0), .nil, .nil, .nil], [], [])) (by kernel_rfl) rfl (by kernel_rfl)) ?_
  intro W base args ds gs before hval hW _ hk _
  have hW' := hW
  obtain ⟨p, q, hA0, hV, rfl, hfz, hnd⟩ := hW
  have hA : DataW.TrodAll enc Try.prog W 0 (fun _ => true) true Try.f7.params.toList args.toList ds p := hA0
  rw [Try.params7] at hA hval
  obtain ⟨v0, vs0, d0, ds0, p0, q0, hargs, rfl, rfl, h0, r0⟩ := trodAll_cons hA
  obtain ⟨v1, vs1, d1, ds1, p1, q1, rfl, rfl, rfl, h1, r1⟩ := trodAll_cons r0
  obtain ⟨v2, vs2, d2, ds2, p2, q2, rfl, rfl, rfl, h2, r2⟩ := trodAll_cons r1
  obtain ⟨v3, vs3, d3, ds3, p3, q3, rfl, rfl, rfl, h3, r3⟩ := trodAll_cons r2
  obtain ⟨rfl, rfl, rfl⟩ := trodAll_nil r3
  obtain rfl : args = #[v0, v1, v2, v3] := by cases args; simp_all
  obtain ⟨rfl, rfl⟩ := trodVars_none hV
  have k0 := h0
  have k1 := h1
  have k2 := h2
  have k3 := h3
  have lt0 : ∀ x ∈ p0, x.block < W.heap.size := by obtain ⟨m, hm⟩ := k0; exact DataW.trod_lt m _ _ _ hm
  have lt1 : ∀ x ∈ p1, x.block < W.heap.size := by obtain ⟨m, hm⟩ := k1; exact DataW.trod_lt m _ _ _ hm
  have lt2 : ∀ x ∈ p2, x.block < W.heap.size := by obtain ⟨m, hm⟩ := k2; exact DataW.trod_lt m _ _ _ hm
  have lt3 : ∀ x ∈ p3, x.block < W.heap.size := by obtain ⟨m, hm⟩ := k3; exact DataW.trod_lt m _ _ _ hm
  obtain ⟨x0, rfl⟩ := okWide_int Try.underlying3 (hval 0 _ _ rfl rfl)
  obtain ⟨a1, n1, c1, rfl⟩ := okWide_slice Try.underlying40 (hval 1 _ _ rfl rfl)
  obtain ⟨a2, n2, c2, rfl⟩ := okWide_slice Try.underlying40 (hval 2 _ _ rfl rfl)
  obtain ⟨a3, n3, c3, rfl⟩ := okWide_slice Try.underlying23 (hval 3 _ _ rfl rfl)
  obtain ⟨m0, h0'⟩ := h0
  obtain ⟨m1, h1'⟩ := h1
  obtain ⟨m2, h2'⟩ := h2
  obtain ⟨m3, h3'⟩ := h3
  have hb := bulk_bound hk
  simp only [List.append_nil, Rows.uptoBulkAll] at hb
  obtain ⟨z0, ez0, _, wf0⟩ := op_int (c := .int .i64 x0) Try.underlying3 (by exact h0')
  injection ez0 with _ ez0'
  subst ez0'
  obtain ⟨A1, l1, e1, hv1, st1, bb1, bl1, cp1⟩ := op_steps m1 (.slice a1 n1 c1) (d1, p1) (by exact h1')
  injection hv1 with z1 z2 z3
  subst z1 z2 z3
  dsimp only at bb1 bl1
  obtain ⟨A2, l2, e2, hv2, st2, bb2, bl2, cp2⟩ := op_steps m2 (.slice a2 n2 c2) (d2, p2) (by exact h2')
  injection hv2 with z1 z2 z3
  subst z1 z2 z3
  dsimp only at bb2 bl2
  obtain ⟨A3, l3, e3, hv3, rp3, wf3, bp3, cp3⟩ := op_intsc (c := .slice a3 n3 c3) Try.underlying23 Try.underlying3 (by kernel_rfl) h3'
  injection hv3 with z1 z2 z3
  subst z1 z2 z3
  have bl3 := bulk_to bp3 (fun h => by rw [h]; rfl)
  dsimp only at bl3
  clear hA0
  refine (settled_law x0 _ _ _ l1 _ _ _ l2 _ _ _ l3 W st1 rfl (by omega) (fun s hs => by have := (bb1 s hs).1; omega) st2 rfl (by omega) (fun s hs => by have := (bb2 s hs).1; omega) rp3 rfl cp3 wf3 (by omega)).mono fun e W' ⟨he, bel⟩ => ?_
  subst he
  exact ⟨_, rfl, _, _, _, [], _, [], hW', trodAll_mk1 (shut_bool Try.underlying4 _),
    (trodAll_cons_mk (Below.trod laidOut (by kernel_rfl) (of_decide_eq_true (by kernel_rfl)) k0 bel lt0) (trodAll_cons_mk (Below.trod laidOut (by kernel_rfl) (of_decide_eq_true (by kernel_rfl)) k1 bel lt1) (trodAll_cons_mk (Below.trod laidOut (by kernel_rfl) (of_decide_eq_true (by kernel_rfl)) k2 bel lt2) (trodAll_cons_mk (Below.trod laidOut (by kernel_rfl) (of_decide_eq_true (by kernel_rfl)) k3 bel lt3) trodAll_mk0)))), rfl, bel.frame _, fun h => by cases h⟩

theorem simfsSettled_holds : Rows.SimfsSettledUptoSaid :=
  OpenClaim.holds_of_cond 7 Try.f7 rfl rfl rfl rfl rfl rfl rfl ⟨rfl, rfl, rfl, rfl, rfl⟩ rfl rfl rfl rfl rfl (by kernel_rfl) Try.func7 (by kernel_rfl)
    (of_decide_eq_true (by kernel_rfl)) (by unfold Func.isWrapper; first | (rw [if_pos (by decide +kernel)]; kernel_rfl) | (rw [if_neg (by decide +kernel)]; exact ⟨rfl, rfl⟩))
    (fun os started H enc _ F => simfsSettled_lifted os started H enc F)
end Go.Proofs.Ytomkieennkobcaa
