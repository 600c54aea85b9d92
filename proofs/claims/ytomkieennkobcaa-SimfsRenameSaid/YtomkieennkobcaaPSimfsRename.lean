/- SimfsRename: whatever the bytes and the picks: the law returns true; no condition. -/
import Derived.Test.YtomkieennkobcaaRn2
import Derived.Test.YtomkieennkobcaaOpenS
import Derived.OpenShut
namespace Go.Proofs.Ytomkieennkobcaa
open Go.ChangeShapes Go.WideShapes Go.ChangeAt Go.RowKit Go.Deep

theorem ownK : ownKnob Try.prog.godebug = none := by kernel_rfl
theorem laidOut : laidOutB Try.prog = true := by kernel_rfl
theorem row_len {H : Type} {d : DataW H} {l : Nat} {p : Prop} {z q : Nat} (h : (d = .nil ∧ p) ∨ ∃ el sp, d = .slice el sp ∧ el.length = l) (hp : p → l = 0) (hq : ∀ el sp, d = .slice el sp → (el.length + sp.length) * z ≤ q) : l * z ≤ q := by
  rcases h with ⟨_, h⟩ | ⟨el, sp, h1, h2⟩
  · rw [hp h]; omega
  · have h3 := hq el sp h1
    rw [← h2]
    exact Nat.le_trans (Nat.mul_le_mul_right _ (by omega)) h3
section
variable {H : Type} {enc : TypeId × Value → H} {P : Program} {w : World} {n : Nat} {t e : TypeId} {c : Value} {y : DataW H × List MemPlace}
theorem op_intsc {k : IntKind} (ht : P.underlying t = some (.slice e)) (he : P.underlying e = some (.int k)) (hc : P.cellsOf e = 1) (h : TR enc P w n t [c] y) :
    ∃ (A : Option Addr) (l : List Int) (cap : Nat), c = .slice A l.length cap ∧ Rd w w.heap.size A (l.map (.int k)) ∧ (∀ x ∈ l, (Lit.int k x).wf = true) ∧ ((y.1 = .nil ∧ l = []) ∨ ∃ el sp, y.1 = .slice el sp ∧ el.length = l.length) ∧ l.length ≤ cap := by
  rcases open_ints ht he hc h with ⟨hcs, hy⟩ | ⟨a, len, cap, zs, hcs, _, hl, hm, hz, hy, hcell, hw⟩
  · refine ⟨none, [], 0, by simpa using hcs, Rd.nil _ _ _, by simp, .inl ⟨by rw [hy], rfl⟩, Nat.le_refl _⟩
  · have hz' : zs.length = cap := by simpa using hz
    have hlen : (zs.take len).length = len := by simp; omega
    refine ⟨some a, zs.take len, cap, by rw [hlen]; simpa using hcs, ?_, fun x hx => hw x (List.mem_of_mem_take hx), .inr ⟨lits k (zs.take len), lits k (zs.drop len), by rw [hy], by simp [lits]⟩, by rw [hlen]; exact hl⟩
    intro j u hj
    obtain ⟨hj1, hj2⟩ := List.getElem?_eq_some_iff.1 hj
    have hjl : j < zs.length := by simp at hj1; omega
    have hc := hcell j hjl
    refine ⟨a, rfl, ?_, ?_⟩
    · rw [← add_block a j]; exact World.block_lt_of_cell? _ _ hc
    · rw [hc, ← hj2]; simp [List.getD_eq_getElem?_getD, List.getElem?_eq_getElem hjl]

end

set_option maxRecDepth 100000 in
theorem rename_lifted (os : Os) (started : os.Started) (H : Type) (enc : TypeId × Value → H) :
    ReturnsInHanded {} Try.checked os 3 .any (Rows.simfsRenameSpec.pre6 enc Try.prog Try.f3 Rows.simfsRenameRow.domain false) (Rows.simfsRenameSpec.post enc Try.prog Try.f3 false true false false) := by
  refine returnsInHanded_of_change_sized (C := Try.checked) ownK started (by kernel_rfl) Try.func3
    (ChangeSpec.witness6 (enc := enc) (C := Try.checked) false ⟨#[], #[.slice none 0 0, .slice none 0 0, .slice none 0 0], []⟩ 8 (by kernel_rfl) (by kernel_rfl) (by kernel_rfl) (by kernel_rfl)) ?_
  intro W base args ds gs before hval0 hW hcnd hsz _
  have hval : ∀ (j : Nat) t v, Try.f3.params[j]? = some t → args[j]? = some v → Value.okWide Try.prog W .any base t v := hval0
  have hW' := hW
  obtain ⟨p, q, hA0, hV, rfl, hfz, hnd⟩ := hW
  have hA : DataW.TrodAll enc Try.prog W 0 (fun _ => true) true Try.f3.params.toList args.toList ds p := hA0
  rw [Try.params3] at hA hval hsz
  obtain ⟨v0, vs0, d0, ds0, p0, q0, hargs, rfl, rfl, h0, r0⟩ := trodAll_cons hA
  obtain ⟨v1, vs1, d1, ds1, p1, q1, rfl, rfl, rfl, h1, r1⟩ := trodAll_cons r0
  obtain ⟨v2, vs2, d2, ds2, p2, q2, rfl, rfl, rfl, h2, r2⟩ := trodAll_cons r1
  obtain ⟨rfl, rfl, rfl⟩ := trodAll_nil r2
  obtain rfl : args = #[v0, v1, v2] := by cases args; simp_all
  obtain ⟨rfl, rfl⟩ := trodVars_none hV
  have k0 := h0
  have k1 := h1
  have k2 := h2
  have lt0 : ∀ x ∈ p0, x.block < W.heap.size := by obtain ⟨m, hm⟩ := k0; exact DataW.trod_lt m _ _ _ hm
  have lt1 : ∀ x ∈ p1, x.block < W.heap.size := by obtain ⟨m, hm⟩ := k1; exact DataW.trod_lt m _ _ _ hm
  have lt2 : ∀ x ∈ p2, x.block < W.heap.size := by obtain ⟨m, hm⟩ := k2; exact DataW.trod_lt m _ _ _ hm
  obtain ⟨x0, n0, g0, rfl⟩ := okWide_slice Try.underlying22 (hval 0 _ _ rfl rfl)
  obtain ⟨x1, n1, g1, rfl⟩ := okWide_slice Try.underlying22 (hval 1 _ _ rfl rfl)
  obtain ⟨x2, n2, g2, rfl⟩ := okWide_slice Try.underlying23 (hval 2 _ _ rfl rfl)
  obtain ⟨m0, h0'⟩ := h0
  obtain ⟨m1, h1'⟩ := h1
  obtain ⟨m2, h2'⟩ := h2
  obtain ⟨A0, l0, e0, hv0, rA0, c0, b0⟩ := op_bytes (c := .slice x0 n0 g0) Try.underlying22 Try.underlying5 (by kernel_rfl) h0'
  obtain ⟨A1, l1, e1, hv1, rA1, c1, b1⟩ := op_bytes (c := .slice x1 n1 g1) Try.underlying22 Try.underlying5 (by kernel_rfl) h1'
  obtain ⟨A2, l2, e2, hv2, rA2, wf2, b2, c2⟩ := op_intsc (c := .slice x2 n2 g2) Try.underlying23 Try.underlying3 (by kernel_rfl) h2'
  injection hv0 with z1 z2 z3
  subst z1 z2 z3
  injection hv1 with z1 z2 z3
  subst z1 z2 z3
  injection hv2 with z1 z2 z3
  subst z1 z2 z3
  have s0 : l0.length * 1 ≤ 140737488351232 := row_len b0 (fun h => by rw [h]; rfl) (fun el sp h => sized_slice hsz (j := 0) (t := 22) rfl (congrArg some h) Try.underlying22)
  have s1 : l1.length * 1 ≤ 140737488351232 := row_len b1 (fun h => by rw [h]; rfl) (fun el sp h => sized_slice hsz (j := 1) (t := 22) rfl (congrArg some h) Try.underlying22)
  have s2 : l2.length * 8 ≤ 140737488351232 := row_len b2 (fun h => by rw [h]; rfl) (fun el sp h => sized_slice hsz (j := 2) (t := 23) rfl (congrArg some h) Try.underlying23)
  clear hA0 hval0 hsz
  refine (rename_law _ _ _ _ _ _ _ _ _ l0 l1 l2 W rA0 rfl c0 rA1 rfl c1 rA2 rfl c2 wf2 (by omega) (by omega) (by omega)).mono fun e W' ⟨he, bel⟩ => ?_
  subst he
  exact ⟨_, rfl, _, _, _, [], _, [], hW', trodAll_mk1 (shut_bool Try.underlying4 _),
    (trodAll_cons_mk (Below.trod laidOut (by kernel_rfl) (of_decide_eq_true (by kernel_rfl)) k0 bel lt0) (trodAll_cons_mk (Below.trod laidOut (by kernel_rfl) (of_decide_eq_true (by kernel_rfl)) k1 bel lt1) (trodAll_cons_mk (Below.trod laidOut (by kernel_rfl) (of_decide_eq_true (by kernel_rfl)) k2 bel lt2) trodAll_mk0))), rfl, bel.frame _, fun h => by cases h⟩

theorem simfsRename_holds : Rows.SimfsRenameSaid :=
  OpenClaim.holds_of_wide 3 Try.f3 rfl rfl rfl rfl rfl rfl rfl ⟨rfl, rfl, rfl, rfl, rfl⟩ rfl rfl rfl rfl rfl (by kernel_rfl) Try.func3 (by kernel_rfl)
    (of_decide_eq_true (by kernel_rfl)) (by unfold Func.isWrapper; first | (rw [if_pos (by decide +kernel)]; kernel_rfl) | (rw [if_neg (by decide +kernel)]; exact ⟨rfl, rfl⟩))
    (fun os started H enc _ => rename_lifted os started H enc)
end Go.Proofs.Ytomkieennkobcaa
