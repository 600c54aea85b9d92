/- ManifestAgain, the '..Upto' form: the law returns true; what came in reads as it did. -/
import Derived.Test.YtnecafhakkjbpaaMg3
import Derived.Test.YtnecafhakkjbpaaOpenX
import Derived.OpenShut
import Derived.JoinedCond
namespace Go.Proofs.Ytnecafhakkjbpaa
open Go.ChangeShapes Go.WideShapes Go.ChangeAt Go.RowKit Go.Deep

theorem ownK : ownKnob Try.prog.godebug = none := by kernel_rfl
theorem laidOut : laidOutB Try.prog = true := by kernel_rfl

set_option maxRecDepth 100000 in
theorem manifestAgain_lifted (os : Os) (started : os.Started) (H : Type) (enc : TypeId × Value → H) (F : Stop.Interp) :
    ReturnsInHanded {} Try.checked os 3 .any ((Rows.OpenSpec.upto Rows.manifestAgainSpec).pre6 enc Try.prog Try.f3 Rows.manifestAgainUptoRow.domain false) (((Rows.OpenSpec.upto Rows.manifestAgainSpec).at F).post enc Try.prog Try.f3 false true false false) := by
  refine returnsInHanded_of_cond (C := Try.checked) (s := Rows.OpenSpec.upto Rows.manifestAgainSpec) (k := Rows.uptoSmall) rfl ownK started (by kernel_rfl) Try.func3
    (OpenSpec.witness (enc := enc) (C := Try.checked) (s := Rows.OpenSpec.upto Rows.manifestAgainSpec) (k := Rows.uptoSmall) rfl false ⟨#[], #[.slice none 0 0, .slice none 0 0, .slice none 0 0], []⟩ 8 (by kernel_rfl) (by kernel_rfl) (by kernel_rfl)
      (x := ([.nil, .nil, .nil], [], [])) (by kernel_rfl) rfl (by kernel_rfl)) ?_
  intro W base args ds gs before hval hW _ hk _
  have hW' := hW
  obtain ⟨p, q, hA0, hV, rfl, hfz, hnd⟩ := hW
  have hA : DataW.TrodAll enc Try.prog W 0 (fun _ => true) true Try.f3.params.toList args.toList ds p := hA0
  rw [Try.params3] at hA hval
  obtain ⟨v0, vs0, d0, ds0, p0, q0, hargs, rfl, rfl, h0, r0⟩ := trodAll_cons hA
  obtain ⟨v1, vs1, d1, ds1, p1, q1, rfl, rfl, rfl, h1, r1⟩ := trodAll_cons r0
  obtain ⟨v2, vs2, d2, ds2, p2, q2, rfl, rfl, rfl, h2, r2⟩ := trodAll_cons r1
  obtain ⟨rfl, rfl, rfl⟩ := trodAll_nil r2
  obtain rfl : args = #[v0, v1, v2] := by cases args; simp_all
  obtain ⟨rfl, rfl⟩ := trodVars_none hV
  have k0 := h0
  have k1 := h1
  have k2 := h2
  have lt0 : ∀ x ∈ p0, x.block < W.heap.size := by obtain ⟨m, hm⟩ := k0; exact DataW.trod_lt m _ _ _ hm
  have lt1 : ∀ x ∈ p1, x.block < W.heap.size := by obtain ⟨m, hm⟩ := k1; exact DataW.trod_lt m _ _ _ hm
  have lt2 : ∀ x ∈ p2, x.block < W.heap.size := by obtain ⟨m, hm⟩ := k2; exact DataW.trod_lt m _ _ _ hm
  obtain ⟨a0, n0, c0, rfl⟩ := okWide_slice Try.underlying22 (hval 0 _ _ rfl rfl)
  obtain ⟨a1, n1, c1, rfl⟩ := okWide_slice Try.underlying23 (hval 1 _ _ rfl rfl)
  obtain ⟨a2, n2, c2, rfl⟩ := okWide_slice Try.underlying23 (hval 2 _ _ rfl rfl)
  obtain ⟨m0, h0'⟩ := h0
  obtain ⟨m1, h1'⟩ := h1
  obtain ⟨m2, h2'⟩ := h2
  have hb := bulk_bound hk
  simp only [List.append_nil, Rows.uptoBulkAll] at hb
  obtain ⟨A0, l0, e0, hv0, rp0, sb0, bl0⟩ := op_bytess m0 (.slice a0 n0 c0) (d0, p0) (by exact h0')
  injection hv0 with z1 z2 z3
  subst z1 z2 z3
  dsimp only at sb0 bl0
  obtain ⟨A1, l1, e1, hv1, rp1, wf1, bp1, cp1⟩ := op_intsc (c := .slice a1 n1 c1) Try.underlying23 Try.underlying3 (by kernel_rfl) h1'
  injection hv1 with z1 z2 z3
  subst z1 z2 z3
  have bl1 := bulk_to bp1 (fun h => by rw [h]; rfl)
  dsimp only at bl1
  obtain ⟨A2, l2, e2, hv2, rp2, wf2, bp2, cp2⟩ := op_intsc (c := .slice a2 n2 c2) Try.underlying23 Try.underlying3 (by kernel_rfl) h2'
  injection hv2 with z1 z2 z3
  subst z1 z2 z3
  have bl2 := bulk_to bp2 (fun h => by rw [h]; rfl)
  dsimp only at bl2
  clear hA0
  refine (again_law _ _ _ l0 _ _ _ l1 _ _ _ l2 W rp0 rfl (by omega) (by omega) rp1 rfl wf1 rp2 rfl cp2 wf2 (by omega)).mono fun e W' ⟨he, bel⟩ => ?_
  subst he
  exact ⟨_, rfl, _, _, _, [], _, [], hW', trodAll_mk1 (shut_bool Try.underlying4 _),
    (trodAll_cons_mk (Below.trod laidOut (by kernel_rfl) (of_decide_eq_true (by kernel_rfl)) k0 bel lt0) (trodAll_cons_mk (Below.trod laidOut (by kernel_rfl) (of_decide_eq_true (by kernel_rfl)) k1 bel lt1) (trodAll_cons_mk (Below.trod laidOut (by kernel_rfl) (of_decide_eq_true (by kernel_rfl)) k2 bel lt2) trodAll_mk0))), rfl, bel.frame _, fun h => by cases h⟩

theorem manifestAgain_holds : Rows.ManifestAgainUptoSaid :=
  OpenClaim.holds_of_cond 3 Try.f3 rfl rfl rfl rfl rfl rfl rfl ⟨rfl, rfl, rfl, rfl, rfl⟩ rfl rfl rfl rfl rfl (by kernel_rfl) Try.func3 (by kernel_rfl)
    (of_decide_eq_true (by kernel_rfl)) (by unfold Func.isWrapper; first | (rw [if_pos (by decide +kernel)]; kernel_rfl) | (rw [if_neg (by decide +kernel)]; exact ⟨rfl, rfl⟩))
    (fun os started H enc _ F => manifestAgain_lifted os started H enc F)
end Go.Proofs.Ytnecafhakkjbpaa
