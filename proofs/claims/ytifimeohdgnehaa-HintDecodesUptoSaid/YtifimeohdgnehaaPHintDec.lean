/- HintDecodes: for every row of bytes the program's Decode reads the hint, or tells the error, that the document's does, and what is handed in and answered stays apart; the law returns true. Condition: what is read is of bulk at most 1048576 (the '..Upto' form). -/
import Derived.Test.YtifimeohdgnehaaHnt17
import Derived.Test.YtifimeohdgnehaaOpenB
import Derived.OpenShut
import Derived.JoinedCond
namespace Go.Proofs.Ytifimeohdgnehaa
open Go.ChangeShapes Go.WideShapes Go.ChangeAt Go.RowKit Go.Deep

theorem ownK : ownKnob Try.prog.godebug = none := by kernel_rfl
theorem laidOut : laidOutB Try.prog = true := by kernel_rfl

set_option maxRecDepth 100000 in
theorem dec_lifted (os : Os) (started : os.Started) (H : Type) (enc : TypeId × Value → H) (F : Stop.Interp) :
    ReturnsInHanded {} Try.checked os 4 .any ((Rows.OpenSpec.upto Rows.hintDecodesSpec).pre6 enc Try.prog Try.f4 Rows.hintDecodesUptoRow.domain false) (((Rows.OpenSpec.upto Rows.hintDecodesSpec).at F).post enc Try.prog Try.f4 false true false false) := by
  refine returnsInHanded_of_cond (C := Try.checked) (s := Rows.OpenSpec.upto Rows.hintDecodesSpec) (k := Rows.uptoSmall) rfl ownK started (by kernel_rfl) Try.func4
    (OpenSpec.witness (enc := enc) (C := Try.checked) (s := Rows.OpenSpec.upto Rows.hintDecodesSpec) (k := Rows.uptoSmall) rfl false ⟨#[], #[.slice none 0 0], []⟩ 8 (by kernel_rfl) (by kernel_rfl) (by kernel_rfl)
      (x := ([.nil], [], [])) (by kernel_rfl) rfl (by kernel_rfl)) ?_
  intro W base args ds gs before hval hW _ hk _
  have hW' := hW
  obtain ⟨p, q, hA0, hV, rfl, hfz, hnd⟩ := hW
  have hA : DataW.TrodAll enc Try.prog W 0 (fun _ => true) true Try.f4.params.toList args.toList ds p := hA0
  rw [Try.params4] at hA hval
  obtain ⟨v0, vs0, d0, ds0, p0, q0, hargs, rfl, rfl, h0, r0⟩ := trodAll_cons hA
  obtain ⟨rfl, rfl, rfl⟩ := trodAll_nil r0
  obtain rfl : args = #[v0] := by cases args; simp_all
  obtain ⟨rfl, rfl⟩ := trodVars_none hV
  have k0 := h0
  have lt0 : ∀ x ∈ p0, x.block < W.heap.size := by obtain ⟨m, hm⟩ := k0; exact DataW.trod_lt m _ _ _ hm
  obtain ⟨a0, n0, c0, rfl⟩ := okWide_slice Try.underlying26 (hval 0 _ _ rfl rfl)
  obtain ⟨fuel, h0'⟩ := h0
  obtain ⟨A, bs, cap, hv, rA, hcap, hd⟩ := op_bytes (c := .slice a0 n0 c0) Try.underlying26 Try.underlying5 (by kernel_rfl) h0'
  injection hv with e1 e2 e3
  subst e1 e2 e3
  have hsm : bs.length ≤ 1048576 := by
    rcases hd with ⟨_, rfl⟩ | ⟨el, sp, h1, h2⟩
    · simp
    · have hb := bulk_bound hk
      have h3 := bulk_slice el sp
      have h1' : d0 = .slice el sp := h1
      rw [h1'] at hb
      simp only [List.append_nil, Rows.uptoBulkAll] at hb
      omega
  clear hA0
  refine (hintDecodes_any a0 bs.length c0 bs W rA rfl hcap (by omega)).mono fun e W' ⟨he, bel⟩ => ?_
  subst he
  exact ⟨_, rfl, _, _, _, [], _, [], hW', trodAll_mk1 (shut_bool Try.underlying4 _),
    (trodAll_cons_mk (Below.trod laidOut (by kernel_rfl) (of_decide_eq_true (by kernel_rfl)) k0 bel lt0) trodAll_mk0), rfl, bel.frame _, fun h => by cases h⟩

theorem hintDecodes_holds : Rows.HintDecodesUptoSaid :=
  OpenClaim.holds_of_cond 4 Try.f4 rfl rfl rfl rfl rfl rfl rfl ⟨rfl, rfl, rfl, rfl, rfl⟩ rfl rfl rfl rfl rfl (by kernel_rfl) Try.func4 (by kernel_rfl)
    (of_decide_eq_true (by kernel_rfl)) (by unfold Func.isWrapper; first | (rw [if_pos (by decide +kernel)]; kernel_rfl) | (rw [if_neg (by decide +kernel)]; exact ⟨rfl, rfl⟩))
    (fun os started H enc _ F => dec_lifted os started H enc F)
end Go.Proofs.Ytifimeohdgnehaa
