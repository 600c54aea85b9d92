/- KeydirNoted: for every keys and turns of bulk at most 1048576 (the '..Upto' form) two directories that are told of the same entries, in order and in an order that the turns pick, answer alike: each key has the entry of greatest offset; the law returns true; what came in reads as it did. -/
import Derived.Test.YtociadicjbkjcaaKd24
import Derived.Test.YtociadicjbkjcaaOpenK
import Derived.OpenShut
import Derived.JoinedCond
namespace Go.Proofs.Ytociadicjbkjcaa
open Go.ChangeShapes Go.WideShapes Go.ChangeAt Go.RowKit Go.Deep

theorem ownK : ownKnob Try.prog.godebug = none := by kernel_rfl
theorem laidOut : laidOutB Try.prog = true := by kernel_rfl

set_option maxRecDepth 100000 in
theorem noted_lifted (os : Os) (started : os.Started) (H : Type) (enc : TypeId × Value → H) (F : Stop.Interp) :
    ReturnsInHanded {} Try.checked os 3 .any ((Rows.OpenSpec.upto Rows.keydirNotedSpec).pre6 enc Try.prog Try.f3 Rows.keydirNotedUptoRow.domain false) (((Rows.OpenSpec.upto Rows.keydirNotedSpec).at F).post enc Try.prog Try.f3 false true false false) := by
  refine returnsInHanded_of_cond (C := Try.checked) (s := Rows.OpenSpec.upto Rows.keydirNotedSpec) (k := Rows.uptoSmall) rfl ownK started (by kernel_rfl) Try.func3
    (OpenSpec.witness (enc := enc) (C := Try.checked) (s := Rows.OpenSpec.upto Rows.keydirNotedSpec) (k := Rows.uptoSmall) rfl false ⟨#[], #[.slice none 0 0, .slice none 0 0], []⟩ 8 (by kernel_rfl) (by kernel_rfl) (by kernel_rfl)
      (x := ([.nil, .nil], [], [])) (by kernel_rfl) rfl (by kernel_rfl)) ?_
  intro W base args ds gs before hval hW _ hk _
  have hW' := hW
  obtain ⟨p, q, hA0, hV, rfl, hfz, hnd⟩ := hW
  have hA : DataW.TrodAll enc Try.prog W 0 (fun _ => true) true Try.f3.params.toList args.toList ds p := hA0
  rw [Try.params3] at hA hval
  obtain ⟨v0, vs0, d0, ds0, p0, q0, hargs, rfl, rfl, h0, r0⟩ := trodAll_cons hA
  obtain ⟨v1, vs1, d1, ds1, p1, q1, rfl, rfl, rfl, h1, r1⟩ := trodAll_cons r0
  obtain ⟨rfl, rfl, rfl⟩ := trodAll_nil r1
  obtain rfl : args = #[v0, v1] := by cases args; simp_all
  obtain ⟨rfl, rfl⟩ := trodVars_none hV
  have k0 := h0
  have k1 := h1
  have lt0 : ∀ x ∈ p0, x.block < W.heap.size := by obtain ⟨m, hm⟩ := k0; exact DataW.trod_lt m _ _ _ hm
  have lt1 : ∀ x ∈ p1, x.block < W.heap.size := by obtain ⟨m, hm⟩ := k1; exact DataW.trod_lt m _ _ _ hm
  obtain ⟨a0, n0, c0, rfl⟩ := okWide_slice Try.underlying22 (hval 0 _ _ rfl rfl)
  obtain ⟨a1, n1, c1, rfl⟩ := okWide_slice Try.underlying23 (hval 1 _ _ rfl rfl)
  obtain ⟨m0, h0'⟩ := h0
  obtain ⟨m1, h1'⟩ := h1
  obtain ⟨A0, l0, e0, hv0, rA0, g0, b0, _⟩ := op_structs (c := .slice a0 n0 c0) (fun s : ByteArray => [Value.string s]) (fun s : ByteArray => s.size ≤ maxLen) 1 (fun _ => rfl) Try.underlying22 (by kernel_rfl) op_str1 h0'
  obtain ⟨A1, l1, e1, hv1, rA1, g1, b1, _⟩ := op_ints (c := .slice a1 n1 c1) Try.underlying23 Try.underlying3 (by kernel_rfl) h1'
  have rB0 : Rd W W.heap.size A0 (l0.map Value.string) := by
    have hm := flat_str l0
    rwa [hm] at rA0
  injection hv0 with z1 z2 z3
  subst z1 z2 z3
  injection hv1 with z1 z2 z3
  subst z1 z2 z3
  have hb := bulk_bound hk
  simp only [List.append_nil, Rows.uptoBulkAll] at hb
  have s0 := bulk_row (q := 2000000) b0 (fun h => by rw [h]; rfl) (by show Rows.uptoBulk d0 ≤ 2000000; omega)
  have s1 := bulk_row (q := 2000000) b1 (fun h => by rw [h]; rfl) (by show Rows.uptoBulk d1 ≤ 2000000; omega)
  clear hA0
  refine (keydirNoted_any _ _ _ _ _ _ l0 l1 W rB0 rA1 rfl rfl (by omega) (by omega) g0).mono fun e W' ⟨he, bel⟩ => ?_
  subst he
  exact ⟨_, rfl, _, _, _, [], _, [], hW', trodAll_mk1 (shut_bool Try.underlying4 _),
    (trodAll_cons_mk (Below.trod laidOut (by kernel_rfl) (of_decide_eq_true (by kernel_rfl)) k0 bel lt0) (trodAll_cons_mk (Below.trod laidOut (by kernel_rfl) (of_decide_eq_true (by kernel_rfl)) k1 bel lt1) trodAll_mk0)), rfl, bel.frame _, fun h => by cases h⟩

theorem keydirNoted_holds : Rows.KeydirNotedUptoSaid :=
  OpenClaim.holds_of_cond 3 Try.f3 rfl rfl rfl rfl rfl rfl rfl ⟨rfl, rfl, rfl, rfl, rfl⟩ rfl rfl rfl rfl rfl (by kernel_rfl) Try.func3 (by kernel_rfl)
    (of_decide_eq_true (by kernel_rfl)) (by unfold Func.isWrapper; first | (rw [if_pos (by decide +kernel)]; kernel_rfl) | (rw [if_neg (by decide +kernel)]; exact ⟨rfl, rfl⟩))
    (fun os started H enc _ F => noted_lifted os started H enc F)
end Go.Proofs.Ytociadicjbkjcaa
