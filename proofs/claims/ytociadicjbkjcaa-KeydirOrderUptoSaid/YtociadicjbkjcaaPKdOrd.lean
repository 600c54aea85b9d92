/- KeydirOrder: for every items, lo, hi and p of bulk at most 1048576 (the '..Upto' form) a directory laid from the items tells its keys rising, Rank and Nth are each other's inverse, All gives what lies between lo and hi, Prefix what begins with p; the law returns true; what came in reads as it did. -/
import Derived.Test.YtociadicjbkjcaaKd37
import Derived.Test.YtociadicjbkjcaaOpenK
import Derived.OpenShut
import Derived.JoinedCond
namespace Go.Proofs.Ytociadicjbkjcaa
open Go.ChangeShapes Go.WideShapes Go.ChangeAt Go.RowKit Go.Deep

theorem ownK : ownKnob Try.prog.godebug = none := by kernel_rfl
theorem laidOut : laidOutB Try.prog = true := by kernel_rfl

set_option maxRecDepth 100000 in
set_option maxHeartbeats 4000000 in
theorem order_lifted (os : Os) (started : os.Started) (H : Type) (enc : TypeId × Value → H) (F : Stop.Interp) :
    ReturnsInHanded {} Try.checked os 6 .any ((Rows.OpenSpec.upto Rows.keydirOrderSpec).pre6 enc Try.prog Try.f6 Rows.keydirOrderUptoRow.domain false) (((Rows.OpenSpec.upto Rows.keydirOrderSpec).at F).post enc Try.prog Try.f6 false true false false) := by
  refine returnsInHanded_of_cond (C := Try.checked) (s := Rows.OpenSpec.upto Rows.keydirOrderSpec) (k := Rows.uptoSmall) rfl ownK started (by kernel_rfl) Try.func6
    (OpenSpec.witness (enc := enc) (C := Try.checked) (s := Rows.OpenSpec.upto Rows.keydirOrderSpec) (k := Rows.uptoSmall) rfl false ⟨#[], #[.slice none 0 0, .string ⟨#[]⟩, .string ⟨#[]⟩, .string ⟨#[]⟩], []⟩ 8 (by kernel_rfl) (by kernel_rfl) (by kernel_rfl)
      (x := ([.nil, .lit (.string []), .lit (.string []), .lit (.string [])], [], [])) (by kernel_rfl) rfl (by kernel_rfl)) ?_
  intro W base args ds gs before hval hW _ hk _
  have hW' := hW
  obtain ⟨p, q, hA0, hV, rfl, hfz, hnd⟩ := hW
  have hA : DataW.TrodAll enc Try.prog W 0 (fun _ => true) true Try.f6.params.toList args.toList ds p := hA0
  rw [Try.params6] at hA hval
  obtain ⟨v0, vs0, d0, ds0, p0, q0, hargs, rfl, rfl, h0, r0⟩ := trodAll_cons hA
  obtain ⟨v1, vs1, d1, ds1, p1, q1, rfl, rfl, rfl, h1, r1⟩ := trodAll_cons r0
  obtain ⟨v2, vs2, d2, ds2, p2, q2, rfl, rfl, rfl, h2, r2⟩ := trodAll_cons r1
  obtain ⟨v3, vs3, d3, ds3, p3, q3, rfl, rfl, rfl, h3, r3⟩ := trodAll_cons r2
  obtain ⟨rfl, rfl, rfl⟩ := trodAll_nil r3
  obtain rfl : args = #[v0, v1, v2, v3] := by cases args; simp_all
  obtain ⟨rfl, rfl⟩ := trodVars_none hV
  have k0 := h0
  have k1 := h1
  have k2 := h2
  have k3 := h3
  have lt0 : ∀ x ∈ p0, x.block < W.heap.size := by obtain ⟨m, hm⟩ := k0; exact DataW.trod_lt m _ _ _ hm
  have lt1 : ∀ x ∈ p1, x.block < W.heap.size := by obtain ⟨m, hm⟩ := k1; exact DataW.trod_lt m _ _ _ hm
  have lt2 : ∀ x ∈ p2, x.block < W.heap.size := by obtain ⟨m, hm⟩ := k2; exact DataW.trod_lt m _ _ _ hm
  have lt3 : ∀ x ∈ p3, x.block < W.heap.size := by obtain ⟨m, hm⟩ := k3; exact DataW.trod_lt m _ _ _ hm
  obtain ⟨a0, n0, c0, rfl⟩ := okWide_slice Try.underlying24 (hval 0 _ _ rfl rfl)
  obtain ⟨u1, rfl⟩ := okWide_string Try.underlying9 (hval 1 _ _ rfl rfl)
  obtain ⟨u2, rfl⟩ := okWide_string Try.underlying9 (hval 2 _ _ rfl rfl)
  obtain ⟨u3, rfl⟩ := okWide_string Try.underlying9 (hval 3 _ _ rfl rfl)
  obtain ⟨m0, h0'⟩ := h0
  obtain ⟨m1, h1'⟩ := h1
  obtain ⟨m2, h2'⟩ := h2
  obtain ⟨m3, h3'⟩ := h3
  obtain ⟨A0, l0, e0, hv0, rA0, g0, b0, _⟩ := op_structs (c := .slice a0 n0 c0) keC (fun a : KE => a.1.size ≤ maxLen) 7 (fun _ => rfl) Try.underlying24 (by kernel_rfl) op_ke h0'
  obtain ⟨s1, hs1, _, z1⟩ := op_string (c := .string u1) Try.underlying9 h1'
  injection hs1 with hs1
  subst hs1
  obtain ⟨s2, hs2, _, z2⟩ := op_string (c := .string u2) Try.underlying9 h2'
  injection hs2 with hs2
  subst hs2
  obtain ⟨s3, hs3, _, z3⟩ := op_string (c := .string u3) Try.underlying9 h3'
  injection hs3 with hs3
  subst hs3
  injection hv0 with y1 y2 y3
  subst y1 y2 y3
  have hb := bulk_bound hk
  simp only [List.append_nil, Rows.uptoBulkAll] at hb
  have s0 := bulk_row (q := 2000000) b0 (fun h => by rw [h]; rfl) (by show Rows.uptoBulk d0 ≤ 2000000; omega)
  clear hA0
  refine (keydirOrder_any _ _ _ l0 u1 u2 u3 W rA0 rfl (by omega) g0 z1 z2 z3).mono fun e W' ⟨he, bel⟩ => ?_
  subst he
  exact ⟨_, rfl, _, _, _, [], _, [], hW', trodAll_mk1 (shut_bool Try.underlying4 _),
    (trodAll_cons_mk (Below.trod laidOut (by kernel_rfl) (of_decide_eq_true (by kernel_rfl)) k0 bel lt0) (trodAll_cons_mk (Below.trod laidOut (by kernel_rfl) (of_decide_eq_true (by kernel_rfl)) k1 bel lt1) (trodAll_cons_mk (Below.trod laidOut (by kernel_rfl) (of_decide_eq_true (by kernel_rfl)) k2 bel lt2) (trodAll_cons_mk (Below.trod laidOut (by kernel_rfl) (of_decide_eq_true (by kernel_rfl)) k3 bel lt3) trodAll_mk0)))), rfl, bel.frame _, fun h => by cases h⟩

theorem keydirOrder_holds : Rows.KeydirOrderUptoSaid :=
  OpenClaim.holds_of_cond 6 Try.f6 rfl rfl rfl rfl rfl rfl rfl ⟨rfl, rfl, rfl, rfl, rfl⟩ rfl rfl rfl rfl rfl (by kernel_rfl) Try.func6 (by kernel_rfl)
    (of_decide_eq_true (by kernel_rfl)) (by unfold Func.isWrapper; first | (rw [if_pos (by decide +kernel)]; kernel_rfl) | (rw [if_neg (by decide +kernel)]; exact ⟨rfl, rfl⟩))
    (fun os started H enc _ F => order_lifted os started H enc F)
end Go.Proofs.Ytociadicjbkjcaa
