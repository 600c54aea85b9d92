import Derived.Test.YtebeefkibbbkdaaUc
import Derived.Test.YtebeefkibbbkdaaUh
import Derived.Test.YtebeefkibbbkdaaUi
import Derived.Test.YtebeefkibbbkdaaRows
import Derived.OpenShut
import Derived.JoinedCond
/- ManifestWhole: the law, joined. -/
namespace Go.Proofs.Ytebeefkibbbkdaa
open Go.RowKit Go.Maps

theorem whole_law (nm : ByteArray) (A0 : Option Addr) (n0 c0 : Nat) (old : List UInt8) (A1 : Option Addr) (n1 c1 : Nat) (next : List UInt8) (th : Bool) (f : Int) (Ap : Option Addr) (np cp : Nat) (ps : List Int) (W : World) (h0 : Rd W W.heap.size A0 (bv old)) (hn0 : old.length = n0) (hm0 : n0 ≤ 1048576) (h1 : Rd W W.heap.size A1 (bv next)) (hn1 : next.length = n1) (hm1 : n1 ≤ 1048576) (hz : nm.size ≤ 1048576) (hf : f ≤ 9223372036854775807)
    (hP : Rd W W.heap.size Ap (ps.map (Value.int .i64))) (hnp : ps.length = np) (hcp : np ≤ cp) (hwf : ∀ x ∈ ps, (Lit.int .i64 x).wf = true) (hpl : np ≤ 1048576) :
    Calls Try.prog 3 #[.string nm, .slice A0 n0 c0, .slice A1 n1 c1, .bool th, .int .i64 f, .slice Ap np cp] W fun e w' => e = .returned (.bool true) ∧ Below W.heap.size W w' := by
  cases th with
  | false => exact whole_none nm A0 n0 c0 old A1 n1 c1 next f Ap np cp ps W h0 hn0 hm0 h1 hn1 hm1 hz hf hP hnp hcp hwf hpl
  | true =>
    cases hg : goodN nm with
    | false => exact whole_bad nm A0 n0 c0 old A1 n1 c1 f Ap np cp W h0 hn0 hm0 hz hg works_any
    | true => exact whole_one nm A0 n0 c0 old A1 n1 c1 next f Ap np cp ps W h0 hn0 hm0 h1 hn1 hm1 hz hf hP hnp hcp hwf hpl hg
end Go.Proofs.Ytebeefkibbbkdaa
/- ManifestWhole, the '..Upto' form: the law returns true; what came in reads as it did. -/
namespace Go.Proofs.Ytebeefkibbbkdaa
open Go.ChangeShapes Go.WideShapes Go.ChangeAt Go.RowKit Go.Deep

theorem ownK : ownKnob Try.prog.godebug = none := by kernel_rfl
theorem laidOut : laidOutB Try.prog = true := by kernel_rfl

set_option maxRecDepth 100000 in
theorem manifestWhole_lifted (os : Os) (started : os.Started) (H : Type) (enc : TypeId × Value → H) (F : Stop.Interp) :
    ReturnsInHanded {} Try.checked os 3 .any ((Rows.OpenSpec.upto Rows.manifestWholeSpec).pre6 enc Try.prog Try.f3 Rows.manifestWholeUptoRow.domain false) (((Rows.OpenSpec.upto Rows.manifestWholeSpec).at F).post enc Try.prog Try.f3 false true false false) := by
  refine returnsInHanded_of_cond (C := Try.checked) (s := Rows.OpenSpec.upto Rows.manifestWholeSpec) (k := Rows.uptoSmall) rfl ownK started (by kernel_rfl) Try.func3
    (OpenSpec.witness (enc := enc) (C := Try.checked) (s := Rows.OpenSpec.upto Rows.manifestWholeSpec) (k := Rows.uptoSmall) rfl false ⟨#[], #[.string ByteArray.empty, .slice none 0 0, .slice none 0 0, .bool false, .int .i64 0, .slice none 0 0], []⟩ 8 (by kernel_rfl) (by kernel_rfl) (by kernel_rfl)
      (x := ([.lit (.string []), .nil, .nil, .lit (.bool false), .lit (.int .i64 0), .nil], [], [])) (by kernel_rfl) rfl (by kernel_rfl)) ?_
  intro W base args ds gs before hval hW _ hk _
  have hW' := hW
  obtain ⟨p, q, hA0, hV, rfl, hfz, hnd⟩ := hW
  have hA : DataW.TrodAll enc Try.prog W 0 (fun _ => true) true Try.f3.params.toList args.toList ds p := hA0
  rw [Try.params3] at hA hval
  obtain ⟨v0, vs0, d0, ds0, p0, q0, hargs, rfl, rfl, h0, r0⟩ := trodAll_cons hA
  obtain ⟨v1, vs1, d1, ds1, p1, q1, rfl, rfl, rfl, h1, r1⟩ := trodAll_cons r0
  obtain ⟨v2, vs2, d2, ds2, p2, q2, rfl, rfl, rfl, h2, r2⟩ := trodAll_cons r1
  obtain ⟨v3, vs3, d3, ds3, p3, q3, rfl, rfl, rfl, h3, r3⟩ := trodAll_cons r2
  obtain ⟨v4, vs4, d4, ds4, p4, q4, rfl, rfl, rfl, h4, r4⟩ := trodAll_cons r3
  obtain ⟨v5, vs5, d5, ds5, p5, q5, rfl, rfl, rfl, h5, r5⟩ := trodAll_cons r4
  obtain ⟨rfl, rfl, rfl⟩ := trodAll_nil r5
  obtain rfl : args = #[v0, v1, v2, v3, v4, v5] := by cases args; simp_all
  obtain ⟨rfl, rfl⟩ := trodVars_none hV
  have k0 := h0
  have k1 := h1
  have k2 := h2
  have k3 := h3
  have k4 := h4
  have k5 := h5
  have lt0 : ∀ x ∈ p0, x.block < W.heap.size := by obtain ⟨m, hm⟩ := k0; exact DataW.trod_lt m _ _ _ hm
  have lt1 : ∀ x ∈ p1, x.block < W.heap.size := by obtain ⟨m, hm⟩ := k1; exact DataW.trod_lt m _ _ _ hm
  have lt2 : ∀ x ∈ p2, x.block < W.heap.size := by obtain ⟨m, hm⟩ := k2; exact DataW.trod_lt m _ _ _ hm
  have lt3 : ∀ x ∈ p3, x.block < W.heap.size := by obtain ⟨m, hm⟩ := k3; exact DataW.trod_lt m _ _ _ hm
  have lt4 : ∀ x ∈ p4, x.block < W.heap.size := by obtain ⟨m, hm⟩ := k4; exact DataW.trod_lt m _ _ _ hm
  have lt5 : ∀ x ∈ p5, x.block < W.heap.size := by obtain ⟨m, hm⟩ := k5; exact DataW.trod_lt m _ _ _ hm
  obtain ⟨s0, rfl⟩ := okWide_string Try.underlying9 (hval 0 _ _ rfl rfl)
  obtain ⟨a1, n1, c1, rfl⟩ := okWide_slice Try.underlying22 (hval 1 _ _ rfl rfl)
  obtain ⟨a2, n2, c2, rfl⟩ := okWide_slice Try.underlying22 (hval 2 _ _ rfl rfl)
  obtain ⟨b3, rfl⟩ := okWide_bool Try.underlying4 (hval 3 _ _ rfl rfl)
  obtain ⟨x4, rfl⟩ := okWide_int Try.underlying3 (hval 4 _ _ rfl rfl)
  obtain ⟨a5, n5, c5, rfl⟩ := okWide_slice Try.underlying23 (hval 5 _ _ rfl rfl)
  obtain ⟨m0, h0'⟩ := h0
  obtain ⟨m1, h1'⟩ := h1
  obtain ⟨m2, h2'⟩ := h2
  obtain ⟨m3, h3'⟩ := h3
  obtain ⟨m4, h4'⟩ := h4
  obtain ⟨m5, h5'⟩ := h5
  have hb := bulk_bound hk
  simp only [List.append_nil, Rows.uptoBulkAll] at hb
  obtain ⟨z0, ez0, dz0, _⟩ := op_string (c := .string s0) Try.underlying9 (by exact h0')
  injection ez0 with ez0'
  subst ez0'
  have bz0 : s0.size + 1 ≤ Rows.uptoBulk d0 := by
    have e : d0 = .lit (.string s0.data.toList) := congrArg Prod.fst dz0
    rw [e]
    simp [Rows.uptoBulk]
  obtain ⟨A1, l1, e1, hv1, rp1, _, bp1⟩ := op_bytes (c := .slice a1 n1 c1) Try.underlying22 Try.underlying5 (by kernel_rfl) h1'
  injection hv1 with z1 z2 z3
  subst z1 z2 z3
  have bl1 := bulk_to bp1 (fun h => by rw [h]; rfl)
  dsimp only at bl1
  obtain ⟨A2, l2, e2, hv2, rp2, _, bp2⟩ := op_bytes (c := .slice a2 n2 c2) Try.underlying22 Try.underlying5 (by kernel_rfl) h2'
  injection hv2 with z1 z2 z3
  subst z1 z2 z3
  have bl2 := bulk_to bp2 (fun h => by rw [h]; rfl)
  dsimp only at bl2
  obtain ⟨z4, ez4, _, wf4⟩ := op_int (c := .int .i64 x4) Try.underlying3 (by exact h4')
  injection ez4 with _ ez4'
  subst ez4'
  have hx4 : x4 ≤ 9223372036854775807 := by simp [Lit.wf, IntKind.min, IntKind.max, IntKind.signed, IntKind.bits] at wf4; omega
  obtain ⟨A5, l5, e5, hv5, rp5, wf5, bp5, cp5⟩ := op_intsc (c := .slice a5 n5 c5) Try.underlying23 Try.underlying3 (by kernel_rfl) h5'
  injection hv5 with z1 z2 z3
  subst z1 z2 z3
  have bl5 := bulk_to bp5 (fun h => by rw [h]; rfl)
  dsimp only at bl5
  clear hA0
  refine (whole_law s0 _ _ _ l1 _ _ _ l2 b3 x4 _ _ _ l5 W rp1 rfl (by omega) rp2 rfl (by omega) (by omega) hx4 rp5 rfl cp5 wf5 (by omega)).mono fun e W' ⟨he, bel⟩ => ?_
  subst he
  exact ⟨_, rfl, _, _, _, [], _, [], hW', trodAll_mk1 (shut_bool Try.underlying4 _),
    (trodAll_cons_mk (Below.trod laidOut (by kernel_rfl) (of_decide_eq_true (by kernel_rfl)) k0 bel lt0) (trodAll_cons_mk (Below.trod laidOut (by kernel_rfl) (of_decide_eq_true (by kernel_rfl)) k1 bel lt1) (trodAll_cons_mk (Below.trod laidOut (by kernel_rfl) (of_decide_eq_true (by kernel_rfl)) k2 bel lt2) (trodAll_cons_mk (Below.trod laidOut (by kernel_rfl) (of_decide_eq_true (by kernel_rfl)) k3 bel lt3) (trodAll_cons_mk (Below.trod laidOut (by kernel_rfl) (of_decide_eq_true (by kernel_rfl)) k4 bel lt4) (trodAll_cons_mk (Below.trod laidOut (by kernel_rfl) (of_decide_eq_true (by kernel_rfl)) k5 bel lt5) trodAll_mk0)))))), rfl, bel.frame _, fun h => by cases h⟩

theorem manifestWhole_holds : Rows.ManifestWholeUptoSaid :=
  OpenClaim.holds_of_cond 3 Try.f3 rfl rfl rfl rfl rfl rfl rfl ⟨rfl, rfl, rfl, rfl, rfl⟩ rfl rfl rfl rfl rfl (by kernel_rfl) Try.func3 (by kernel_rfl)
    (of_decide_eq_true (by kernel_rfl)) (by unfold Func.isWrapper; first | (rw [if_pos (by decide +kernel)]; kernel_rfl) | (rw [if_neg (by decide +kernel)]; exact ⟨rfl, rfl⟩))
    (fun os started H enc _ F => manifestWhole_lifted os started H enc F)
end Go.Proofs.Ytebeefkibbbkdaa
