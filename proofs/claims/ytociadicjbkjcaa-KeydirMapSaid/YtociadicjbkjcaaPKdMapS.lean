/- KeydirMap: for every items and gone a directory laid from the items answers each key with what it was last given, and a key removed no longer; the law returns true; what came in reads as it did; no condition. -/
import Derived.Test.YtociadicjbkjcaaKd22
import Derived.Test.YtociadicjbkjcaaOpenK
import Derived.OpenShut
import Derived.JoinedCond
namespace Go.Proofs.Ytociadicjbkjcaa
open Go.ChangeShapes Go.WideShapes Go.ChangeAt Go.RowKit Go.Deep

theorem ownK : ownKnob Try.prog.godebug = none := by kernel_rfl
theorem laidOut : laidOutB Try.prog = true := by kernel_rfl

theorem row_len {H : Type} {d : DataW H} {l : Nat} {p : Prop} {z q : Nat} (h : (d = .nil ∧ p) ∨ ∃ el sp, d = .slice el sp ∧ el.length = l) (hp : p → l = 0) (hq : ∀ el sp, d = .slice el sp → (el.length + sp.length) * z ≤ q) : l * z ≤ q := by
  rcases h with ⟨_, h⟩ | ⟨el, sp, h1, h2⟩
  · rw [hp h]; omega
  · have h3 := hq el sp h1
    rw [← h2]
    exact Nat.le_trans (Nat.mul_le_mul_right _ (by omega)) h3

set_option maxRecDepth 100000 in
theorem map_lifted (os : Os) (started : os.Started) (H : Type) (enc : TypeId × Value → H) :
    ReturnsInHanded {} Try.checked os 4 .any (Rows.keydirMapSpec.pre6 enc Try.prog Try.f4 Rows.keydirMapRow.domain false) (Rows.keydirMapSpec.post enc Try.prog Try.f4 false true false false) := by
  refine returnsInHanded_of_change_sized (C := Try.checked) ownK started (by kernel_rfl) Try.func4
    (ChangeSpec.witness6 (enc := enc) (C := Try.checked) false ⟨#[], #[.slice none 0 0, .slice none 0 0], []⟩ 8 (by kernel_rfl) (by kernel_rfl) (by kernel_rfl) (by kernel_rfl)) ?_
  intro W base args ds gs before hval0 hW hcnd hsz _
  have hval : ∀ (j : Nat) t v, Try.f4.params[j]? = some t → args[j]? = some v → Value.okWide Try.prog W .any base t v := hval0
  have hW' := hW
  obtain ⟨p, q, hA0, hV, rfl, hfz, hnd⟩ := hW
  have hA : DataW.TrodAll enc Try.prog W 0 (fun _ => true) true Try.f4.params.toList args.toList ds p := hA0
  rw [Try.params4] at hA hval hsz
  obtain ⟨v0, vs0, d0, ds0, p0, q0, hargs, rfl, rfl, h0, r0⟩ := trodAll_cons hA
  obtain ⟨v1, vs1, d1, ds1, p1, q1, rfl, rfl, rfl, h1, r1⟩ := trodAll_cons r0
  obtain ⟨rfl, rfl, rfl⟩ := trodAll_nil r1
  obtain rfl : args = #[v0, v1] := by cases args; simp_all
  obtain ⟨rfl, rfl⟩ := trodVars_none hV
  have k0 := h0
  have k1 := h1
  have lt0 : ∀ x ∈ p0, x.block < W.heap.size := by obtain ⟨m, hm⟩ := k0; exact DataW.trod_lt m _ _ _ hm
  have lt1 : ∀ x ∈ p1, x.block < W.heap.size := by obtain ⟨m, hm⟩ := k1; exact DataW.trod_lt m _ _ _ hm
  obtain ⟨a0, n0, c0, rfl⟩ := okWide_slice Try.underlying24 (hval 0 _ _ rfl rfl)
  obtain ⟨a1, n1, c1, rfl⟩ := okWide_slice Try.underlying22 (hval 1 _ _ rfl rfl)
  obtain ⟨m0, h0'⟩ := h0
  obtain ⟨m1, h1'⟩ := h1
  obtain ⟨A0, l0, e0, hv0, rA0, g0, b0, _⟩ := op_structs (c := .slice a0 n0 c0) keC (fun a : KE => a.1.size ≤ maxLen) 7 (fun _ => rfl) Try.underlying24 (by kernel_rfl) op_ke h0'
  obtain ⟨A1, l1, e1, hv1, rA1, g1, b1, _⟩ := op_structs (c := .slice a1 n1 c1) (fun s : ByteArray => [Value.string s]) (fun s : ByteArray => s.size ≤ maxLen) 1 (fun _ => rfl) Try.underlying22 (by kernel_rfl) op_str1 h1'
  have rB1 : Rd W W.heap.size A1 (l1.map Value.string) := by
    have hm := flat_str l1
    rwa [hm] at rA1
  injection hv0 with z1 z2 z3
  subst z1 z2 z3
  injection hv1 with z1 z2 z3
  subst z1 z2 z3
  have s0 : l0.length * 64 ≤ 140737488351232 := row_len b0 (fun h => by rw [h]; rfl) (fun el sp h => sized_slice hsz (j := 0) (t := 24) rfl (congrArg some h) Try.underlying24)
  have s1 : l1.length * 16 ≤ 140737488351232 := row_len b1 (fun h => by rw [h]; rfl) (fun el sp h => sized_slice hsz (j := 1) (t := 22) rfl (congrArg some h) Try.underlying22)
  clear hA0 hval0 hsz
  refine (keydirMap_any _ _ _ _ _ _ l0 l1 W rA0 rB1 rfl rfl (by omega) (by omega) g0 g1).mono fun e W' ⟨he, bel⟩ => ?_
  subst he
  exact ⟨_, rfl, _, _, _, [], _, [], hW', trodAll_mk1 (shut_bool Try.underlying4 _),
    (trodAll_cons_mk (Below.trod laidOut (by kernel_rfl) (of_decide_eq_true (by kernel_rfl)) k0 bel lt0) (trodAll_cons_mk (Below.trod laidOut (by kernel_rfl) (of_decide_eq_true (by kernel_rfl)) k1 bel lt1) trodAll_mk0)), rfl, bel.frame _, fun h => by cases h⟩

theorem map_over : Rows.keydirMapRow.holds Try.pinned (OpenSpec.ofChange Rows.keydirMapSpec) :=
  OpenClaim.holds_of_wide 4 Try.f4 rfl rfl rfl rfl rfl rfl rfl ⟨rfl, rfl, rfl, rfl, rfl⟩ rfl rfl rfl rfl rfl (by kernel_rfl) Try.func4 (by kernel_rfl)
    (of_decide_eq_true (by kernel_rfl)) (by unfold Func.isWrapper; first | (rw [if_pos (by decide +kernel)]; kernel_rfl) | (rw [if_neg (by decide +kernel)]; exact ⟨rfl, rfl⟩))
    (fun os started H enc _ => map_lifted os started H enc)

theorem keydirMap_all : Rows.KeydirMapSaid := map_over
end Go.Proofs.Ytociadicjbkjcaa
