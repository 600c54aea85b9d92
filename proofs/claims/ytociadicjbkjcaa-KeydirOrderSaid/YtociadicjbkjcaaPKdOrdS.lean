/- KeydirOrder: for every items, lo, hi and p a directory laid from the items tells its keys rising, Rank and Nth are each other's inverse, All gives what lies between lo and hi, Prefix what begins with p; the law returns true; what came in reads as it did; no condition. -/
import Derived.Test.YtociadicjbkjcaaKd37
import Derived.Test.YtociadicjbkjcaaOpenK
import Derived.OpenShut
import Derived.JoinedCond
namespace Go.Proofs.Ytociadicjbkjcaa
open Go.ChangeShapes Go.WideShapes Go.ChangeAt Go.RowKit Go.Deep

theorem ownK : ownKnob Try.prog.godebug = none := by kernel_rfl
theorem laidOut : laidOutB Try.prog = true := by kernel_rfl

theorem row_len {H : Type} {d : DataW H} {l : Nat} {p : Prop} {z q : Nat} (h : (d = .nil ∧ p) ∨ ∃ el sp, d = .slice el sp ∧ el.length = l) (hp : p → l = 0) (hq : ∀ el sp, d = .slice el sp → (el.length + sp.length) * z ≤ q) : l * z ≤ q := by
  rcases h with ⟨_, h⟩ | ⟨el, sp, h1, h2⟩
  · rw [hp h]; omega
  · have h3 := hq el sp h1
    rw [← h2]
    exact Nat.le_trans (Nat.mul_le_mul_right _ (by omega)) h3

set_option maxRecDepth 100000 in
set_option maxHeartbeats 4000000 in
theorem order_all (os : Os) (started : os.Started) (H : Type) (enc : TypeId × Value → H) :
    ReturnsInHanded {} Try.checked os 6 .any (Rows.keydirOrderSpec.pre6 enc Try.prog Try.f6 Rows.keydirOrderRow.domain false) (Rows.keydirOrderSpec.post enc Try.prog Try.f6 false true false false) := by
  refine returnsInHanded_of_change_sized (C := Try.checked) ownK started (by kernel_rfl) Try.func6
    (ChangeSpec.witness6 (enc := enc) (C := Try.checked) false ⟨#[], #[.slice none 0 0, .string ⟨#[]⟩, .string ⟨#[]⟩, .string ⟨#[]⟩], []⟩ 8 (by kernel_rfl) (by kernel_rfl) (by kernel_rfl) (by kernel_rfl)) ?_
  intro W base args ds gs before hval0 hW hcnd hsz _
  have hval : ∀ (j : Nat) t v, Try.f6.params[j]? = some t → args[j]? = some v → Value.okWide Try.prog W .any base t v := hval0
  have hW' := hW
  obtain ⟨p, q, hA0, hV, rfl, hfz, hnd⟩ := hW
  have hA : DataW.TrodAll enc Try.prog W 0 (fun _ => true) true Try.f6.params.toList args.toList ds p := hA0
  rw [Try.params6] at hA hval hsz
  obtain ⟨v0, vs0, d0, ds0, p0, q0, hargs, rfl, rfl, h0, r0⟩ := trodAll_cons hA
  obtain ⟨v1, vs1, d1, ds1, p1, q1, rfl, rfl, rfl, h1, r1⟩ := trodAll_cons r0
  obtain ⟨v2, vs2, d2, ds2, p2, q2, rfl, rfl, rfl, h2, r2⟩ := trodAll_cons r1
  obtain ⟨v3, vs3, d3, ds3, p3, q3, rfl, rfl, rfl, h3, r3⟩ := trodAll_cons r2
  obtain ⟨rfl, rfl, rfl⟩ := trodAll_nil r3
  obtain rfl : args = #[v0, v1, v2, v3] := by cases args; simp_all
  obtain ⟨rfl, rfl⟩ := trodVars_none hV
  have k0 := h0
  have k1 := h1
  have k2 := h2
  have k3 := h3
  have lt0 : ∀ x ∈ p0, x.block < W.heap.size := by obtain ⟨m, hm⟩ := k0; exact DataW.trod_lt m _ _ _ hm
  have lt1 : ∀ x ∈ p1, x.block < W.heap.size := by obtain ⟨m, hm⟩ := k1; exact DataW.trod_lt m _ _ _ hm
  have lt2 : ∀ x ∈ p2, x.block < W.heap.size := by obtain ⟨m, hm⟩ := k2; exact DataW.trod_lt m _ _ _ hm
  have lt3 : ∀ x ∈ p3, x.block < W.heap.size := by obtain ⟨m, hm⟩ := k3; exact DataW.trod_lt m _ _ _ hm
  obtain ⟨a0, n0, c0, rfl⟩ := okWide_slice Try.underlying24 (hval 0 _ _ rfl rfl)
  obtain ⟨u1, rfl⟩ := okWide_string Try.underlying9 (hval 1 _ _ rfl rfl)
  obtain ⟨u2, rfl⟩ := okWide_string Try.underlying9 (hval 2 _ _ rfl rfl)
  obtain ⟨u3, rfl⟩ := okWide_string Try.underlying9 (hval 3 _ _ rfl rfl)
  obtain ⟨m0, h0'⟩ := h0
  obtain ⟨m1, h1'⟩ := h1
  obtain ⟨m2, h2'⟩ := h2
  obtain ⟨m3, h3'⟩ := h3
  obtain ⟨A0, l0, e0, hv0, rA0, g0, b0, _⟩ := op_structs (c := .slice a0 n0 c0) keC (fun a : KE => a.1.size ≤ maxLen) 7 (fun _ => rfl) Try.underlying24 (by kernel_rfl) op_ke h0'
  obtain ⟨s1, hs1, _, z1⟩ := op_string (c := .string u1) Try.underlying9 h1'
  injection hs1 with hs1
  subst hs1
  obtain ⟨s2, hs2, _, z2⟩ := op_string (c := .string u2) Try.underlying9 h2'
  injection hs2 with hs2
  subst hs2
  obtain ⟨s3, hs3, _, z3⟩ := op_string (c := .string u3) Try.underlying9 h3'
  injection hs3 with hs3
  subst hs3
  injection hv0 with y1 y2 y3
  subst y1 y2 y3
  have s0 : l0.length * 64 ≤ 140737488351232 := row_len b0 (fun h => by rw [h]; rfl) (fun el sp h => sized_slice hsz (j := 0) (t := 24) rfl (congrArg some h) Try.underlying24)
  clear hA0 hval0 hsz
  refine (keydirOrder_any _ _ _ l0 u1 u2 u3 W rA0 rfl (by omega) g0 z1 z2 z3).mono fun e W' ⟨he, bel⟩ => ?_
  subst he
  exact ⟨_, rfl, _, _, _, [], _, [], hW', trodAll_mk1 (shut_bool Try.underlying4 _),
    (trodAll_cons_mk (Below.trod laidOut (by kernel_rfl) (of_decide_eq_true (by kernel_rfl)) k0 bel lt0) (trodAll_cons_mk (Below.trod laidOut (by kernel_rfl) (of_decide_eq_true (by kernel_rfl)) k1 bel lt1) (trodAll_cons_mk (Below.trod laidOut (by kernel_rfl) (of_decide_eq_true (by kernel_rfl)) k2 bel lt2) (trodAll_cons_mk (Below.trod laidOut (by kernel_rfl) (of_decide_eq_true (by kernel_rfl)) k3 bel lt3) trodAll_mk0)))), rfl, bel.frame _, fun h => by cases h⟩

theorem order_over : Rows.keydirOrderRow.holds Try.pinned (OpenSpec.ofChange Rows.keydirOrderSpec) :=
  OpenClaim.holds_of_wide 6 Try.f6 rfl rfl rfl rfl rfl rfl rfl ⟨rfl, rfl, rfl, rfl, rfl⟩ rfl rfl rfl rfl rfl (by kernel_rfl) Try.func6 (by kernel_rfl)
    (of_decide_eq_true (by kernel_rfl)) (by unfold Func.isWrapper; first | (rw [if_pos (by decide +kernel)]; kernel_rfl) | (rw [if_neg (by decide +kernel)]; exact ⟨rfl, rfl⟩))
    (fun os started H enc _ => order_all os started H enc)

theorem keydirOrder_all : Rows.KeydirOrderSaid := order_over
end Go.Proofs.Ytociadicjbkjcaa
