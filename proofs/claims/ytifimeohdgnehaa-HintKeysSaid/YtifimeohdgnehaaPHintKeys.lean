/- HintKeys: for every seg, size and records Of's hint has of every key just one entry, that of its last record, with what that record says and where it lies, in the order of these records; the law returns true; no condition. -/
import Derived.Test.YtifimeohdgnehaaHof7
import Derived.Test.YtifimeohdgnehaaOpen
import Derived.OpenShut
import Derived.Deep.Strs
namespace Go.Proofs.Ytifimeohdgnehaa
open Go.ChangeShapes Go.WideShapes Go.ChangeAt Go.RowKit Go.Deep

theorem ownK : ownKnob Try.prog.godebug = none := by kernel_rfl
theorem laidOut : laidOutB Try.prog = true := by kernel_rfl

theorem list9 {α : Type} {l : List α} (h : l.length = 9) : ∃ a b c d e f g i j, l = [a, b, c, d, e, f, g, i, j] := by
  match l, h with
  | [a, b, c, d, e, f, g, i, j], _ => exact ⟨a, b, c, d, e, f, g, i, j, rfl⟩
theorem row_len {H : Type} {d : DataW H} {l : Nat} {p : Prop} {z q : Nat} (h : (d = .nil ∧ p) ∨ ∃ el sp, d = .slice el sp ∧ el.length = l) (hp : p → l = 0) (hq : ∀ el sp, d = .slice el sp → (el.length + sp.length) * z ≤ q) : l * z ≤ q := by
  rcases h with ⟨_, h⟩ | ⟨el, sp, h1, h2⟩
  · rw [hp h]; omega
  · have h3 := hq el sp h1
    rw [← h2]
    exact Nat.le_trans (Nat.mul_le_mul_right _ (by omega)) h3
section
variable {H : Type} {enc : TypeId × Value → H} {w : World}
set_option maxRecDepth 100000 in
theorem op_pl (n : Nat) (cs : List Value) (y : DataW H × List MemPlace) (h : TR enc Try.prog w n 45 cs y) : ∃ a : PL, cs = nine a ∧ a.key.size ≤ maxLen := by
  obtain ⟨y0, y1, y2, n', _, hl, h0, h1, h2⟩ := trod_struct3 Try.underlying45 h
  have hl9 : cs.length = 9 := hl.trans (by kernel_rfl)
  obtain ⟨c0, c1, c2, c3, c4, c5, c6, c7, c8, rfl⟩ := list9 hl9
  have h0' : TR enc Try.prog w n' 43 [c0, c1, c2, c3, c4, c5, c6] y0 := h0
  have t7 : TR enc Try.prog w n' 3 [c7] y1 := h1
  have t8 : TR enc Try.prog w n' 3 [c8] y2 := h2
  obtain ⟨_, ys, n'', _, hyl, hf⟩ := op_fields Try.underlying43 (by kernel_rfl) (by kernel_rfl) h0'
  obtain ⟨v, z, e0, _, t0⟩ := hf 0 _ rfl
  cases e0
  obtain ⟨v, z, e1, _, t1⟩ := hf 1 _ rfl
  cases e1
  obtain ⟨v, z, e2, _, t2⟩ := hf 2 _ rfl
  cases e2
  obtain ⟨v, z, e3, _, t3⟩ := hf 3 _ rfl
  cases e3
  obtain ⟨v, z, e4, _, t4⟩ := hf 4 _ rfl
  cases e4
  obtain ⟨v, z, e5, _, t5⟩ := hf 5 _ rfl
  cases e5
  obtain ⟨v, z, e6, _, t6⟩ := hf 6 _ rfl
  cases e6
  obtain ⟨x0, rfl, _⟩ := op_int Try.underlying3 t0
  obtain ⟨x1, rfl, _⟩ := op_int Try.underlying2 t1
  obtain ⟨x2, rfl, _⟩ := op_int Try.underlying2 t2
  obtain ⟨x3, rfl, _⟩ := op_int Try.underlying2 t3
  obtain ⟨x4, rfl, _⟩ := op_int Try.underlying2 t4
  obtain ⟨x5, rfl, _, hz⟩ := op_string Try.underlying9 t5
  obtain ⟨x6, rfl, _⟩ := op_string Try.underlying9 t6
  obtain ⟨x7, rfl, _⟩ := op_int Try.underlying3 t7
  obtain ⟨x8, rfl, _⟩ := op_int Try.underlying3 t8
  exact ⟨⟨x0, x1, x2, x3, x4, x5, x6, x7, x8⟩, rfl, hz⟩
end

set_option maxRecDepth 100000 in
theorem keys_lifted (os : Os) (started : os.Started) (H : Type) (enc : TypeId × Value → H) :
    ReturnsInHanded {} Try.checked os 6 .any (Rows.hintKeysSpec.pre6 enc Try.prog Try.f6 Rows.hintKeysRow.domain false) (Rows.hintKeysSpec.post enc Try.prog Try.f6 false true false false) := by
  refine returnsInHanded_of_change_sized (C := Try.checked) ownK started (by kernel_rfl) Try.func6
    (ChangeSpec.witness6 (enc := enc) (C := Try.checked) false ⟨#[], #[.int .i64 0, .int .i64 0, .slice none 0 0], []⟩ 8 (by kernel_rfl) (by kernel_rfl) (by kernel_rfl) (by kernel_rfl)) ?_
  intro W base args ds gs before hval0 hW hcnd hsz _
  have hval : ∀ (j : Nat) t v, Try.f6.params[j]? = some t → args[j]? = some v → Value.okWide Try.prog W .any base t v := hval0
  have hW' := hW
  obtain ⟨p, q, hA0, hV, rfl, hfz, hnd⟩ := hW
  have hA : DataW.TrodAll enc Try.prog W 0 (fun _ => true) true Try.f6.params.toList args.toList ds p := hA0
  rw [Try.params6] at hA hval hsz
  obtain ⟨v0, vs0, d0, ds0, p0, q0, hargs, rfl, rfl, h0, r0⟩ := trodAll_cons hA
  obtain ⟨v1, vs1, d1, ds1, p1, q1, rfl, rfl, rfl, h1, r1⟩ := trodAll_cons r0
  obtain ⟨v2, vs2, d2, ds2, p2, q2, rfl, rfl, rfl, h2, r2⟩ := trodAll_cons r1
  obtain ⟨rfl, rfl, rfl⟩ := trodAll_nil r2
  obtain rfl : args = #[v0, v1, v2] := by cases args; simp_all
  obtain ⟨rfl, rfl⟩ := trodVars_none hV
  have k0 := h0
  have k1 := h1
  have k2 := h2
  have lt0 : ∀ x ∈ p0, x.block < W.heap.size := by obtain ⟨m, hm⟩ := k0; exact DataW.trod_lt m _ _ _ hm
  have lt1 : ∀ x ∈ p1, x.block < W.heap.size := by obtain ⟨m, hm⟩ := k1; exact DataW.trod_lt m _ _ _ hm
  have lt2 : ∀ x ∈ p2, x.block < W.heap.size := by obtain ⟨m, hm⟩ := k2; exact DataW.trod_lt m _ _ _ hm
  obtain ⟨x0, rfl⟩ := okWide_int Try.underlying3 (hval 0 _ _ rfl rfl)
  obtain ⟨x1, rfl⟩ := okWide_int Try.underlying3 (hval 1 _ _ rfl rfl)
  obtain ⟨a2, n2, c2, rfl⟩ := okWide_slice Try.underlying39 (hval 2 _ _ rfl rfl)
  obtain ⟨m2, h2'⟩ := h2
  obtain ⟨A2, l2, e2, hv2, rA2, g2, b2, _⟩ := op_structs (c := .slice a2 n2 c2) nine (fun a : PL => a.key.size ≤ maxLen) 9 (fun _ => rfl) Try.underlying39 (by kernel_rfl) op_pl h2'
  injection hv2 with z1 z2 z3
  subst z1 z2 z3
  have s2 : l2.length * 88 ≤ 140737488351232 := row_len b2 (fun h => by rw [h]; rfl) (fun el sp h => sized_slice hsz (j := 2) (t := 39) rfl (congrArg some h) Try.underlying39)
  clear hA0 hval0 hsz
  refine (hintKeys_any x0 x1 _ _ _ l2 W rA2 rfl (by omega) g2).mono fun e W' ⟨he, bel⟩ => ?_
  subst he
  exact ⟨_, rfl, _, _, _, [], _, [], hW', trodAll_mk1 (shut_bool Try.underlying4 _),
    (trodAll_cons_mk (Below.trod laidOut (by kernel_rfl) (of_decide_eq_true (by kernel_rfl)) k0 bel lt0) (trodAll_cons_mk (Below.trod laidOut (by kernel_rfl) (of_decide_eq_true (by kernel_rfl)) k1 bel lt1) (trodAll_cons_mk (Below.trod laidOut (by kernel_rfl) (of_decide_eq_true (by kernel_rfl)) k2 bel lt2) trodAll_mk0))), rfl, bel.frame _, fun h => by cases h⟩

theorem hintKeys_holds : Rows.HintKeysSaid :=
  OpenClaim.holds_of_wide 6 Try.f6 rfl rfl rfl rfl rfl rfl rfl ⟨rfl, rfl, rfl, rfl, rfl⟩ rfl rfl rfl rfl rfl (by kernel_rfl) Try.func6 (by kernel_rfl)
    (of_decide_eq_true (by kernel_rfl)) (by unfold Func.isWrapper; first | (rw [if_pos (by decide +kernel)]; kernel_rfl) | (rw [if_neg (by decide +kernel)]; exact ⟨rfl, rfl⟩))
    (fun os started H enc _ => keys_lifted os started H enc)
end Go.Proofs.Ytifimeohdgnehaa
