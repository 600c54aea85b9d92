/- HintEncodes: for every hint the program's Encode writes the very bytes and the error that the document's does, leaves the hint as it is, and the law returns true; no condition. -/
import Derived.Test.YtifimeohdgnehaaHnt10
import Derived.Test.YtifimeohdgnehaaOpen
import Derived.OpenShut
namespace Go.Proofs.Ytifimeohdgnehaa
open Go.ChangeShapes Go.WideShapes Go.ChangeAt Go.RowKit Go.Deep
open Go.ChangeMaps (open_string shut_string)

theorem ownK : ownKnob Try.prog.godebug = none := by kernel_rfl
theorem laidOut : laidOutB Try.prog = true := by kernel_rfl

theorem list3 {α : Type} {l : List α} (h : l.length = 3) : ∃ a b c, l = [a, b, c] := by
  match l, h with
  | [a, b, c], _ => exact ⟨a, b, c, rfl⟩
theorem list6 {α : Type} {l : List α} (h : l.length = 6) : ∃ a b c d e f, l = [a, b, c, d, e, f] := by
  match l, h with
  | [a, b, c, d, e, f], _ => exact ⟨a, b, c, d, e, f, rfl⟩

section
variable {H : Type} {enc : TypeId × Value → H} {w : World}
theorem op_entry (n : Nat) (cs : List Value) (y : DataW H × List MemPlace) (h : TR enc Try.prog w n 33 cs y) : ∃ a : HE, cs = six a ∧ True := by
  obtain ⟨hl, ys, n', _, hyl, hf⟩ := op_fields Try.underlying33 (by kernel_rfl) (by kernel_rfl) h
  obtain ⟨c0, c1, c2, c3, c4, c5, rfl⟩ := list6 hl
  obtain ⟨v, z, e0, _, t0⟩ := hf 0 _ rfl
  cases e0
  obtain ⟨v, z, e1, _, t1⟩ := hf 1 _ rfl
  cases e1
  obtain ⟨v, z, e2, _, t2⟩ := hf 2 _ rfl
  cases e2
  obtain ⟨v, z, e3, _, t3⟩ := hf 3 _ rfl
  cases e3
  obtain ⟨v, z, e4, _, t4⟩ := hf 4 _ rfl
  cases e4
  obtain ⟨v, z, e5, _, t5⟩ := hf 5 _ rfl
  cases e5
  obtain ⟨x0, rfl, _⟩ := op_string Try.underlying9 t0
  obtain ⟨x1, rfl, _⟩ := op_int Try.underlying2 t1
  obtain ⟨x2, rfl, _⟩ := op_int Try.underlying2 t2
  obtain ⟨x3, rfl, _⟩ := op_bool Try.underlying4 t3
  obtain ⟨x4, rfl, _⟩ := op_int Try.underlying3 t4
  obtain ⟨x5, rfl, _⟩ := op_int Try.underlying3 t5
  exact ⟨⟨x0, x1, x2, x3, x4, x5⟩, rfl, trivial⟩
set_option maxRecDepth 100000 in
/-- A hint that came in. -/
theorem op_hint {r : Reach} {b0 : Nat} {v : Value} {d : DataW H} {p : List MemPlace} (hv : Value.okWide Try.prog w r b0 24 v) (h : DataW.Trod enc Try.prog w 0 (fun _ => true) true 24 v d p) :
    ∃ (seg size : Int) (A : Option Addr) (c : Nat) (l : List HE) (parts : List (DataW H)), v = hV seg size (.slice A l.length c) ∧ d = .agg parts ∧
      Rd w w.heap.size A (l.flatMap six) ∧ (l = [] ∨ ∃ el sp, parts[2]? = some (.slice el sp) ∧ el.length = l.length) := by
  obtain ⟨cs, rfl, hsz⟩ := okWide_struct Try.underlying24 hv
  obtain ⟨l⟩ := cs
  obtain ⟨n, hn⟩ := h
  obtain ⟨hl, ys, n', hy, hyl, hf⟩ := op_fields (y := (d, p)) (n := n) (cs := l) Try.underlying24 (by kernel_rfl) (by kernel_rfl) (by exact hn)
  obtain ⟨c0, c1, c2, rfl⟩ := list3 hl
  obtain ⟨v, z, e0, _, t0⟩ := hf 0 _ rfl
  cases e0
  obtain ⟨v, z, e1, _, t1⟩ := hf 1 _ rfl
  cases e1
  obtain ⟨v, z2, e2, y2, t2⟩ := hf 2 _ rfl
  cases e2
  obtain ⟨x0, rfl, _⟩ := op_int Try.underlying3 t0
  obtain ⟨x1, rfl, _⟩ := op_int Try.underlying3 t1
  obtain ⟨A, ts, c, rfl, rA, _, dA, _⟩ := op_structs six (fun _ => True) 6 (fun _ => rfl) Try.underlying22 (by kernel_rfl) op_entry t2
  refine ⟨x0, x1, A, c, ts, ys.map (·.1), rfl, hy, rA, ?_⟩
  rcases dA with ⟨_, h⟩ | ⟨el, sp, h1, h2⟩
  · exact .inl h
  · exact .inr ⟨el, sp, by rw [List.getElem?_map, y2, Option.map_some, h1], h2⟩
end

set_option maxRecDepth 100000 in
theorem enc_lifted (os : Os) (started : os.Started) (H : Type) (enc : TypeId × Value → H) :
    ReturnsInHanded {} Try.checked os 3 .any (Rows.hintEncodesSpec.pre6 enc Try.prog Try.f3 Rows.hintEncodesRow.domain false) (Rows.hintEncodesSpec.post enc Try.prog Try.f3 false true false false) := by
  refine returnsInHanded_of_change_sized (C := Try.checked) ownK started (by kernel_rfl) Try.func3
    (ChangeSpec.witness6 (enc := enc) (C := Try.checked) false ⟨#[], #[.agg #[.int .i64 0, .int .i64 0, .slice none 0 0]], []⟩ 8 (by kernel_rfl) (by kernel_rfl) (by kernel_rfl) (by kernel_rfl)) ?_
  intro W base args ds gs before hval0 hW hcnd hsz _
  have hval : ∀ (j : Nat) t v, Try.f3.params[j]? = some t → args[j]? = some v → Value.okWide Try.prog W .any base t v := hval0
  have hW' := hW
  obtain ⟨p, q, hA0, hV, rfl, hfz, hnd⟩ := hW
  have hA : DataW.TrodAll enc Try.prog W 0 (fun _ => true) true Try.f3.params.toList args.toList ds p := hA0
  rw [Try.params3] at hA hval hsz
  obtain ⟨v0, vs0, d0, ds0, p0, q0, hargs, rfl, rfl, h0, r0⟩ := trodAll_cons hA
  obtain ⟨rfl, rfl, rfl⟩ := trodAll_nil r0
  obtain rfl : args = #[v0] := by cases args; simp_all
  obtain ⟨rfl, rfl⟩ := trodVars_none hV
  have k0 := h0
  have lt0 : ∀ x ∈ p0, x.block < W.heap.size := by obtain ⟨m, hm⟩ := k0; exact DataW.trod_lt m _ _ _ hm
  obtain ⟨seg, size, A, c, l, parts, rfl, rfl, rA, bA⟩ := op_hint (hval 0 _ _ rfl rfl) h0
  have ha : l.length * 56 ≤ 140737488351232 := by
    rcases bA with rfl | ⟨el, sp, h1, h2⟩
    · simp
    · rw [← h2]; exact weigh_field hsz (i := 0) (j := 2) rfl rfl Try.underlying24 rfl Try.underlying22 h1
  clear hA0 hval0 hsz
  refine (hintEncodes_any seg size A c l W rA ha).mono fun e W' ⟨he, bel⟩ => ?_
  subst he
  exact ⟨_, rfl, _, _, _, [], _, [], hW', trodAll_mk1 (shut_bool Try.underlying4 _),
    (trodAll_cons_mk (Below.trod laidOut (by kernel_rfl) (of_decide_eq_true (by kernel_rfl)) k0 bel lt0) trodAll_mk0), rfl, bel.frame _, fun h => by cases h⟩

theorem enc_over : Rows.hintEncodesRow.holds Try.pinned (OpenSpec.ofChange Rows.hintEncodesSpec) :=
  OpenClaim.holds_of_wide 3 Try.f3 rfl rfl rfl rfl rfl rfl rfl ⟨rfl, rfl, rfl, rfl, rfl⟩ rfl rfl rfl rfl rfl (by kernel_rfl) Try.func3 (by kernel_rfl)
    (of_decide_eq_true (by kernel_rfl)) (by unfold Func.isWrapper; first | (rw [if_pos (by decide +kernel)]; kernel_rfl) | (rw [if_neg (by decide +kernel)]; exact ⟨rfl, rfl⟩))
    (fun os started H enc _ => enc_lifted os started H enc)

theorem hintEncodes_holds : Rows.HintEncodesSaid := enc_over
end Go.Proofs.Ytifimeohdgnehaa
