/- ManifestChecks: for every manifest, catalogue and name the program's Check, CheckCatalogue and CheckName answer what the document's do, and the law returns true; no condition. -/
import Derived.Test.YtjgdjfmgkmegfaaMan15
import Derived.Test.YtjgdjfmgkmegfaaOpen
import Derived.OpenShut
namespace Go.Proofs.Ytjgdjfmgkmegfaa
open Go.ChangeShapes Go.WideShapes Go.ChangeAt Go.RowKit Go.Deep
open Go.ChangeMaps (open_string shut_string)

theorem ownK : ownKnob Try.prog.godebug = none := by kernel_rfl
theorem laidOut : laidOutB Try.prog = true := by kernel_rfl

theorem list7 {α : Type} {l : List α} (h : l.length = 7) : ∃ a b c d e f g, l = [a, b, c, d, e, f, g] := by
  match l, h with
  | [a, b, c, d, e, f, g], _ => exact ⟨a, b, c, d, e, f, g, rfl⟩
theorem list2 {α : Type} {l : List α} (h : l.length = 2) : ∃ a b, l = [a, b] := by
  match l, h with
  | [a, b], _ => exact ⟨a, b, rfl⟩
theorem list3 {α : Type} {l : List α} (h : l.length = 3) : ∃ a b c, l = [a, b, c] := by
  match l, h with
  | [a, b, c], _ => exact ⟨a, b, c, rfl⟩
theorem list4 {α : Type} {l : List α} (h : l.length = 4) : ∃ a b c d, l = [a, b, c, d] := by
  match l, h with
  | [a, b, c, d], _ => exact ⟨a, b, c, d, rfl⟩

section
variable {H : Type} {enc : TypeId × Value → H} {w : World}
theorem op_prod (n : Nat) (cs : List Value) (y : DataW H × List MemPlace) (h : TR enc Try.prog w n 58 cs y) : ∃ a : P3, cs = tri a ∧ True := by
  obtain ⟨hl, ys, n', _, hyl, hf⟩ := op_fields Try.underlying58 (by kernel_rfl) (by kernel_rfl) h
  obtain ⟨c0, c1, c2, rfl⟩ := list3 hl
  obtain ⟨v, z, e0, _, t0⟩ := hf 0 _ rfl
  cases e0
  obtain ⟨v, z, e1, _, t1⟩ := hf 1 _ rfl
  cases e1
  obtain ⟨v, z, e2, _, t2⟩ := hf 2 _ rfl
  cases e2
  obtain ⟨x0, rfl, _⟩ := op_int Try.underlying2 t0
  obtain ⟨x1, rfl, _⟩ := op_int Try.underlying2 t1
  obtain ⟨x2, rfl, _⟩ := op_int Try.underlying2 t2
  exact ⟨(x0, x1, x2), rfl, trivial⟩
theorem op_topic (n : Nat) (cs : List Value) (y : DataW H × List MemPlace) (h : TR enc Try.prog w n 60 cs y) : ∃ a : T4, cs = quad a ∧ (Lit.int .i64 a.id).wf = true ∧ a.name.size ≤ maxLen := by
  obtain ⟨hl, ys, n', _, hyl, hf⟩ := op_fields Try.underlying60 (by kernel_rfl) (by kernel_rfl) h
  obtain ⟨c0, c1, c2, c3, rfl⟩ := list4 hl
  obtain ⟨v, z, e0, _, t0⟩ := hf 0 _ rfl
  cases e0
  obtain ⟨v, z, e1, _, t1⟩ := hf 1 _ rfl
  cases e1
  obtain ⟨v, z, e2, _, t2⟩ := hf 2 _ rfl
  cases e2
  obtain ⟨v, z, e3, _, t3⟩ := hf 3 _ rfl
  cases e3
  obtain ⟨x0, rfl, _, w0⟩ := op_int Try.underlying3 t0
  obtain ⟨x1, rfl, _, w1⟩ := op_string Try.underlying9 t1
  obtain ⟨x2, rfl, _⟩ := op_int Try.underlying3 t2
  obtain ⟨x3, rfl, _⟩ := op_int Try.underlying2 t3
  exact ⟨⟨x0, x1, x2, x3⟩, rfl, w0, w1⟩
set_option maxRecDepth 100000 in
/-- A manifest that came in. -/
theorem op_man {r : Reach} {b0 : Nat} {v : Value} {d : DataW H} {p : List MemPlace} (hv : Value.okWide Try.prog w r b0 25 v) (h : DataW.Trod enc Try.prog w 0 (fun _ => true) true 25 v d p) :
    ∃ (id ns nx mk cl : Int) (A B : Option Addr) (c e : Nat) (segs : List Int) (prods : List P3) (parts : List (DataW H)), v = manV id ns nx mk cl (.slice A segs.length c) (.slice B prods.length e) ∧ d = .agg parts ∧
      Rd w w.heap.size A (segs.map (.int .i64)) ∧ Rd w w.heap.size B (prods.flatMap tri) ∧ (∀ s ∈ segs, (Lit.int .i64 s).wf = true) ∧
      (segs = [] ∨ ∃ el sp, parts[5]? = some (.slice el sp) ∧ el.length = segs.length) ∧ (prods = [] ∨ ∃ el sp, parts[6]? = some (.slice el sp) ∧ el.length = prods.length) := by
  obtain ⟨cs, rfl, hsz⟩ := okWide_struct Try.underlying25 hv
  obtain ⟨l⟩ := cs
  obtain ⟨n, hn⟩ := h
  obtain ⟨hl, ys, n', hy, hyl, hf⟩ := op_fields (y := (d, p)) (n := n) (cs := l) Try.underlying25 (by kernel_rfl) (by kernel_rfl) (by exact hn)
  obtain ⟨c0, c1, c2, c3, c4, c5, c6, rfl⟩ := list7 hl
  obtain ⟨v, z, e0, _, t0⟩ := hf 0 _ rfl
  cases e0
  obtain ⟨v, z, e1, _, t1⟩ := hf 1 _ rfl
  cases e1
  obtain ⟨v, z, e2, _, t2⟩ := hf 2 _ rfl
  cases e2
  obtain ⟨v, z, e3, _, t3⟩ := hf 3 _ rfl
  cases e3
  obtain ⟨v, z, e4, _, t4⟩ := hf 4 _ rfl
  cases e4
  obtain ⟨v, z5, e5, y5, t5⟩ := hf 5 _ rfl
  cases e5
  obtain ⟨v, z6, e6, y6, t6⟩ := hf 6 _ rfl
  cases e6
  obtain ⟨x0, rfl, _⟩ := op_int Try.underlying3 t0
  obtain ⟨x1, rfl, _⟩ := op_int Try.underlying3 t1
  obtain ⟨x2, rfl, _⟩ := op_int Try.underlying2 t2
  obtain ⟨x3, rfl, _⟩ := op_int Try.underlying2 t3
  obtain ⟨x4, rfl, _⟩ := op_int Try.underlying2 t4
  obtain ⟨A, segs, c, rfl, rA, wA, dA, _⟩ := op_ints Try.underlying22 Try.underlying3 (by kernel_rfl) t5
  obtain ⟨B, prods, e, rfl, rB, _, dB, _⟩ := op_structs tri (fun _ => True) 3 (fun _ => rfl) Try.underlying23 (by kernel_rfl) op_prod t6
  refine ⟨x0, x1, x2, x3, x4, A, B, c, e, segs, prods, ys.map (·.1), rfl, hy, rA, rB, wA, ?_, ?_⟩
  · rcases dA with ⟨_, h⟩ | ⟨el, sp, h1, h2⟩
    · exact .inl h
    · exact .inr ⟨el, sp, by rw [List.getElem?_map, y5, Option.map_some, h1], h2⟩
  · rcases dB with ⟨_, h⟩ | ⟨el, sp, h1, h2⟩
    · exact .inl h
    · exact .inr ⟨el, sp, by rw [List.getElem?_map, y6, Option.map_some, h1], h2⟩
set_option maxRecDepth 100000 in
theorem op_cat {r : Reach} {b0 : Nat} {v : Value} {d : DataW H} {p : List MemPlace} (hv : Value.okWide Try.prog w r b0 28 v) (h : DataW.Trod enc Try.prog w 0 (fun _ => true) true 28 v d p) :
    ∃ (nid : Int) (A : Option Addr) (c : Nat) (l : List T4) (parts : List (DataW H)), v = catV nid (.slice A l.length c) ∧ d = .agg parts ∧
      Rd w w.heap.size A (l.flatMap quad) ∧ (∀ t ∈ l, (Lit.int .i64 t.id).wf = true ∧ t.name.size ≤ maxLen) ∧ (l = [] ∨ ∃ el sp, parts[1]? = some (.slice el sp) ∧ el.length = l.length) := by
  obtain ⟨cs, rfl, hsz⟩ := okWide_struct Try.underlying28 hv
  obtain ⟨l⟩ := cs
  obtain ⟨n, hn⟩ := h
  obtain ⟨hl, ys, n', hy, hyl, hf⟩ := op_fields (y := (d, p)) (n := n) (cs := l) Try.underlying28 (by kernel_rfl) (by kernel_rfl) (by exact hn)
  obtain ⟨c0, c1, rfl⟩ := list2 hl
  obtain ⟨v, z, e0, _, t0⟩ := hf 0 _ rfl
  cases e0
  obtain ⟨v, z1, e1, y1, t1⟩ := hf 1 _ rfl
  cases e1
  obtain ⟨x0, rfl, _⟩ := op_int Try.underlying3 t0
  obtain ⟨A, ts, c, rfl, rA, gA, dA, _⟩ := op_structs quad (fun t => (Lit.int .i64 t.id).wf = true ∧ t.name.size ≤ maxLen) 4 (fun _ => rfl) Try.underlying26 (by kernel_rfl) op_topic t1
  refine ⟨x0, A, c, ts, ys.map (·.1), rfl, hy, rA, gA, ?_⟩
  rcases dA with ⟨_, h⟩ | ⟨el, sp, h1, h2⟩
  · exact .inl h
  · exact .inr ⟨el, sp, by rw [List.getElem?_map, y1, Option.map_some, h1], h2⟩
end

set_option maxRecDepth 100000 in
theorem checks_lifted (os : Os) (started : os.Started) (H : Type) (enc : TypeId × Value → H) :
    ReturnsInHanded {} Try.checked os 3 .any (Rows.manifestChecksSpec.pre6 enc Try.prog Try.f3 Rows.manifestChecksRow.domain false) (Rows.manifestChecksSpec.post enc Try.prog Try.f3 false true false false) := by
  refine returnsInHanded_of_change_sized (C := Try.checked) ownK started (by kernel_rfl) Try.func3
    (ChangeSpec.witness6 (enc := enc) (C := Try.checked) false ⟨#[], #[.agg #[.int .i64 0, .int .i64 0, .int .i64 0, .int .i64 0, .int .i64 0, .slice none 0 0, .slice none 0 0], .agg #[.int .i64 0, .slice none 0 0], .string ByteArray.empty], []⟩ 8 (by kernel_rfl) (by kernel_rfl) (by kernel_rfl) (by kernel_rfl)) ?_
  intro W base args ds gs before hval0 hW hcnd hsz _
  have hval : ∀ (j : Nat) t v, Try.f3.params[j]? = some t → args[j]? = some v → Value.okWide Try.prog W .any base t v := hval0
  have hW' := hW
  obtain ⟨p, q, hA0, hV, rfl, hfz, hnd⟩ := hW
  have hA : DataW.TrodAll enc Try.prog W 0 (fun _ => true) true Try.f3.params.toList args.toList ds p := hA0
  rw [Try.params3] at hA hval hsz
  obtain ⟨v0, vs0, d0, ds0, p0, q0, hargs, rfl, rfl, h0, r0⟩ := trodAll_cons hA
  obtain ⟨v1, vs1, d1, ds1, p1, q1, rfl, rfl, rfl, h1, r1⟩ := trodAll_cons r0
  obtain ⟨v2, vs2, d2, ds2, p2, q2, rfl, rfl, rfl, h2, r2⟩ := trodAll_cons r1
  obtain ⟨rfl, rfl, rfl⟩ := trodAll_nil r2
  obtain rfl : args = #[v0, v1, v2] := by cases args; simp_all
  obtain ⟨rfl, rfl⟩ := trodVars_none hV
  have k0 := h0
  have k1 := h1
  have lt0 : ∀ x ∈ p0, x.block < W.heap.size := by obtain ⟨m, hm⟩ := k0; exact DataW.trod_lt m _ _ _ hm
  have lt1 : ∀ x ∈ p1, x.block < W.heap.size := by obtain ⟨m, hm⟩ := k1; exact DataW.trod_lt m _ _ _ hm
  obtain ⟨id, ns, nx, mk, cl, A, B, c, e, segs, prods, parts, rfl, rfl, rA, rB, wA, bA, bB⟩ := op_man (hval 0 _ _ rfl rfl) h0
  obtain ⟨nid, C, f, l, partc, rfl, rfl, rC, wC, bC⟩ := op_cat (hval 1 _ _ rfl rfl) h1
  obtain ⟨s, rfl, rfl, rfl, hs⟩ := open_string Try.underlying9 (hval 2 _ _ rfl rfl) h2
  have ha : segs.length * 8 ≤ 140737488351232 := by
    rcases bA with rfl | ⟨el, sp, h1, h2⟩
    · simp
    · rw [← h2]; exact weigh_field hsz (i := 0) (j := 5) rfl rfl Try.underlying25 rfl Try.underlying22 h1
  have hb : prods.length * 24 ≤ 140737488351232 := by
    rcases bB with rfl | ⟨el, sp, h1, h2⟩
    · simp
    · rw [← h2]; exact weigh_field hsz (i := 0) (j := 6) rfl rfl Try.underlying25 rfl Try.underlying23 h1
  have hc : l.length * 40 ≤ 140737488351232 := by
    rcases bC with rfl | ⟨el, sp, h1, h2⟩
    · simp
    · rw [← h2]; exact weigh_field hsz (i := 1) (j := 1) rfl rfl Try.underlying28 rfl Try.underlying26 h1
  clear hA0 hval0 hsz
  refine (manifestChecks_any id ns nx mk cl nid A B C c e f segs prods l s W rA rB rC ha hb hc wA wC).mono fun e W' ⟨he, bel⟩ => ?_
  subst he
  exact ⟨_, rfl, _, _, _, [], _, [], hW', trodAll_mk1 (shut_bool Try.underlying4 _),
    (trodAll_cons_mk (Below.trod laidOut (by kernel_rfl) (of_decide_eq_true (by kernel_rfl)) k0 bel lt0) (trodAll_cons_mk (Below.trod laidOut (by kernel_rfl) (of_decide_eq_true (by kernel_rfl)) k1 bel lt1) (trodAll_cons_mk (shut_string Try.underlying9 hs) trodAll_mk0))), rfl, bel.frame _, fun h => by cases h⟩

theorem checks_over : Rows.manifestChecksRow.holds Try.pinned (OpenSpec.ofChange Rows.manifestChecksSpec) :=
  OpenClaim.holds_of_wide 3 Try.f3 rfl rfl rfl rfl rfl rfl rfl ⟨rfl, rfl, rfl, rfl, rfl⟩ rfl rfl rfl rfl rfl (by kernel_rfl) Try.func3 (by kernel_rfl)
    (of_decide_eq_true (by kernel_rfl)) (by unfold Func.isWrapper; first | (rw [if_pos (by decide +kernel)]; kernel_rfl) | (rw [if_neg (by decide +kernel)]; exact ⟨rfl, rfl⟩))
    (fun os started H enc _ => checks_lifted os started H enc)

theorem manifestChecks_holds : Rows.ManifestChecksSaid := checks_over
end Go.Proofs.Ytjgdjfmgkmegfaa
