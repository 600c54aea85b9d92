import Derived.Test.YtglmhpmjebjcgaaKb
import Derived.Test.YtglmhpmjebjcgaaKn
import Derived.Test.YtglmhpmjebjcgaaRows
import Derived.OpenShut
import Derived.JoinedCond
/- The moves that came in, opened; the bound of the '..UptoSaid' on a slice's length. -/
namespace Go.Proofs.Ytglmhpmjebjcgaa
open Go.RowKit Go.ChangeShapes Go.WideShapes Go.ChangeAt Go.Deep

theorem list11 {α : Type} {l : List α} (h : l.length = 11) : ∃ a b c d e f g i j k m, l = [a, b, c, d, e, f, g, i, j, k, m] := by
  match l, h with
  | [a, b, c, d, e, f, g, i, j, k, m], _ => exact ⟨a, b, c, d, e, f, g, i, j, k, m, rfl⟩
theorem wf_top {x : Int} (h : (Lit.int .i64 x).wf = true) : x ≤ 9223372036854775807 := by
  simp [Lit.wf, IntKind.min, IntKind.max, IntKind.signed, IntKind.bits] at h
  omega
section
variable {H : Type} {enc : TypeId × Value → H} {w : World}
set_option maxRecDepth 100000 in
theorem op_mv (n : Nat) (cs : List Value) (y : DataW H × List MemPlace) (h : TRo enc Try.prog w n 40 cs y) : ∃ a : Mv, cs = mvC a ∧ a.Ok := by
  obtain ⟨ys, n', _, _, hlen, hyl, hf⟩ := DataW.trod_struct Try.underlying40 h
  have hl : cs.length = 11 := hlen.trans (by kernel_rfl)
  obtain ⟨c0, c1, c2, c3, c4, c5, c6, c7, c8, c9, c10, rfl⟩ := list11 hl
  have hyl' : ys.length = 6 := hyl
  have hy : ∀ j (hj : j < 6), ys[j]? = some (ys[j]'(by omega)) := fun j hj => List.getElem?_eq_getElem (by omega)
  have t0 : TRo enc Try.prog w n' 3 [c0] _ := (hf 0 _ rfl).trans (hy 0 (by omega))
  have t1 : TRo enc Try.prog w n' 3 [c1] _ := (hf 1 _ rfl).trans (hy 1 (by omega))
  have t2 : TRo enc Try.prog w n' 9 [c2] _ := (hf 2 _ rfl).trans (hy 2 (by omega))
  have t3 : TRo enc Try.prog w n' 9 [c3] _ := (hf 3 _ rfl).trans (hy 3 (by omega))
  have t4 : TRo enc Try.prog w n' 38 [c4, c5, c6, c7, c8, c9] _ := (hf 4 _ rfl).trans (hy 4 (by omega))
  have t5 : TRo enc Try.prog w n' 3 [c10] _ := (hf 5 _ rfl).trans (hy 5 (by omega))
  obtain ⟨_, zs, n'', _, hzl, hg⟩ := op_fields Try.underlying38 (by kernel_rfl) (by kernel_rfl) t4
  obtain ⟨v, z, e4, _, u4⟩ := hg 0 _ rfl
  cases e4
  obtain ⟨v, z, e5, _, u5⟩ := hg 1 _ rfl
  cases e5
  obtain ⟨v, z, e6, _, u6⟩ := hg 2 _ rfl
  cases e6
  obtain ⟨v, z, e7, _, u7⟩ := hg 3 _ rfl
  cases e7
  obtain ⟨v, z, e8, _, u8⟩ := hg 4 _ rfl
  cases e8
  obtain ⟨v, z, e9, _, u9⟩ := hg 5 _ rfl
  cases e9
  obtain ⟨x0, rfl, _⟩ := op_int Try.underlying3 t0
  obtain ⟨x1, rfl, _⟩ := op_int Try.underlying3 t1
  obtain ⟨x2, rfl, _, z2⟩ := op_string Try.underlying9 t2
  obtain ⟨x3, rfl, _, z3⟩ := op_string Try.underlying9 t3
  obtain ⟨x4, rfl, _⟩ := op_int Try.underlying3 u4
  obtain ⟨x5, rfl, _⟩ := op_int Try.underlying3 u5
  obtain ⟨x6, rfl, _⟩ := op_int Try.underlying3 u6
  obtain ⟨x7, rfl, _⟩ := op_int Try.underlying2 u7
  obtain ⟨x8, rfl, _⟩ := op_int Try.underlying2 u8
  obtain ⟨x9, rfl, _⟩ := op_bool Try.underlying4 u9
  obtain ⟨x10, rfl, _, w10⟩ := op_int Try.underlying3 t5
  exact ⟨⟨x0, x1, x2, x3, ⟨x4, x5, x6, x7, x8, x9⟩, x10⟩, rfl, z2, z3, wf_top w10⟩
end
theorem bulk_one {H : Type} (d : DataW H) : 1 ≤ Rows.uptoBulk d := by
  cases d with
  | lit l => cases l <;> simp [Rows.uptoBulk]
  | nil => simp [Rows.uptoBulk]
  | ptr d => simp [Rows.uptoBulk]
  | slice elems spare => simp [Rows.uptoBulk]
  | agg parts => simp [Rows.uptoBulk]
  | iface t d => simp [Rows.uptoBulk]
  | map entries => simp [Rows.uptoBulk]
  | held h => simp [Rows.uptoBulk]
theorem bulk_len {H : Type} (l : List (DataW H)) : l.length ≤ Rows.uptoBulkAll l := by
  induction l with
  | nil => simp
  | cons x r ih => have := bulk_one x; simp only [Rows.uptoBulkAll, List.length_cons]; omega
theorem bulk_slice {H : Type} (elems spare : List (DataW H)) : elems.length ≤ Rows.uptoBulk (.slice elems spare) := by
  have h1 := bulk_len elems
  simp only [Rows.uptoBulk]
  omega
theorem bulk_bound {H : Type} {l : List (DataW H)} (hk : Rows.uptoSmall H l = true) : Rows.uptoBulkAll l ≤ 1048576 := of_decide_eq_true hk
/-- A slice's length is at most its bulk. -/
theorem bulk_row {H : Type} {d : DataW H} {n : Nat} {p : Prop} {q : Nat} (h : (d = .nil ∧ p) ∨ ∃ el sp, d = .slice el sp ∧ el.length = n) (hp : p → n = 0) (hb : Rows.uptoBulk d ≤ q) : n ≤ q := by
  rcases h with ⟨_, h⟩ | ⟨el, sp, rfl, h2⟩
  · rw [hp h]; omega
  · have := bulk_slice el sp; omega
end Go.Proofs.Ytglmhpmjebjcgaa
/- KeydirMoves: for every list of moves of bulk at most 1048576 (the '..Upto' form) the program's dirs answer every call as the document's do, in whatever order, frozen copies and going through while keys are removed among them; the law returns true; what came in reads as it did. -/
namespace Go.Proofs.Ytglmhpmjebjcgaa
open Go.ChangeShapes Go.WideShapes Go.ChangeAt Go.RowKit Go.Deep

theorem ownK : ownKnob Try.prog.godebug = none := by kernel_rfl
theorem laidOut : laidOutB Try.prog = true := by kernel_rfl

set_option maxRecDepth 100000 in
set_option maxHeartbeats 4000000 in
theorem moves_lifted (os : Os) (started : os.Started) (H : Type) (enc : TypeId × Value → H) (F : Stop.Interp) :
    ReturnsInHanded {} Try.checked os 3 .any ((Rows.OpenSpec.upto Rows.keydirMovesSpec).pre6 enc Try.prog Try.f3 Rows.keydirMovesUptoRow.domain false) (((Rows.OpenSpec.upto Rows.keydirMovesSpec).at F).post enc Try.prog Try.f3 false true false false) := by
  refine returnsInHanded_of_cond (C := Try.checked) (s := Rows.OpenSpec.upto Rows.keydirMovesSpec) (k := Rows.uptoSmall) rfl ownK started (by kernel_rfl) Try.func3
    (OpenSpec.witness (enc := enc) (C := Try.checked) (s := Rows.OpenSpec.upto Rows.keydirMovesSpec) (k := Rows.uptoSmall) rfl false ⟨#[], #[.slice none 0 0], []⟩ 8 (by kernel_rfl) (by kernel_rfl) (by kernel_rfl)
      (x := ([.nil], [], [])) (by kernel_rfl) rfl (by kernel_rfl)) ?_
  intro W base args ds gs before hval hW _ hk _
  have hW' := hW
  obtain ⟨p, q, hA0, hV, rfl, hfz, hnd⟩ := hW
  have hA : DataW.TrodAll enc Try.prog W 0 (fun _ => true) true Try.f3.params.toList args.toList ds p := hA0
  rw [Try.params3] at hA hval
  obtain ⟨v0, vs0, d0, ds0, p0, q0, hargs, rfl, rfl, h0, r0⟩ := trodAll_cons hA
  obtain ⟨rfl, rfl, rfl⟩ := trodAll_nil r0
  obtain rfl : args = #[v0] := by cases args; simp_all
  obtain ⟨rfl, rfl⟩ := trodVars_none hV
  have k0 := h0
  have lt0 : ∀ x ∈ p0, x.block < W.heap.size := by obtain ⟨m, hm⟩ := k0; exact DataW.trod_lt m _ _ _ hm
  obtain ⟨a0, n0, c0, rfl⟩ := okWide_slice Try.underlying22 (hval 0 _ _ rfl rfl)
  obtain ⟨m0, h0'⟩ := h0
  obtain ⟨A0, l0, e0, hv0, rA0, g0, b0, _⟩ := op_structs (c := .slice a0 n0 c0) mvC (fun a : Mv => a.Ok) 11 (fun _ => rfl) Try.underlying22 (by kernel_rfl) op_mv h0'
  injection hv0 with y1 y2 y3
  subst y1 y2 y3
  have hb := bulk_bound hk
  simp only [List.append_nil, Rows.uptoBulkAll] at hb
  have s0 := bulk_row (q := 2000000) b0 (fun h => by rw [h]; rfl) (by show Rows.uptoBulk d0 ≤ 2000000; omega)
  clear hA0
  refine (keydirMoves_any _ _ _ l0 W rA0 rfl (by omega) g0).mono fun e W' ⟨he, bel⟩ => ?_
  subst he
  exact ⟨_, rfl, _, _, _, [], _, [], hW', trodAll_mk1 (shut_bool Try.underlying4 _),
    (trodAll_cons_mk (Below.trod laidOut (by kernel_rfl) (of_decide_eq_true (by kernel_rfl)) k0 bel lt0) trodAll_mk0), rfl, bel.frame _, fun h => by cases h⟩

theorem keydirMoves_holds : Rows.KeydirMovesUptoSaid :=
  OpenClaim.holds_of_cond 3 Try.f3 rfl rfl rfl rfl rfl rfl rfl ⟨rfl, rfl, rfl, rfl, rfl⟩ rfl rfl rfl rfl rfl (by kernel_rfl) Try.func3 (by kernel_rfl)
    (of_decide_eq_true (by kernel_rfl)) (by unfold Func.isWrapper; first | (rw [if_pos (by decide +kernel)]; kernel_rfl) | (rw [if_neg (by decide +kernel)]; exact ⟨rfl, rfl⟩))
    (fun os started H enc _ F => moves_lifted os started H enc F)
end Go.Proofs.Ytglmhpmjebjcgaa
