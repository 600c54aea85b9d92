/- ManifestNames, the '..UptoCard' form: for every file name as numbers and for every text the program's Name and Parse answer what the document's do, and the law returns true; conditions: the listed variables of Go's library stand as the program's text lays them (the card ties them). -/
import Derived.Test.YtbmbgkgjlnookaaDoorNq15
import Derived.Test.YtbmbgkgjlnookaaDoorVarE
import Derived.Test.YtbmbgkgjlnookaaDoorOpen
import Derived.OpenShut
import Derived.JoinedCond
namespace Go.Proofs.YtbmbgkgjlnookaaDoor
open Go.ChangeShapes Go.WideShapes Go.ChangeAt Go.RowKit Go.Deep

theorem laidOut : laidOutB Tryd.prog = true := by kernel_rfl
theorem list4 {α : Type} {l : List α} (h : l.length = 4) : ∃ a b c d, l = [a, b, c, d] := by
  match l, h with
  | [a, b, c, d], _ => exact ⟨a, b, c, d, rfl⟩
section
variable {H : Type} {enc : TypeId × Value → H} {w : World}
theorem op_fname (n : Nat) (cs : List Value) (y : DataW H × List MemPlace) (h : TR enc Tryd.prog w n 23 cs y) : ∃ (k id seg : Int) (t : Bool), cs = [.int .i64 k, .int .i64 id, .int .i64 seg, .bool t] := by
  obtain ⟨hl, ys, n', _, hyl, hf⟩ := op_fields Tryd.underlying23 (by kernel_rfl) (by kernel_rfl) h
  obtain ⟨c0, c1, c2, c3, rfl⟩ := list4 hl
  obtain ⟨v, z, e0, _, t0⟩ := hf 0 _ rfl
  cases e0
  obtain ⟨v, z, e1, _, t1⟩ := hf 1 _ rfl
  cases e1
  obtain ⟨v, z, e2, _, t2⟩ := hf 2 _ rfl
  cases e2
  obtain ⟨v, z, e3, _, t3⟩ := hf 3 _ rfl
  cases e3
  obtain ⟨x0, rfl, _⟩ := op_int Tryd.underlying3 t0
  obtain ⟨x1, rfl, _⟩ := op_int Tryd.underlying3 t1
  obtain ⟨x2, rfl, _⟩ := op_int Tryd.underlying3 t2
  obtain ⟨x3, rfl, _⟩ := op_bool Tryd.underlying4 t3
  exact ⟨x0, x1, x2, x3, rfl⟩
end
theorem small_of {H : Type} {ds : List (DataW H)} (h : Rows.uptoSmall H ds = true) : Rows.uptoBulkAll ds ≤ 1048576 := of_decide_eq_true h
def fargs : Array Value := #[.agg #[.int .i64 0, .int .i64 0, .int .i64 0, .bool false], .string ByteArray.empty]
theorem reads (os : Os) {H : Type} (enc : TypeId × Value → H) : ∃ places, DataW.whole enc Tryd.prog ((World.laidAll Tryd.prog os laidV).forCall (fun _ _ => 0) ⟨#[], fargs, []⟩).memory Tryd.f3.params.toList Rows.manifestNamesSpec.vars false fargs.toList 8 = some ([.agg [.lit (.int .i64 0), .lit (.int .i64 0), .lit (.int .i64 0), .lit (.bool false)], .lit (.string [])], [], places) :=
  ⟨[], by kernel_rfl⟩

set_option maxRecDepth 100000 in
theorem names_lifted (os : Os) (started : os.Started) (H : Type) (enc : TypeId × Value → H) (F : Stop.Interp) :
    ReturnsInHanded {} Tryd.checked os 3 .any ((Rows.OpenSpec.upto Rows.manifestNamesSpec).preRow enc Tryd.prog Tryd.f3 Rows.manifestNamesUptoRow.domain false Rows.manifestNamesUptoRow.laid) (((Rows.OpenSpec.upto Rows.manifestNamesSpec).at F).post enc Tryd.prog Tryd.f3 false true false false) := by
  obtain ⟨places, hx⟩ := reads os enc
  refine returnsInHanded_of_row (C := Tryd.checked) (s := Rows.OpenSpec.upto Rows.manifestNamesSpec) ownK started (by kernel_rfl) Tryd.func3
    (witness_laid (enc := enc) fargs (by kernel_rfl) (OpenSpec.preRow_of_cond 8 hx (by kernel_rfl) (fun k hk => by cases hk; kernel_rfl) (by kernel_rfl) (laid_met os _))) ?_
  intro W base args ds gs before hval0 hW _ hk _ hL hsh _
  have hval : ∀ (j : Nat) t v, Tryd.f3.params[j]? = some t → args[j]? = some v → Value.okWide Tryd.prog W .any base t v := hval0
  have hW' := hW
  obtain ⟨p, q, hA0, hV, rfl, hfz, hnd⟩ := hW
  have hA : DataW.TrodAll enc Tryd.prog W 0 (fun _ => true) true Tryd.f3.params.toList args.toList ds p := hA0
  rw [Tryd.params3] at hA hval
  obtain ⟨v0, vs0, d0, ds0, p0, q0, hargs, rfl, rfl, h0, r0⟩ := trodAll_cons hA
  obtain ⟨v1, vs1, d1, ds1, p1, q1, rfl, rfl, rfl, h1, r1⟩ := trodAll_cons r0
  obtain ⟨rfl, rfl, rfl⟩ := trodAll_nil r1
  obtain rfl : args = #[v0, v1] := by cases args; simp_all
  obtain ⟨rfl, rfl⟩ := trodVars_none hV
  have k0 := h0
  have k1 := h1
  have lt0 : ∀ x ∈ p0, x.block < W.heap.size := by obtain ⟨m, hm⟩ := k0; exact DataW.trod_lt m _ _ _ hm
  have lt1 : ∀ x ∈ p1, x.block < W.heap.size := by obtain ⟨m, hm⟩ := k1; exact DataW.trod_lt m _ _ _ hm
  obtain ⟨cs, rfl, hcs⟩ := okWide_struct Tryd.underlying23 (hval 0 _ _ rfl rfl)
  obtain ⟨lc⟩ := cs
  obtain ⟨m0, h0'⟩ := h0
  obtain ⟨k, id, seg, t, rfl⟩ := op_fname m0 lc (d0, p0) (by exact h0')
  obtain ⟨x1, rfl⟩ := okWide_string Tryd.underlying9 (hval 1 _ _ rfl rfl)
  obtain ⟨m1, h1'⟩ := h1
  obtain ⟨s, es, ed, _⟩ := op_string (c := .string x1) Tryd.underlying9 (by exact h1')
  injection es with es
  subst es
  have hd1 : d1 = .lit (.string x1.data.toList) := congrArg Prod.fst ed
  have hb := small_of (hk _ rfl)
  simp only [List.append_nil, Rows.uptoBulkAll, hd1, Rows.uptoBulk] at hb
  have hlen : x1.data.toList.length ≤ 1048576 := by omega
  clear hA0 hval0
  have E := env_of hL hsh
  refine (names_law k id seg t x1.data.toList W E hlen).mono fun e W' ⟨he, bel⟩ => ?_
  subst he
  exact ⟨_, rfl, _, _, _, [], _, [], hW', trodAll_mk1 (shut_bool Tryd.underlying4 _),
    (trodAll_cons_mk (Below.trod laidOut (by kernel_rfl) (of_decide_eq_true (by kernel_rfl)) k0 bel lt0) (trodAll_cons_mk (Below.trod laidOut (by kernel_rfl) (of_decide_eq_true (by kernel_rfl)) k1 bel lt1) trodAll_mk0)), rfl, bel.frame _, fun h => by cases h⟩

theorem manifestNames_over : Rows.ManifestNamesUptoSaid :=
  OpenClaim.holds_of_cond 3 Tryd.f3 rfl rfl rfl rfl rfl rfl rfl ⟨rfl, rfl, rfl, rfl, rfl⟩ rfl rfl rfl rfl rfl (by kernel_rfl) Tryd.func3 (by kernel_rfl)
    (of_decide_eq_true (by kernel_rfl)) (by unfold Func.isWrapper; first | (rw [if_pos (by decide +kernel)]; kernel_rfl) | (rw [if_neg (by decide +kernel)]; exact ⟨rfl, rfl⟩))
    (fun os started H enc _ F => by rw [OpenClaim.pre_eq_preRow]; exact names_lifted os started H enc F)
theorem plain (f : FuncId) (fn : Func) (hf : Tryd.pinned.checked.prog.funcNamed "chronicle/chroniclelaw7.ManifestNames" = some f) (hfn : Tryd.pinned.checked.prog.funcs[f]? = some fn) :
    true = Tryd.pinned.checked.prog.looks [] ∧ ∀ (j : Nat) t, fn.params[j]? = some t → Tryd.pinned.checked.prog.wantsStandIn t = false := by
  obtain rfl : f = 3 := Option.some.inj ((show Tryd.prog.funcNamed "chronicle/chroniclelaw7.ManifestNames" = some 3 by kernel_rfl).symm.trans hf) |>.symm
  obtain rfl : fn = Tryd.f3 := (Option.some.inj (Tryd.func3.symm.trans hfn)).symm
  refine ⟨by kernel_rfl, fun j t ht => ?_⟩
  rw [Tryd.params3] at ht
  have hm : t ∈ [23, 9] := by simpa using Array.mem_of_getElem? ht
  have hall : ([23, 9].all fun u => !Tryd.prog.wantsStandIn u) = true := by kernel_rfl
  exact (show Tryd.prog.wantsStandIn t = false by simpa using List.all_eq_true.1 hall t hm)
theorem manifestNames_holds : Rows.ManifestNamesUptoCardSaid :=
  Claim7.holds_tied_plain_at .later [] _ _ _ _ manifestNames_over (fun _ h => by cases h) (by kernel_rfl) (fun _ h => by cases h) manifestNamesUpto_row_tie rfl ⟨rfl, rfl⟩ (by kernel_rfl) rfl plain (by kernel_rfl)
end Go.Proofs.YtbmbgkgjlnookaaDoor
