import Derived.Test.YtdeaefbjddodjaaGreatDoorGc
import Derived.Test.YtdeaefbjddodjaaGreatDoorCards
import Derived.Test.YtdeaefbjddodjaaGreatDoorTie
import Derived.LaidMore
import Derived.OpenShut
import Derived.Stop.Joined
import Derived.Stop.LaidErr
import Derived.SevenTiedAt
import Derived.Deep.DeepHandedRow
import Derived.Deep.DeepWitnessRowRef
import Derived.Shelf.Vars
import Derived.Lay
import Derived.Test.YtdeaefbjddodjaaGreatDoorGj
import Derived.Test.YtdeaefbjddodjaaGreatDoorGi
import Derived.JoinedCond
/- Env out of the listed variables and the world's shape. -/
namespace Go.Proofs.YtdeaefbjddodjaaGreatDoor
open Go.ChangeShapes Go.WideShapes Go.ChangeAt Go.RowKit

theorem ownK : ownKnob Tryz.prog.godebug = none := by kernel_rfl
theorem star : "*" ++ "errors.errorString" = "*errors.errorString" := by decide
theorem rowErr (u : TypeId) (h : Tryz.prog.typeName? 3 u = some "*errors.errorString") : u = 149 :=
  typeName_ptr_named (nm := "errors.errorString") (by rw [star]; kernel_rfl) (by kernel_rfl) (by decide) u (by rw [star]; exact h)
theorem env_of {W : World} (h : laidMetH Tryz.prog Rows.manifestRoundRow.laid W) (hsh : W.ShapedOpen Tryz.prog) : Env W := by
  rw [MakeChecks.laidMetH_plain _ _ _ (by kernel_rfl)] at h
  have h2 : laidMet Tryz.prog (("internal/strconv.uint64pow10", Rows.laid_internal_strconv_uint64pow10) :: _) W := laidMet.tail (laidMet.tail h)
  have h4 : laidMet Tryz.prog (("strconv.ErrRange", Rows.laid_strconv_ErrRange) :: _) W := laidMet.tail (laidMet.tail h2)
  have h5 : laidMet Tryz.prog (("strconv.ErrSyntax", Rows.laid_strconv_ErrSyntax) :: _) W := laidMet.tail h4
  refine ⟨?_, ?_, ?_, ?_⟩
  · exact Lib.tabIs_of_head (g := 2) (t := 142) (e := 53) (n := 20) (by kernel_rfl) (by kernel_rfl) Tryz.underlying142 Tryz.underlying53 (by kernel_rfl) (by kernel_rfl) h2
  · exact cell_of_shapedOpen_int (t := 3) (zero := #[.int .i64 0]) hsh (of_decide_eq_true (by kernel_rfl)) (by kernel_rfl) rfl (by kernel_rfl) (by kernel_rfl) Tryz.underlying3
  · obtain ⟨a, s, hv, _⟩ := laid_sentinel h5 (g := 0) (ti := 86) (by kernel_rfl) (by kernel_rfl) Tryz.underlying86 rowErr Tryz.underlying149 Tryz.underlying151 rfl rfl Tryz.underlying9 (by kernel_rfl) (by kernel_rfl)
    exact ⟨_, _, hv⟩
  · obtain ⟨a, s, hv, _⟩ := laid_sentinel h4 (g := 1) (ti := 86) (by kernel_rfl) (by kernel_rfl) Tryz.underlying86 rowErr Tryz.underlying149 Tryz.underlying151 rfl rfl Tryz.underlying9 (by kernel_rfl) (by kernel_rfl)
    exact ⟨_, _, hv⟩
abbrev laidV : List (String × DataW Unit) := Rows.manifestRoundRow.laid
theorem laid_met (os : Os) (args : Array Value) : laidMetH Tryz.prog laidV ((World.laidAll Tryz.prog os laidV).forCall (fun _ _ => 0) ⟨#[], args, []⟩).memory := by
  rw [MakeChecks.laidMetH_plain _ _ _ (by kernel_rfl)]
  exact laidMet_laidAll _ (by kernel_rfl) (by kernel_rfl)
theorem laid_shaped (os : Os) (args : Array Value) : ((World.laidAll Tryz.prog os laidV).forCall (fun _ _ => 0) ⟨#[], args, []⟩).Shaped Tryz.prog :=
  World.shaped_of_ZipB (by kernel_rfl) (by kernel_rfl)
section
variable {H : Type} {enc : TypeId × Value → H}
/-- There is an input that fits. -/
theorem witness_laid {os : Os} {f : FuncId} {fn : Func} {s : OpenSpec} {conds : List PathCond} {apart : Bool} (args : Array Value)
    (hok : Input.okWideB Tryz.prog ((World.laidAll Tryz.prog os laidV).forCall (fun _ _ => 0) ⟨#[], args, []⟩) f ⟨#[], args, []⟩ = true)
    (hrow : s.preRow enc Tryz.prog fn conds apart laidV ((World.laidAll Tryz.prog os laidV).forCall (fun _ _ => 0) ⟨#[], args, []⟩).memory args) :
    ∃ (w : World) (tape : Tape) (i : Input), w.os = os ∧ (w.forCall tape i).Shaped Tryz.prog ∧ i.vars = [] ∧ Input.okWide Tryz.prog (w.forCall tape i) .any w.heap.size f i ∧
      s.preRow enc Tryz.prog fn conds apart laidV (w.forCall tape i).memory i.args ∧ ({} : Assume).holds Tryz.prog (lone (Frame.enter Tryz.prog f i.args .normal) [] (w.forCall tape i)) :=
  ⟨World.laidAll Tryz.prog os laidV, fun _ _ => 0, ⟨#[], args, []⟩, World.laidAll_os _ _ _, laid_shaped os args, (Input.okWide_of_okWideB (base := 0) hok).1, (Input.okWide_of_okWideB hok).2, hrow, by
    simp only [Assume.holds]
    exact ⟨by simp, by simp, fun _ => Modest.zero, by simp, by simp⟩⟩
end
end Go.Proofs.YtdeaefbjddodjaaGreatDoor
/- ManifestRound, the '..UptoCard' form: what is written is read back, what is taken is written to just these bytes, nothing is both a manifest and a catalogue, names and back: the law returns true; conditions: the listed variables of Go's library stand as the program's text lays them (the card ties them); what comes in is of bulk at most 1048576. -/
namespace Go.Proofs.YtdeaefbjddodjaaGreatDoor
open Go.ChangeShapes Go.WideShapes Go.ChangeAt Go.RowKit Go.Deep

theorem laidOut : laidOutB Tryz.prog = true := by kernel_rfl
theorem list7 {α : Type} {l : List α} (h : l.length = 7) : ∃ a b c d e f g, l = [a, b, c, d, e, f, g] := by
  match l, h with
  | [a, b, c, d, e, f, g], _ => exact ⟨a, b, c, d, e, f, g, rfl⟩
theorem list2 {α : Type} {l : List α} (h : l.length = 2) : ∃ a b, l = [a, b] := by
  match l, h with
  | [a, b], _ => exact ⟨a, b, rfl⟩
theorem list3 {α : Type} {l : List α} (h : l.length = 3) : ∃ a b c, l = [a, b, c] := by
  match l, h with
  | [a, b, c], _ => exact ⟨a, b, c, rfl⟩
theorem list4 {α : Type} {l : List α} (h : l.length = 4) : ∃ a b c d, l = [a, b, c, d] := by
  match l, h with
  | [a, b, c, d], _ => exact ⟨a, b, c, d, rfl⟩

section
variable {H : Type} {enc : TypeId × Value → H} {w : World}
theorem op_prod (n : Nat) (cs : List Value) (y : DataW H × List MemPlace) (h : TR enc Tryz.prog w n 55 cs y) : ∃ a : P3, cs = tri a ∧ True := by
  obtain ⟨hl, ys, n', _, hyl, hf⟩ := op_fields Tryz.underlying55 (by kernel_rfl) (by kernel_rfl) h
  obtain ⟨c0, c1, c2, rfl⟩ := list3 hl
  obtain ⟨v, z, e0, _, t0⟩ := hf 0 _ rfl
  cases e0
  obtain ⟨v, z, e1, _, t1⟩ := hf 1 _ rfl
  cases e1
  obtain ⟨v, z, e2, _, t2⟩ := hf 2 _ rfl
  cases e2
  obtain ⟨x0, rfl, _⟩ := op_int Tryz.underlying2 t0
  obtain ⟨x1, rfl, _⟩ := op_int Tryz.underlying2 t1
  obtain ⟨x2, rfl, _⟩ := op_int Tryz.underlying2 t2
  exact ⟨(x0, x1, x2), rfl, trivial⟩
theorem op_topic (n : Nat) (cs : List Value) (y : DataW H × List MemPlace) (h : TR enc Tryz.prog w n 59 cs y) : ∃ a : T4, cs = quad a ∧ (Lit.int .i64 a.id).wf = true ∧ a.name.size ≤ maxLen := by
  obtain ⟨hl, ys, n', _, hyl, hf⟩ := op_fields Tryz.underlying59 (by kernel_rfl) (by kernel_rfl) h
  obtain ⟨c0, c1, c2, c3, rfl⟩ := list4 hl
  obtain ⟨v, z, e0, _, t0⟩ := hf 0 _ rfl
  cases e0
  obtain ⟨v, z, e1, _, t1⟩ := hf 1 _ rfl
  cases e1
  obtain ⟨v, z, e2, _, t2⟩ := hf 2 _ rfl
  cases e2
  obtain ⟨v, z, e3, _, t3⟩ := hf 3 _ rfl
  cases e3
  obtain ⟨x0, rfl, _, w0⟩ := op_int Tryz.underlying3 t0
  obtain ⟨x1, rfl, _, w1⟩ := op_string Tryz.underlying9 t1
  obtain ⟨x2, rfl, _⟩ := op_int Tryz.underlying3 t2
  obtain ⟨x3, rfl, _⟩ := op_int Tryz.underlying2 t3
  exact ⟨⟨x0, x1, x2, x3⟩, rfl, w0, w1⟩
set_option maxRecDepth 100000 in
/-- A manifest that came in. -/
theorem op_man {r : Reach} {b0 : Nat} {v : Value} {d : DataW H} {p : List MemPlace} (hv : Value.okWide Tryz.prog w r b0 25 v) (h : DataW.Trod enc Tryz.prog w 0 (fun _ => true) true 25 v d p) :
    ∃ (id ns nx mk cl : Int) (A B : Option Addr) (c e : Nat) (segs : List Int) (prods : List P3) (parts : List (DataW H)), v = manV id ns nx mk cl (.slice A segs.length c) (.slice B prods.length e) ∧ d = .agg parts ∧
      Rd w w.heap.size A (segs.map (.int .i64)) ∧ Rd w w.heap.size B (prods.flatMap tri) ∧ (∀ s ∈ segs, (Lit.int .i64 s).wf = true) ∧
      (segs = [] ∨ ∃ el sp, parts[5]? = some (.slice el sp) ∧ el.length = segs.length) ∧ (prods = [] ∨ ∃ el sp, parts[6]? = some (.slice el sp) ∧ el.length = prods.length) := by
  obtain ⟨cs, rfl, hsz⟩ := okWide_struct Tryz.underlying25 hv
  obtain ⟨l⟩ := cs
  obtain ⟨n, hn⟩ := h
  obtain ⟨hl, ys, n', hy, hyl, hf⟩ := op_fields (y := (d, p)) (n := n) (cs := l) Tryz.underlying25 (by kernel_rfl) (by kernel_rfl) (by exact hn)
  obtain ⟨c0, c1, c2, c3, c4, c5, c6, rfl⟩ := list7 hl
  obtain ⟨v, z, e0, _, t0⟩ := hf 0 _ rfl
  cases e0
  obtain ⟨v, z, e1, _, t1⟩ := hf 1 _ rfl
  cases e1
  obtain ⟨v, z, e2, _, t2⟩ := hf 2 _ rfl
  cases e2
  obtain ⟨v, z, e3, _, t3⟩ := hf 3 _ rfl
  cases e3
  obtain ⟨v, z, e4, _, t4⟩ := hf 4 _ rfl
  cases e4
  obtain ⟨v, z5, e5, y5, t5⟩ := hf 5 _ rfl
  cases e5
  obtain ⟨v, z6, e6, y6, t6⟩ := hf 6 _ rfl
  cases e6
  obtain ⟨x0, rfl, _⟩ := op_int Tryz.underlying3 t0
  obtain ⟨x1, rfl, _⟩ := op_int Tryz.underlying3 t1
  obtain ⟨x2, rfl, _⟩ := op_int Tryz.underlying2 t2
  obtain ⟨x3, rfl, _⟩ := op_int Tryz.underlying2 t3
  obtain ⟨x4, rfl, _⟩ := op_int Tryz.underlying2 t4
  obtain ⟨A, segs, c, rfl, rA, wA, dA, _⟩ := op_ints Tryz.underlying22 Tryz.underlying3 (by kernel_rfl) t5
  obtain ⟨B, prods, e, rfl, rB, _, dB, _⟩ := op_structs tri (fun _ => True) 3 (fun _ => rfl) Tryz.underlying23 (by kernel_rfl) op_prod t6
  refine ⟨x0, x1, x2, x3, x4, A, B, c, e, segs, prods, ys.map (·.1), rfl, hy, rA, rB, wA, ?_, ?_⟩
  · rcases dA with ⟨_, h⟩ | ⟨el, sp, h1, h2⟩
    · exact .inl h
    · exact .inr ⟨el, sp, by rw [List.getElem?_map, y5, Option.map_some, h1], h2⟩
  · rcases dB with ⟨_, h⟩ | ⟨el, sp, h1, h2⟩
    · exact .inl h
    · exact .inr ⟨el, sp, by rw [List.getElem?_map, y6, Option.map_some, h1], h2⟩
set_option maxRecDepth 100000 in
theorem op_cat {r : Reach} {b0 : Nat} {v : Value} {d : DataW H} {p : List MemPlace} (hv : Value.okWide Tryz.prog w r b0 28 v) (h : DataW.Trod enc Tryz.prog w 0 (fun _ => true) true 28 v d p) :
    ∃ (nid : Int) (A : Option Addr) (c : Nat) (l : List T4) (parts : List (DataW H)), v = catV nid (.slice A l.length c) ∧ d = .agg parts ∧
      Rd w w.heap.size A (l.flatMap quad) ∧ (∀ t ∈ l, (Lit.int .i64 t.id).wf = true ∧ t.name.size ≤ maxLen) ∧ (l = [] ∨ ∃ el sp, parts[1]? = some (.slice el sp) ∧ el.length = l.length) := by
  obtain ⟨cs, rfl, hsz⟩ := okWide_struct Tryz.underlying28 hv
  obtain ⟨l⟩ := cs
  obtain ⟨n, hn⟩ := h
  obtain ⟨hl, ys, n', hy, hyl, hf⟩ := op_fields (y := (d, p)) (n := n) (cs := l) Tryz.underlying28 (by kernel_rfl) (by kernel_rfl) (by exact hn)
  obtain ⟨c0, c1, rfl⟩ := list2 hl
  obtain ⟨v, z, e0, _, t0⟩ := hf 0 _ rfl
  cases e0
  obtain ⟨v, z1, e1, y1, t1⟩ := hf 1 _ rfl
  cases e1
  obtain ⟨x0, rfl, _⟩ := op_int Tryz.underlying3 t0
  obtain ⟨A, ts, c, rfl, rA, gA, dA, _⟩ := op_structs quad (fun t => (Lit.int .i64 t.id).wf = true ∧ t.name.size ≤ maxLen) 4 (fun _ => rfl) Tryz.underlying26 (by kernel_rfl) op_topic t1
  refine ⟨x0, A, c, ts, ys.map (·.1), rfl, hy, rA, gA, ?_⟩
  rcases dA with ⟨_, h⟩ | ⟨el, sp, h1, h2⟩
  · exact .inl h
  · exact .inr ⟨el, sp, by rw [List.getElem?_map, y1, Option.map_some, h1], h2⟩
end
section
variable {H : Type} {enc : TypeId × Value → H} {w : World}
theorem op_fname (n : Nat) (cs : List Value) (y : DataW H × List MemPlace) (h : TR enc Tryz.prog w n 30 cs y) : ∃ (k id seg : Int) (t : Bool), cs = [.int .i64 k, .int .i64 id, .int .i64 seg, .bool t] := by
  obtain ⟨hl, ys, n', _, hyl, hf⟩ := op_fields Tryz.underlying30 (by kernel_rfl) (by kernel_rfl) h
  obtain ⟨c0, c1, c2, c3, rfl⟩ := list4 hl
  obtain ⟨v, z, e0, _, t0⟩ := hf 0 _ rfl
  cases e0
  obtain ⟨v, z, e1, _, t1⟩ := hf 1 _ rfl
  cases e1
  obtain ⟨v, z, e2, _, t2⟩ := hf 2 _ rfl
  cases e2
  obtain ⟨v, z, e3, _, t3⟩ := hf 3 _ rfl
  cases e3
  obtain ⟨x0, rfl, _⟩ := op_int Tryz.underlying3 t0
  obtain ⟨x1, rfl, _⟩ := op_int Tryz.underlying3 t1
  obtain ⟨x2, rfl, _⟩ := op_int Tryz.underlying3 t2
  obtain ⟨x3, rfl, _⟩ := op_bool Tryz.underlying4 t3
  exact ⟨x0, x1, x2, x3, rfl⟩
end
theorem bulk_nth {H : Type} {parts : List (DataW H)} {d : DataW H} {j : Nat} (h : parts[j]? = some d) : Rows.uptoBulk d ≤ Rows.uptoBulk (.agg parts) := by
  have := bulk_part (List.mem_of_getElem? h)
  simp only [Rows.uptoBulk]
  omega
theorem bulk_field {H : Type} {α : Type} {parts : List (DataW H)} {l : List α} {j : Nat} (h : l = [] ∨ ∃ el sp, parts[j]? = some (.slice el sp) ∧ el.length = l.length) : l.length ≤ Rows.uptoBulk (.agg parts) := by
  rcases h with rfl | ⟨el, sp, h1, h2⟩
  · exact Nat.zero_le _
  · have h3 := bulk_nth h1
    have h4 := bulk_slice el sp
    omega
theorem bulk_to {H : Type} {d : DataW H} {n : Nat} {p : Prop} (h : (d = .nil ∧ p) ∨ ∃ el sp, d = .slice el sp ∧ el.length = n) (hp : p → n = 0) : n ≤ Rows.uptoBulk d := by
  rcases h with ⟨_, h⟩ | ⟨el, sp, rfl, h2⟩
  · rw [hp h]; omega
  · have := bulk_slice el sp; omega
def fargs : Array Value := #[.agg #[.int .i64 0, .int .i64 0, .int .i64 0, .int .i64 0, .int .i64 0, .slice none 0 0, .slice none 0 0], .agg #[.int .i64 0, .slice none 0 0], .agg #[.int .i64 0, .int .i64 0, .int .i64 0, .bool false], .slice none 0 0, .string ByteArray.empty]
theorem reads (os : Os) {H : Type} (enc : TypeId × Value → H) : ∃ places, DataW.whole enc Tryz.prog ((World.laidAll Tryz.prog os laidV).forCall (fun _ _ => 0) ⟨#[], fargs, []⟩).memory Tryz.f3.params.toList Rows.manifestRoundSpec.vars false fargs.toList 8 = some ([.agg [.lit (.int .i64 0), .lit (.int .i64 0), .lit (.int .i64 0), .lit (.int .i64 0), .lit (.int .i64 0), .nil, .nil], .agg [.lit (.int .i64 0), .nil], .agg [.lit (.int .i64 0), .lit (.int .i64 0), .lit (.int .i64 0), .lit (.bool false)], .nil, .lit (.string [])], [], places) :=
  ⟨[], by kernel_rfl⟩

set_option maxRecDepth 100000 in
theorem round_lifted (os : Os) (started : os.Started) (H : Type) (enc : TypeId × Value → H) (F : Stop.Interp) :
    ReturnsInHanded {} Tryz.checked os 3 .any ((Rows.OpenSpec.upto Rows.manifestRoundSpec).preRow enc Tryz.prog Tryz.f3 Rows.manifestRoundUptoRow.domain false Rows.manifestRoundUptoRow.laid) (((Rows.OpenSpec.upto Rows.manifestRoundSpec).at F).post enc Tryz.prog Tryz.f3 false true false false) := by
  obtain ⟨places, hx⟩ := reads os enc
  refine returnsInHanded_of_row (C := Tryz.checked) (s := Rows.OpenSpec.upto Rows.manifestRoundSpec) ownK started (by kernel_rfl) Tryz.func3
    (witness_laid (enc := enc) fargs (by kernel_rfl) (OpenSpec.preRow_of_cond 8 hx (by kernel_rfl) (fun k hk => by cases hk; kernel_rfl) (by kernel_rfl) (laid_met os _))) ?_
  intro W base args ds gs before hval0 hW _ hk _ hL hsh _
  have hval : ∀ (j : Nat) t v, Tryz.f3.params[j]? = some t → args[j]? = some v → Value.okWide Tryz.prog W .any base t v := hval0
  have hW' := hW
  obtain ⟨p, q, hA0, hV, rfl, hfz, hnd⟩ := hW
  have hA : DataW.TrodAll enc Tryz.prog W 0 (fun _ => true) true Tryz.f3.params.toList args.toList ds p := hA0
  rw [Tryz.params3] at hA hval
  obtain ⟨v0, vs0, d0, ds0, p0, q0, hargs, rfl, rfl, h0, r0⟩ := trodAll_cons hA
  obtain ⟨v1, vs1, d1, ds1, p1, q1, rfl, rfl, rfl, h1, r1⟩ := trodAll_cons r0
  obtain ⟨v2, vs2, d2, ds2, p2, q2, rfl, rfl, rfl, h2, r2⟩ := trodAll_cons r1
  obtain ⟨v3, vs3, d3, ds3, p3, q3, rfl, rfl, rfl, h3, r3⟩ := trodAll_cons r2
  obtain ⟨v4, vs4, d4, ds4, p4, q4, rfl, rfl, rfl, h4, r4⟩ := trodAll_cons r3
  obtain ⟨rfl, rfl, rfl⟩ := trodAll_nil r4
  obtain rfl : args = #[v0, v1, v2, v3, v4] := by cases args; simp_all
  obtain ⟨rfl, rfl⟩ := trodVars_none hV
  have k0 := h0
  have k1 := h1
  have k2 := h2
  have k3 := h3
  have k4 := h4
  have lt0 : ∀ x ∈ p0, x.block < W.heap.size := by obtain ⟨m, hm⟩ := k0; exact DataW.trod_lt m _ _ _ hm
  have lt1 : ∀ x ∈ p1, x.block < W.heap.size := by obtain ⟨m, hm⟩ := k1; exact DataW.trod_lt m _ _ _ hm
  have lt2 : ∀ x ∈ p2, x.block < W.heap.size := by obtain ⟨m, hm⟩ := k2; exact DataW.trod_lt m _ _ _ hm
  have lt3 : ∀ x ∈ p3, x.block < W.heap.size := by obtain ⟨m, hm⟩ := k3; exact DataW.trod_lt m _ _ _ hm
  have lt4 : ∀ x ∈ p4, x.block < W.heap.size := by obtain ⟨m, hm⟩ := k4; exact DataW.trod_lt m _ _ _ hm
  obtain ⟨id, ns, nx, mk, cl, A, B, c, e, segs, prods, parts, rfl, hd1, rA, rB, wA, bA, bB⟩ := op_man (hval 0 _ _ rfl rfl) h0
  obtain ⟨nid, C, f, l, partc, rfl, hd2, rC, wC, bC⟩ := op_cat (hval 1 _ _ rfl rfl) h1
  obtain ⟨cs, rfl, hcs⟩ := okWide_struct Tryz.underlying30 (hval 2 _ _ rfl rfl)
  obtain ⟨lc⟩ := cs
  obtain ⟨m2, h2'⟩ := h2
  obtain ⟨k, i, g, t, rfl⟩ := op_fname m2 lc (d2, p2) (by exact h2')
  obtain ⟨x3, n3, g3, rfl⟩ := okWide_slice Tryz.underlying31 (hval 3 _ _ rfl rfl)
  obtain ⟨m3, h3'⟩ := h3
  obtain ⟨A3, bs, e3, hv3, rA3, c3, b3⟩ := op_bytes (c := .slice x3 n3 g3) Tryz.underlying31 Tryz.underlying5 (by kernel_rfl) h3'
  injection hv3 with z1 z2 z3
  subst z1 z2 z3
  obtain ⟨x4, rfl⟩ := okWide_string Tryz.underlying9 (hval 4 _ _ rfl rfl)
  obtain ⟨m4, h4'⟩ := h4
  obtain ⟨s, es, ed, _⟩ := op_string (c := .string x4) Tryz.underlying9 (by exact h4')
  injection es with es
  subst es
  have hd4 : d4 = .lit (.string x4.data.toList) := congrArg Prod.fst ed
  have hb := bulk_bound (hk _ rfl)
  simp only [List.append_nil, Rows.uptoBulkAll, hd4] at hb
  have bb : Rows.uptoBulk (H := H) (.lit (.string x4.data.toList)) = x4.data.toList.length + 1 := rfl
  rw [bb] at hb
  have b0 := bulk_field bA
  have b1 := bulk_field bB
  have b2 := bulk_field bC
  have bl3 := bulk_to b3 (fun h => by rw [h]; rfl)
  dsimp only at bl3
  rw [hd1, hd2] at hb
  clear hA0 hval0
  have E := env_of hL hsh
  have key := round_law id ns nx mk cl nid A B C x3 c e f bs.length g3 segs prods l bs k i g t x4.data.toList W E rA rB rC rA3 (by omega) (by omega) (by omega) rfl c3 (by omega) (by omega) wA wC
  rw [show (⟨x4.data.toList.toArray⟩ : ByteArray) = x4 by apply ByteArray.ext; simp] at key
  refine key.mono fun e W' ⟨he, bel⟩ => ?_
  subst he
  exact ⟨_, rfl, _, _, _, [], _, [], hW', trodAll_mk1 (shut_bool Tryz.underlying4 _),
    (trodAll_cons_mk (Below.trod laidOut (by kernel_rfl) (of_decide_eq_true (by kernel_rfl)) k0 bel lt0) (trodAll_cons_mk (Below.trod laidOut (by kernel_rfl) (of_decide_eq_true (by kernel_rfl)) k1 bel lt1) (trodAll_cons_mk (Below.trod laidOut (by kernel_rfl) (of_decide_eq_true (by kernel_rfl)) k2 bel lt2) (trodAll_cons_mk (Below.trod laidOut (by kernel_rfl) (of_decide_eq_true (by kernel_rfl)) k3 bel lt3) (trodAll_cons_mk (Below.trod laidOut (by kernel_rfl) (of_decide_eq_true (by kernel_rfl)) k4 bel lt4) trodAll_mk0))))), rfl, bel.frame _, fun h => by cases h⟩

theorem manifestRound_over : Rows.ManifestRoundUptoSaid :=
  OpenClaim.holds_of_cond 3 Tryz.f3 rfl rfl rfl rfl rfl rfl rfl ⟨rfl, rfl, rfl, rfl, rfl⟩ rfl rfl rfl rfl rfl (by kernel_rfl) Tryz.func3 (by kernel_rfl)
    (of_decide_eq_true (by kernel_rfl)) (by unfold Func.isWrapper; first | (rw [if_pos (by decide +kernel)]; kernel_rfl) | (rw [if_neg (by decide +kernel)]; exact ⟨rfl, rfl⟩))
    (fun os started H enc _ F => by rw [OpenClaim.pre_eq_preRow]; exact round_lifted os started H enc F)
theorem plain (f : FuncId) (fn : Func) (hf : Tryz.pinned.checked.prog.funcNamed "chronicle/chroniclelaw7.ManifestRound" = some f) (hfn : Tryz.pinned.checked.prog.funcs[f]? = some fn) :
    true = Tryz.pinned.checked.prog.looks [] ∧ ∀ (j : Nat) t, fn.params[j]? = some t → Tryz.pinned.checked.prog.wantsStandIn t = false := by
  obtain rfl : f = 3 := Option.some.inj ((show Tryz.prog.funcNamed "chronicle/chroniclelaw7.ManifestRound" = some 3 by kernel_rfl).symm.trans hf) |>.symm
  obtain rfl : fn = Tryz.f3 := (Option.some.inj (Tryz.func3.symm.trans hfn)).symm
  refine ⟨by kernel_rfl, fun j t ht => ?_⟩
  rw [Tryz.params3] at ht
  have hm : t ∈ [25, 28, 30, 31, 9] := by simpa using Array.mem_of_getElem? ht
  have hall : ([25, 28, 30, 31, 9].all fun u => !Tryz.prog.wantsStandIn u) = true := by kernel_rfl
  exact (show Tryz.prog.wantsStandIn t = false by simpa using List.all_eq_true.1 hall t hm)
theorem manifestRound_holds : Rows.ManifestRoundUptoCardSaid :=
  Claim7.holds_tied_plain_at .later [] _ _ _ _ manifestRound_over (fun _ h => by cases h) (by kernel_rfl) (fun _ h => by cases h) manifestRoundUpto_row_tie rfl ⟨rfl, rfl⟩ (by kernel_rfl) rfl plain (by kernel_rfl)
end Go.Proofs.YtdeaefbjddodjaaGreatDoor
