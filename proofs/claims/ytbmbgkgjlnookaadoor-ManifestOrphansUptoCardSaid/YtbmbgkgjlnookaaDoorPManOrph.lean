/- ManifestOrphans, the '..UptoCard' form: for every list of names, every manifest and every catalogue the program's Orphans and Strangers tell what the document's do, each answer is memory of its own, what was handed in stays, and the law returns true; conditions: the listed variables of Go's library stand as the program's text lays them (the card ties them); what comes in is of bulk at most 1048576. -/
import Derived.Test.YtbmbgkgjlnookaaDoorOr7
import Derived.Test.YtbmbgkgjlnookaaDoorVarE
import Derived.Test.YtbmbgkgjlnookaaDoorOpen
import Derived.OpenShut
import Derived.JoinedCond
namespace Go.Proofs.YtbmbgkgjlnookaaDoor
open Go.ChangeShapes Go.WideShapes Go.ChangeAt Go.RowKit Go.Deep

theorem laidOut : laidOutB Tryd.prog = true := by kernel_rfl
theorem list7 {α : Type} {l : List α} (h : l.length = 7) : ∃ a b c d e f g, l = [a, b, c, d, e, f, g] := by
  match l, h with
  | [a, b, c, d, e, f, g], _ => exact ⟨a, b, c, d, e, f, g, rfl⟩
theorem list2 {α : Type} {l : List α} (h : l.length = 2) : ∃ a b, l = [a, b] := by
  match l, h with
  | [a, b], _ => exact ⟨a, b, rfl⟩
theorem list3 {α : Type} {l : List α} (h : l.length = 3) : ∃ a b c, l = [a, b, c] := by
  match l, h with
  | [a, b, c], _ => exact ⟨a, b, c, rfl⟩
theorem list4 {α : Type} {l : List α} (h : l.length = 4) : ∃ a b c d, l = [a, b, c, d] := by
  match l, h with
  | [a, b, c, d], _ => exact ⟨a, b, c, d, rfl⟩

section
variable {H : Type} {enc : TypeId × Value → H} {w : World}
theorem op_prod (n : Nat) (cs : List Value) (y : DataW H × List MemPlace) (h : TR enc Tryd.prog w n 60 cs y) : ∃ a : P3, cs = tri a ∧ True := by
  obtain ⟨hl, ys, n', _, hyl, hf⟩ := op_fields Tryd.underlying60 (by kernel_rfl) (by kernel_rfl) h
  obtain ⟨c0, c1, c2, rfl⟩ := list3 hl
  obtain ⟨v, z, e0, _, t0⟩ := hf 0 _ rfl
  cases e0
  obtain ⟨v, z, e1, _, t1⟩ := hf 1 _ rfl
  cases e1
  obtain ⟨v, z, e2, _, t2⟩ := hf 2 _ rfl
  cases e2
  obtain ⟨x0, rfl, _⟩ := op_int Tryd.underlying2 t0
  obtain ⟨x1, rfl, _⟩ := op_int Tryd.underlying2 t1
  obtain ⟨x2, rfl, _⟩ := op_int Tryd.underlying2 t2
  exact ⟨(x0, x1, x2), rfl, trivial⟩
theorem op_topic (n : Nat) (cs : List Value) (y : DataW H × List MemPlace) (h : TR enc Tryd.prog w n 62 cs y) : ∃ a : T4, cs = quad a ∧ (Lit.int .i64 a.id).wf = true ∧ a.name.size ≤ maxLen := by
  obtain ⟨hl, ys, n', _, hyl, hf⟩ := op_fields Tryd.underlying62 (by kernel_rfl) (by kernel_rfl) h
  obtain ⟨c0, c1, c2, c3, rfl⟩ := list4 hl
  obtain ⟨v, z, e0, _, t0⟩ := hf 0 _ rfl
  cases e0
  obtain ⟨v, z, e1, _, t1⟩ := hf 1 _ rfl
  cases e1
  obtain ⟨v, z, e2, _, t2⟩ := hf 2 _ rfl
  cases e2
  obtain ⟨v, z, e3, _, t3⟩ := hf 3 _ rfl
  cases e3
  obtain ⟨x0, rfl, _, w0⟩ := op_int Tryd.underlying3 t0
  obtain ⟨x1, rfl, _, w1⟩ := op_string Tryd.underlying9 t1
  obtain ⟨x2, rfl, _⟩ := op_int Tryd.underlying3 t2
  obtain ⟨x3, rfl, _⟩ := op_int Tryd.underlying2 t3
  exact ⟨⟨x0, x1, x2, x3⟩, rfl, w0, w1⟩
set_option maxRecDepth 100000 in
/-- A manifest that came in. -/
theorem op_man {r : Reach} {b0 : Nat} {v : Value} {d : DataW H} {p : List MemPlace} (hv : Value.okWide Tryd.prog w r b0 31 v) (h : DataW.Trod enc Tryd.prog w 0 (fun _ => true) true 31 v d p) :
    ∃ (id ns nx mk cl : Int) (A B : Option Addr) (c e : Nat) (segs : List Int) (prods : List P3) (parts : List (DataW H)), v = manV id ns nx mk cl (.slice A segs.length c) (.slice B prods.length e) ∧ d = .agg parts ∧
      Rd w w.heap.size A (segs.map (.int .i64)) ∧ Rd w w.heap.size B (prods.flatMap tri) ∧ (∀ s ∈ segs, (Lit.int .i64 s).wf = true) ∧
      (segs = [] ∨ ∃ el sp, parts[5]? = some (.slice el sp) ∧ el.length = segs.length) ∧ (prods = [] ∨ ∃ el sp, parts[6]? = some (.slice el sp) ∧ el.length = prods.length) := by
  obtain ⟨cs, rfl, hsz⟩ := okWide_struct Tryd.underlying31 hv
  obtain ⟨l⟩ := cs
  obtain ⟨n, hn⟩ := h
  obtain ⟨hl, ys, n', hy, hyl, hf⟩ := op_fields (y := (d, p)) (n := n) (cs := l) Tryd.underlying31 (by kernel_rfl) (by kernel_rfl) (by exact hn)
  obtain ⟨c0, c1, c2, c3, c4, c5, c6, rfl⟩ := list7 hl
  obtain ⟨v, z, e0, _, t0⟩ := hf 0 _ rfl
  cases e0
  obtain ⟨v, z, e1, _, t1⟩ := hf 1 _ rfl
  cases e1
  obtain ⟨v, z, e2, _, t2⟩ := hf 2 _ rfl
  cases e2
  obtain ⟨v, z, e3, _, t3⟩ := hf 3 _ rfl
  cases e3
  obtain ⟨v, z, e4, _, t4⟩ := hf 4 _ rfl
  cases e4
  obtain ⟨v, z5, e5, y5, t5⟩ := hf 5 _ rfl
  cases e5
  obtain ⟨v, z6, e6, y6, t6⟩ := hf 6 _ rfl
  cases e6
  obtain ⟨x0, rfl, _⟩ := op_int Tryd.underlying3 t0
  obtain ⟨x1, rfl, _⟩ := op_int Tryd.underlying3 t1
  obtain ⟨x2, rfl, _⟩ := op_int Tryd.underlying2 t2
  obtain ⟨x3, rfl, _⟩ := op_int Tryd.underlying2 t3
  obtain ⟨x4, rfl, _⟩ := op_int Tryd.underlying2 t4
  obtain ⟨A, segs, c, rfl, rA, wA, dA, _⟩ := op_ints Tryd.underlying28 Tryd.underlying3 (by kernel_rfl) t5
  obtain ⟨B, prods, e, rfl, rB, _, dB, _⟩ := op_structs tri (fun _ => True) 3 (fun _ => rfl) Tryd.underlying29 (by kernel_rfl) op_prod t6
  refine ⟨x0, x1, x2, x3, x4, A, B, c, e, segs, prods, ys.map (·.1), rfl, hy, rA, rB, wA, ?_, ?_⟩
  · rcases dA with ⟨_, h⟩ | ⟨el, sp, h1, h2⟩
    · exact .inl h
    · exact .inr ⟨el, sp, by rw [List.getElem?_map, y5, Option.map_some, h1], h2⟩
  · rcases dB with ⟨_, h⟩ | ⟨el, sp, h1, h2⟩
    · exact .inl h
    · exact .inr ⟨el, sp, by rw [List.getElem?_map, y6, Option.map_some, h1], h2⟩
set_option maxRecDepth 100000 in
theorem op_cat {r : Reach} {b0 : Nat} {v : Value} {d : DataW H} {p : List MemPlace} (hv : Value.okWide Tryd.prog w r b0 34 v) (h : DataW.Trod enc Tryd.prog w 0 (fun _ => true) true 34 v d p) :
    ∃ (nid : Int) (A : Option Addr) (c : Nat) (l : List T4) (parts : List (DataW H)), v = catV nid (.slice A l.length c) ∧ d = .agg parts ∧
      Rd w w.heap.size A (l.flatMap quad) ∧ (∀ t ∈ l, (Lit.int .i64 t.id).wf = true ∧ t.name.size ≤ maxLen) ∧ (l = [] ∨ ∃ el sp, parts[1]? = some (.slice el sp) ∧ el.length = l.length) := by
  obtain ⟨cs, rfl, hsz⟩ := okWide_struct Tryd.underlying34 hv
  obtain ⟨l⟩ := cs
  obtain ⟨n, hn⟩ := h
  obtain ⟨hl, ys, n', hy, hyl, hf⟩ := op_fields (y := (d, p)) (n := n) (cs := l) Tryd.underlying34 (by kernel_rfl) (by kernel_rfl) (by exact hn)
  obtain ⟨c0, c1, rfl⟩ := list2 hl
  obtain ⟨v, z, e0, _, t0⟩ := hf 0 _ rfl
  cases e0
  obtain ⟨v, z1, e1, y1, t1⟩ := hf 1 _ rfl
  cases e1
  obtain ⟨x0, rfl, _⟩ := op_int Tryd.underlying3 t0
  obtain ⟨A, ts, c, rfl, rA, gA, dA, _⟩ := op_structs quad (fun t => (Lit.int .i64 t.id).wf = true ∧ t.name.size ≤ maxLen) 4 (fun _ => rfl) Tryd.underlying32 (by kernel_rfl) op_topic t1
  refine ⟨x0, A, c, ts, ys.map (·.1), rfl, hy, rA, gA, ?_⟩
  rcases dA with ⟨_, h⟩ | ⟨el, sp, h1, h2⟩
  · exact .inl h
  · exact .inr ⟨el, sp, by rw [List.getElem?_map, y1, Option.map_some, h1], h2⟩
end
theorem bulk_one {H : Type} (d : DataW H) : 1 ≤ Rows.uptoBulk d := by
  cases d with
  | lit l => cases l <;> simp [Rows.uptoBulk]
  | nil => simp [Rows.uptoBulk]
  | ptr d => simp [Rows.uptoBulk]
  | slice elems spare => simp [Rows.uptoBulk]
  | agg parts => simp [Rows.uptoBulk]
  | iface t d => simp [Rows.uptoBulk]
  | map entries => simp [Rows.uptoBulk]
  | held h => simp [Rows.uptoBulk]
theorem bulk_len {H : Type} (l : List (DataW H)) : l.length ≤ Rows.uptoBulkAll l := by
  induction l with
  | nil => simp
  | cons x r ih => have := bulk_one x; simp only [Rows.uptoBulkAll, List.length_cons]; omega
theorem bulk_slice {H : Type} (elems spare : List (DataW H)) : elems.length ≤ Rows.uptoBulk (.slice elems spare) := by
  have h1 := bulk_len elems
  simp only [Rows.uptoBulk]
  omega
theorem bulk_part {H : Type} {d : DataW H} {l : List (DataW H)} (h : d ∈ l) : Rows.uptoBulk d ≤ Rows.uptoBulkAll l := by
  induction l with
  | nil => cases h
  | cons x r ih =>
    simp only [Rows.uptoBulkAll]
    cases List.mem_cons.1 h with
    | inl e => subst e; omega
    | inr e => have := ih e; omega
theorem bulk_bound {H : Type} {l : List (DataW H)} (hk : Rows.uptoSmall H l = true) : Rows.uptoBulkAll l ≤ 1048576 := of_decide_eq_true hk
/-- A slice's length is at most its bulk. -/
theorem bulk_row {H : Type} {d : DataW H} {n : Nat} {p : Prop} {q : Nat} (h : (d = .nil ∧ p) ∨ ∃ el sp, d = .slice el sp ∧ el.length = n) (hp : p → n = 0) (hb : Rows.uptoBulk d ≤ q) : n ≤ q := by
  rcases h with ⟨_, h⟩ | ⟨el, sp, rfl, h2⟩
  · rw [hp h]; omega
  · have := bulk_slice el sp; omega
theorem bulk_nth {H : Type} {parts : List (DataW H)} {d : DataW H} {j : Nat} (h : parts[j]? = some d) : Rows.uptoBulk d ≤ Rows.uptoBulk (.agg parts) := by
  have := bulk_part (List.mem_of_getElem? h)
  simp only [Rows.uptoBulk]
  omega
theorem bulk_field {H : Type} {α : Type} {parts : List (DataW H)} {l : List α} {j : Nat} (h : l = [] ∨ ∃ el sp, parts[j]? = some (.slice el sp) ∧ el.length = l.length) : l.length ≤ Rows.uptoBulk (.agg parts) := by
  rcases h with rfl | ⟨el, sp, h1, h2⟩
  · exact Nat.zero_le _
  · have h3 := bulk_nth h1
    have h4 := bulk_slice el sp
    omega
section
variable {H : Type} {enc : TypeId × Value → H} {w : World}
set_option maxRecDepth 100000 in
theorem op_names (n : Nat) (c : Value) (y : DataW H × List MemPlace) (h : TR enc Tryd.prog w n 27 [c] y) :
    ∃ (A : Option Addr) (l : List ByteArray) (cap : Nat), c = .slice A l.length cap ∧ Rd w w.heap.size A (l.map Value.string) ∧ (∀ s ∈ l, s.size ≤ Rows.uptoBulk y.1) ∧ l.length ≤ Rows.uptoBulk y.1 := by
  rcases open_slice Tryd.underlying27 h with ⟨hcs, hy⟩ | ⟨a, len, cap, q, n', D, Pl, hcs, _, hl, hm, hq, hy, hi⟩
  · exact ⟨none, [], 0, by simpa using hcs, Rd.nil _ _ _, by simp, Nat.zero_le _⟩
  · have hq' : q = cap := by simpa using hq
    have hc : Tryd.prog.cellsOf 9 = 1 := by kernel_rfl
    rw [hc] at hi
    obtain ⟨l, hll, hlq⟩ := list_choice (Q := fun i (b : ByteArray) => b.size ≤ Rows.uptoBulk (D i) ∧ w.cell? (a.add i) = some (.string b)) len fun i hlt => by
      obtain ⟨cs', h1, h2⟩ := hi i (by omega)
      obtain ⟨_, hl1, h4⟩ := World.cells?_some h1
      obtain ⟨v, rfl⟩ : ∃ v, cs' = [v] := by
        match cs', hl1 with
        | [v], _ => exact ⟨v, rfl⟩
      obtain ⟨s, e, hd, _⟩ := op_string Tryd.underlying9 h2
      have h5 := h4 0 (by decide)
      simp only [List.getElem?_cons_zero, Nat.mul_one] at h5
      subst e
      have hd1 : D i = .lit (.string s.data.toList) := congrArg Prod.fst hd
      refine ⟨s, ?_, ?_⟩
      · rw [hd1]; simp [Rows.uptoBulk]
      · rw [add_add'] at h5
        simpa using h5
    have hbl : Rows.uptoBulkAll ((List.range len).map D) ≤ Rows.uptoBulk y.1 := by rw [hy]; simp only [Rows.uptoBulk]; omega
    refine ⟨some a, l, cap, by rw [hll]; simpa using hcs, ?_, ?_, ?_⟩
    · intro j u hu
      rw [List.getElem?_map] at hu
      cases hj : l[j]? with
      | none => rw [hj] at hu; cases hu
      | some b =>
        rw [hj] at hu
        simp at hu
        subst hu
        have h3 := (hlq j b hj).2
        exact ⟨a, rfl, by rw [← add_block a j]; exact World.block_lt_of_cell? _ _ h3, h3⟩
    · intro s hs
      obtain ⟨i, hi', rfl⟩ := List.getElem_of_mem hs
      have h3 := (hlq i _ (List.getElem?_eq_getElem hi')).1
      have h4 := bulk_part (l := (List.range len).map D) (d := D i) (List.mem_map.2 ⟨i, List.mem_range.2 (by omega), rfl⟩)
      omega
    · rw [hll]
      have := bulk_len ((List.range len).map D)
      simp only [List.length_map, List.length_range] at this
      omega
end
def fargs : Array Value := #[.slice none 0 0, .agg #[.int .i64 0, .int .i64 0, .int .i64 0, .int .i64 0, .int .i64 0, .slice none 0 0, .slice none 0 0], .agg #[.int .i64 0, .slice none 0 0]]
theorem reads (os : Os) {H : Type} (enc : TypeId × Value → H) : ∃ places, DataW.whole enc Tryd.prog ((World.laidAll Tryd.prog os laidV).forCall (fun _ _ => 0) ⟨#[], fargs, []⟩).memory Tryd.f4.params.toList Rows.manifestOrphansSpec.vars false fargs.toList 8 = some ([.nil, .agg [.lit (.int .i64 0), .lit (.int .i64 0), .lit (.int .i64 0), .lit (.int .i64 0), .lit (.int .i64 0), .nil, .nil], .agg [.lit (.int .i64 0), .nil]], [], places) :=
  ⟨[], by kernel_rfl⟩

set_option maxRecDepth 100000 in
theorem orphans_lifted (os : Os) (started : os.Started) (H : Type) (enc : TypeId × Value → H) (F : Stop.Interp) :
    ReturnsInHanded {} Tryd.checked os 4 .any ((Rows.OpenSpec.upto Rows.manifestOrphansSpec).preRow enc Tryd.prog Tryd.f4 Rows.manifestOrphansUptoRow.domain false Rows.manifestOrphansUptoRow.laid) (((Rows.OpenSpec.upto Rows.manifestOrphansSpec).at F).post enc Tryd.prog Tryd.f4 false true false false) := by
  obtain ⟨places, hx⟩ := reads os enc
  refine returnsInHanded_of_row (C := Tryd.checked) (s := Rows.OpenSpec.upto Rows.manifestOrphansSpec) ownK started (by kernel_rfl) Tryd.func4
    (witness_laid (enc := enc) fargs (by kernel_rfl) (OpenSpec.preRow_of_cond 8 hx (by kernel_rfl) (fun k hk => by cases hk; kernel_rfl) (by kernel_rfl) (laid_met os _))) ?_
  intro W base args ds gs before hval0 hW _ hk _ hL hsh _
  have hval : ∀ (j : Nat) t v, Tryd.f4.params[j]? = some t → args[j]? = some v → Value.okWide Tryd.prog W .any base t v := hval0
  have hW' := hW
  obtain ⟨p, q, hA0, hV, rfl, hfz, hnd⟩ := hW
  have hA : DataW.TrodAll enc Tryd.prog W 0 (fun _ => true) true Tryd.f4.params.toList args.toList ds p := hA0
  rw [Tryd.params4] at hA hval
  obtain ⟨v0, vs0, d0, ds0, p0, q0, hargs, rfl, rfl, h0, r0⟩ := trodAll_cons hA
  obtain ⟨v1, vs1, d1, ds1, p1, q1, rfl, rfl, rfl, h1, r1⟩ := trodAll_cons r0
  obtain ⟨v2, vs2, d2, ds2, p2, q2, rfl, rfl, rfl, h2, r2⟩ := trodAll_cons r1
  obtain ⟨rfl, rfl, rfl⟩ := trodAll_nil r2
  obtain rfl : args = #[v0, v1, v2] := by cases args; simp_all
  obtain ⟨rfl, rfl⟩ := trodVars_none hV
  have k0 := h0
  have k1 := h1
  have k2 := h2
  have lt0 : ∀ x ∈ p0, x.block < W.heap.size := by obtain ⟨m, hm⟩ := k0; exact DataW.trod_lt m _ _ _ hm
  have lt1 : ∀ x ∈ p1, x.block < W.heap.size := by obtain ⟨m, hm⟩ := k1; exact DataW.trod_lt m _ _ _ hm
  have lt2 : ∀ x ∈ p2, x.block < W.heap.size := by obtain ⟨m, hm⟩ := k2; exact DataW.trod_lt m _ _ _ hm
  obtain ⟨x0, n0, g0, rfl⟩ := okWide_slice Tryd.underlying27 (hval 0 _ _ rfl rfl)
  obtain ⟨m0, h0'⟩ := h0
  obtain ⟨A0, names, cc, e0, rp0, sz0, ln0⟩ := op_names m0 (.slice x0 n0 g0) (d0, p0) (by exact h0')
  injection e0 with z1 z2 z3
  subst z1 z2 z3
  obtain ⟨id, ns, nx, mk, cl, A, B, c, e, segs, prods, parts, rfl, hd1, rA, rB, wA, bA, bB⟩ := op_man (hval 1 _ _ rfl rfl) h1
  obtain ⟨nid, C, f, l, partc, rfl, hd2, rC, wC, bC⟩ := op_cat (hval 2 _ _ rfl rfl) h2
  have hb := bulk_bound (hk _ rfl)
  simp only [List.append_nil, Rows.uptoBulkAll] at hb
  have b1 := bulk_field bA
  have b2 := bulk_field bB
  have b3 := bulk_field bC
  rw [hd1, hd2] at hb
  dsimp only at sz0 ln0
  clear hA0 hval0
  have E := env_of hL hsh
  refine (orphans_law x0 names.length g0 names id ns nx mk cl nid A B C c e f segs prods l W E rp0 rfl (by omega) (fun s hs => Nat.le_trans (sz0 s hs) (by omega)) rA rB rC (by omega) (by omega) (by omega) wA wC).mono fun e W' ⟨he, bel⟩ => ?_
  subst he
  exact ⟨_, rfl, _, _, _, [], _, [], hW', trodAll_mk1 (shut_bool Tryd.underlying4 _),
    (trodAll_cons_mk (Below.trod laidOut (by kernel_rfl) (of_decide_eq_true (by kernel_rfl)) k0 bel lt0) (trodAll_cons_mk (Below.trod laidOut (by kernel_rfl) (of_decide_eq_true (by kernel_rfl)) k1 bel lt1) (trodAll_cons_mk (Below.trod laidOut (by kernel_rfl) (of_decide_eq_true (by kernel_rfl)) k2 bel lt2) trodAll_mk0))), rfl, bel.frame _, fun h => by cases h⟩

theorem manifestOrphans_over : Rows.ManifestOrphansUptoSaid :=
  OpenClaim.holds_of_cond 4 Tryd.f4 rfl rfl rfl rfl rfl rfl rfl ⟨rfl, rfl, rfl, rfl, rfl⟩ rfl rfl rfl rfl rfl (by kernel_rfl) Tryd.func4 (by kernel_rfl)
    (of_decide_eq_true (by kernel_rfl)) (by unfold Func.isWrapper; first | (rw [if_pos (by decide +kernel)]; kernel_rfl) | (rw [if_neg (by decide +kernel)]; exact ⟨rfl, rfl⟩))
    (fun os started H enc _ F => by rw [OpenClaim.pre_eq_preRow]; exact orphans_lifted os started H enc F)
theorem plain (f : FuncId) (fn : Func) (hf : Tryd.pinned.checked.prog.funcNamed "chronicle/chroniclelaw7.ManifestOrphans" = some f) (hfn : Tryd.pinned.checked.prog.funcs[f]? = some fn) :
    true = Tryd.pinned.checked.prog.looks [] ∧ ∀ (j : Nat) t, fn.params[j]? = some t → Tryd.pinned.checked.prog.wantsStandIn t = false := by
  obtain rfl : f = 4 := Option.some.inj ((show Tryd.prog.funcNamed "chronicle/chroniclelaw7.ManifestOrphans" = some 4 by kernel_rfl).symm.trans hf) |>.symm
  obtain rfl : fn = Tryd.f4 := (Option.some.inj (Tryd.func4.symm.trans hfn)).symm
  refine ⟨by kernel_rfl, fun j t ht => ?_⟩
  rw [Tryd.params4] at ht
  have hm : t ∈ [27, 31, 34] := by simpa using Array.mem_of_getElem? ht
  have hall : ([27, 31, 34].all fun u => !Tryd.prog.wantsStandIn u) = true := by kernel_rfl
  exact (show Tryd.prog.wantsStandIn t = false by simpa using List.all_eq_true.1 hall t hm)
theorem manifestOrphans_holds : Rows.ManifestOrphansUptoCardSaid :=
  Claim7.holds_tied_plain_at .later [] _ _ _ _ manifestOrphans_over (fun _ h => by cases h) (by kernel_rfl) (fun _ h => by cases h) manifestOrphansUpto_row_tie rfl ⟨rfl, rfl⟩ (by kernel_rfl) rfl plain (by kernel_rfl)
end Go.Proofs.YtbmbgkgjlnookaaDoor
