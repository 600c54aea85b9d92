/- SessionNil: whatever the step: every call of a nil session answers ErrNil, nothing, 0 or false, a new session takes no nil reader, and the law returns true; conditions: the listed variable stands as the program's text lays it (the card ties it). -/
import Derived.Test.YtlgbffgilgnafaaGreatDoorSe2
import Derived.Test.YtlgbffgilgnafaaGreatDoorOpen
import Derived.Test.YtlgbffgilgnafaaGreatDoorCards
import Derived.Test.YtlgbffgilgnafaaGreatDoorTie
import Derived.LaidMore
import Derived.OpenShut
import Derived.Stop.Joined
import Derived.Stop.LaidErr
import Derived.SevenTiedAt
import Derived.Deep.Strs
namespace Go.Proofs.YtlgbffgilgnafaaGreatDoor
open Go.ChangeShapes Go.WideShapes Go.ChangeAt Go.WideMaps Go.WideElems Go.RowKit Go.Deep

theorem ownK : ownKnob Tryz.prog.godebug = none := by kernel_rfl
theorem laidOut : laidOutB Tryz.prog = true := by kernel_rfl
theorem list15 {α : Type} {l : List α} (h : l.length = 15) : ∃ a b c d e f g i j k m n o p q, l = [a, b, c, d, e, f, g, i, j, k, m, n, o, p, q] := by
  match l, h with
  | [a, b, c, d, e, f, g, i, j, k, m, n, o, p, q], _ => exact ⟨a, b, c, d, e, f, g, i, j, k, m, n, o, p, q, rfl⟩
section
variable {H : Type} {enc : TypeId × Value → H} {P : Program} {w : World} {n : Nat} {t e : TypeId} {c : Value} {y : DataW H × List MemPlace}
theorem op_fieldsAt {fs : Array Field} {cs : List Value} (ht : P.underlying t = some (.struct fs)) (h : TR enc P w n t cs y) :
    cs.length = P.cellsOf t ∧ ∃ n', ∀ (i : Nat) (f : Field), fs[i]? = some f → ∃ z, TR enc P w n' f.type ((cs.drop f.offset).take (P.cellsOf f.type)) z := by
  obtain ⟨ys, n', hn', hy, hlen, hyl, hf⟩ := DataW.trod_struct ht h
  refine ⟨hlen, n', fun i f hi => ?_⟩
  have hil : i < ys.length := by rw [hyl]; exact (Array.getElem?_eq_some_iff.1 hi).1
  exact ⟨ys[i], (hf i f hi).trans (List.getElem?_eq_getElem hil)⟩
theorem op_slice (ht : P.underlying t = some (.slice e)) (h : TR enc P w n t [c] y) : ∃ (A : Option Addr) (n cap : Nat), c = .slice A n cap := by
  rcases open_slice ht h with ⟨hcs, hy⟩ | ⟨a, len, cap, q, n', D, Pl, hcs, _⟩
  · exact ⟨none, 0, 0, by simpa using hcs⟩
  · exact ⟨some a, len, cap, by simpa using hcs⟩
end

theorem door_met (os : Os) (args : Array Value) : laidMetH Tryz.prog Rows.sessionNilRow.laid ((World.doorLaid Tryz.prog 400 os).forCall (fun _ _ => 0) ⟨#[], args, []⟩).memory :=
  laidMetH_of_parts3 (fuel := 8) (laidMet_of_run' 8 (by kernel_rfl) (by kernel_rfl)) (by kernel_rfl) (by kernel_rfl)

set_option maxRecDepth 100000 in
theorem nil_lifted (os : Os) (started : os.Started) (H : Type) (enc : TypeId × Value → H) :
    ReturnsInHanded {} Tryz.checked os 4 .any (fun w args => (Rows.sessionNilSpec.pre enc Tryz.prog Tryz.f4 [] false w args ∧ laidMetH Tryz.prog Rows.sessionNilRow.laid w) ∧ sizedMet enc Tryz.prog Tryz.f4 (OpenSpec.ofChange Rows.sessionNilSpec) false w args)
      (Rows.sessionNilSpec.post enc Tryz.prog Tryz.f4 false true false false) := by
  refine returnsInHanded_of_change_and (C := Tryz.checked) (X := fun w _ => laidMetH Tryz.prog Rows.sessionNilRow.laid w) (fun _ _ _ hh h => h.of_heap hh) ownK started (by kernel_rfl) Tryz.func4
    (ChangeSpec.witness_shaped (enc := enc) (C := Tryz.checked) (os := os) (X := fun w _ => laidMetH Tryz.prog Rows.sessionNilRow.laid w) false (World.doorLaid Tryz.prog 400 os) #[.agg #[.int .i64 0, .int .i64 0, .int .i64 0, .int .u32 0, .int .i64 0, .slice none 0 0, .int .u32 0, .int .i64 0, .int .i64 0, .int .i64 0, .int .i64 0, .bool false, .slice none 0 0, .slice none 0 0, .string ByteArray.empty]] 8 rfl (World.shaped_of_RefB (by kernel_rfl) (by kernel_rfl)) (by kernel_rfl) (by kernel_rfl) (by kernel_rfl) (door_met os _)) ?_
  intro W base args ds gs before hval0 hW _ _ hL _
  have hval : ∀ (j : Nat) t v, Tryz.f4.params[j]? = some t → args[j]? = some v → Value.okWide Tryz.prog W .any base t v := hval0
  have hW' := hW
  obtain ⟨p, q, hA0, hV, rfl, hfz, hnd⟩ := hW
  have hA : DataW.TrodAll enc Tryz.prog W 0 (fun _ => true) true Tryz.f4.params.toList args.toList ds p := hA0
  rw [Tryz.params4] at hA hval
  obtain ⟨v0, vs0, d0, ds0, p0, q0, hargs, rfl, rfl, h0, r0⟩ := trodAll_cons hA
  obtain ⟨rfl, rfl, rfl⟩ := trodAll_nil r0
  obtain rfl : args = #[v0] := by cases args; simp_all
  obtain ⟨rfl, rfl⟩ := trodVars_none hV
  have k0 := h0
  have lt0 : ∀ x ∈ p0, x.block < W.heap.size := by obtain ⟨m, hm⟩ := k0; exact DataW.trod_lt m _ _ _ hm
  obtain ⟨cs, rfl, hcs⟩ := okWide_struct Tryz.underlying51 (hval 0 _ _ rfl rfl)
  obtain ⟨lc⟩ := cs
  obtain ⟨m0, h0'⟩ := h0
  obtain ⟨hl, n', hf⟩ := op_fieldsAt (y := (d0, p0)) (n := m0) (cs := lc) Tryz.underlying51 (by exact h0')
  have hl15 : lc.length = 15 := hl.trans (by kernel_rfl)
  obtain ⟨c0, c1, c2, c3, c4, c5, c6, c7, c8, c9, c10, c11, c12, c13, c14, rfl⟩ := list15 hl15
  have e_int : Tryz.prog.cellsOf 3 = 1 := by kernel_rfl
  obtain ⟨z0, g0⟩ := hf 0 _ rfl
  have t0 : TR enc Tryz.prog W n' 3 [c0] z0 := by exact g0
  obtain ⟨z1, g1⟩ := hf 1 _ rfl
  have t1 : TR enc Tryz.prog W n' 3 [c1] z1 := by exact g1
  obtain ⟨z2, g2⟩ := hf 2 _ rfl
  have t2 : TR enc Tryz.prog W n' 3 [c2] z2 := by exact g2
  obtain ⟨z3, g3⟩ := hf 3 _ rfl
  have t3 : TR enc Tryz.prog W n' 44 [c3] z3 := by exact g3
  obtain ⟨z4, g4⟩ := hf 4 _ rfl
  have t4 : TR enc Tryz.prog W n' 2 [c4] z4 := by exact g4
  obtain ⟨z5, g5⟩ := hf 5 _ rfl
  have t5 : TR enc Tryz.prog W n' 45 [c5] z5 := by exact g5
  obtain ⟨zR, gR⟩ := hf 6 _ rfl
  have tR : TR enc Tryz.prog W n' 49 [c6, c7, c8, c9, c10, c11, c12, c13] zR := by exact gR
  obtain ⟨_, n'', hr⟩ := op_fieldsAt Tryz.underlying49 tR
  obtain ⟨z6, g6⟩ := hr 0 _ rfl
  have t6 : TR enc Tryz.prog W n'' 44 [c6] z6 := by exact g6
  obtain ⟨z7, g7⟩ := hr 1 _ rfl
  have t7 : TR enc Tryz.prog W n'' 3 [c7] z7 := by exact g7
  obtain ⟨z8, g8⟩ := hr 2 _ rfl
  have t8 : TR enc Tryz.prog W n'' 3 [c8] z8 := by exact g8
  obtain ⟨z9, g9⟩ := hr 3 _ rfl
  have t9 : TR enc Tryz.prog W n'' 2 [c9] z9 := by exact g9
  obtain ⟨z10, g10⟩ := hr 4 _ rfl
  have t10 : TR enc Tryz.prog W n'' 2 [c10] z10 := by exact g10
  obtain ⟨z11, g11⟩ := hr 5 _ rfl
  have t11 : TR enc Tryz.prog W n'' 4 [c11] z11 := by exact g11
  obtain ⟨z12, g12⟩ := hr 6 _ rfl
  have t12 : TR enc Tryz.prog W n'' 46 [c12] z12 := by exact g12
  obtain ⟨z13, g13⟩ := hr 7 _ rfl
  have t13 : TR enc Tryz.prog W n'' 47 [c13] z13 := by exact g13
  obtain ⟨z14, g14⟩ := hf 7 _ rfl
  have t14 : TR enc Tryz.prog W n' 9 [c14] z14 := by exact g14
  obtain ⟨x0, rfl, _⟩ := op_int Tryz.underlying3 t0
  obtain ⟨x1, rfl, _⟩ := op_int Tryz.underlying3 t1
  obtain ⟨x2, rfl, _⟩ := op_int Tryz.underlying3 t2
  obtain ⟨x3, rfl, _⟩ := op_int Tryz.underlying44 t3
  obtain ⟨x4, rfl, _⟩ := op_int Tryz.underlying2 t4
  obtain ⟨A5, n5, k5, rfl⟩ := op_slice Tryz.underlying45 t5
  obtain ⟨x6, rfl, _⟩ := op_int Tryz.underlying44 t6
  obtain ⟨x7, rfl, _⟩ := op_int Tryz.underlying3 t7
  obtain ⟨x8, rfl, _⟩ := op_int Tryz.underlying3 t8
  obtain ⟨x9, rfl, _⟩ := op_int Tryz.underlying2 t9
  obtain ⟨x10, rfl, _⟩ := op_int Tryz.underlying2 t10
  obtain ⟨x11, rfl, _⟩ := op_bool Tryz.underlying4 t11
  obtain ⟨A12, n12, k12, rfl⟩ := op_slice Tryz.underlying46 t12
  obtain ⟨A13, n13, k13, rfl⟩ := op_slice Tryz.underlying47 t13
  obtain ⟨x14, rfl, _⟩ := op_string Tryz.underlying9 t14
  clear hA0 hval0
  simp only [List.append_nil] at hW'
  refine (sessionNil_any x0 x1 x2 x3 x4 A5 n5 k5 x6 x7 x8 x9 x10 x11 A12 A13 n12 k12 n13 k13 x14 W).mono fun e W' ⟨he, hb⟩ => ?_
  subst he
  exact ⟨_, rfl, _, _, _, [], _, [], hW', trodAll_mk1 (shut_bool Tryz.underlying4 _),
    (trodAll_cons_mk (Below.trod laidOut (by kernel_rfl) (of_decide_eq_true (by kernel_rfl)) k0 hb lt0) trodAll_mk0), rfl, hb.frame _, fun h => by cases h⟩

theorem sessionNil_over : Rows.SessionNilSaid :=
  OpenClaim.holds_of_wide 4 Tryz.f4 rfl rfl rfl rfl rfl rfl rfl ⟨rfl, rfl, rfl, rfl, rfl⟩ rfl rfl rfl rfl rfl (by kernel_rfl) Tryz.func4 (by kernel_rfl)
    (of_decide_eq_true (by kernel_rfl)) (by unfold Func.isWrapper; first | (rw [if_pos (by decide +kernel)]; kernel_rfl) | (rw [if_neg (by decide +kernel)]; exact ⟨rfl, rfl⟩))
    (fun os started H enc _ => nil_lifted os started H enc)

theorem sessionNil_holds : Rows.SessionNilCardSaid :=
  Claim7.holds_tied_plain_at .later [] [.data] true (true, "d0f69da39ba6ef5550fd05965b64ffe48432ce615f9bc91f87a6496d50b28f47") true
    sessionNil_over (fun _ h => by cases h) (by kernel_rfl) (fun _ h => by cases h) sessionNil_row_tie rfl ⟨rfl, rfl⟩ (by kernel_rfl) rfl
    (fun f fn hf hfn => by
      obtain rfl : f = 4 := Option.some.inj ((show Tryz.prog.funcNamed "chronicle/chroniclelaw18.SessionNil" = some 4 by kernel_rfl).symm.trans hf) |>.symm
      obtain rfl : fn = Tryz.f4 := (Option.some.inj (Tryz.func4.symm.trans hfn)).symm
      exact ⟨by kernel_rfl, fun j t ht => by
        rw [Tryz.params4] at ht
        have hm : t ∈ [51] := by simpa using Array.mem_of_getElem? ht
        have hall : ([51].all fun u => !Tryz.prog.wantsStandIn u) = true := by kernel_rfl
        exact (show Tryz.prog.wantsStandIn t = false by simpa using List.all_eq_true.1 hall t hm)⟩)
    (by kernel_rfl)
end Go.Proofs.YtlgbffgilgnafaaGreatDoor
