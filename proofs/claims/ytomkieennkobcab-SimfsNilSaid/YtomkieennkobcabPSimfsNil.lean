/- SimfsNil: whatever the step: every call of a nil disk answers ErrNil, nothing, 0 or false, what is handed in stands, and the law returns true; no condition. -/
import Derived.Test.YtomkieennkobcabSn2
import Derived.Test.YtomkieennkobcabOpenS
import Derived.OpenShut
namespace Go.Proofs.Ytomkieennkobcab
open Go.ChangeShapes Go.WideShapes Go.ChangeAt Go.RowKit Go.Deep
open Go.ChangeMaps (open_string shut_string)

theorem ownK : ownKnob Try.prog.godebug = none := by kernel_rfl
theorem laidOut : laidOutB Try.prog = true := by kernel_rfl

set_option maxRecDepth 100000 in
theorem nil_lifted (os : Os) (started : os.Started) (H : Type) (enc : TypeId × Value → H) :
    ReturnsInHanded {} Try.checked os 3 .any (Rows.simfsNilSpec.pre6 enc Try.prog Try.f3 Rows.simfsNilRow.domain false) (Rows.simfsNilSpec.post enc Try.prog Try.f3 false true false false) := by
  refine returnsInHanded_of_change_sized (C := Try.checked) ownK started (by kernel_rfl) Try.func3
    (ChangeSpec.witness6 (enc := enc) (C := Try.checked) false ⟨#[], #[.agg #[.int .i64 0, .string ByteArray.empty, .string ByteArray.empty, .int .i64 0, .int .i64 0, .slice none 0 0, .slice none 0 0]], []⟩ 8 (by kernel_rfl) (by kernel_rfl) (by kernel_rfl) (by kernel_rfl)) ?_
  intro W base args ds gs before hval0 hW hcnd hsz _
  have hval : ∀ (j : Nat) t v, Try.f3.params[j]? = some t → args[j]? = some v → Value.okWide Try.prog W .any base t v := hval0
  have hW' := hW
  obtain ⟨p, q, hA0, hV, rfl, hfz, hnd⟩ := hW
  have hA : DataW.TrodAll enc Try.prog W 0 (fun _ => true) true Try.f3.params.toList args.toList ds p := hA0
  rw [Try.params3] at hA hval hsz
  obtain ⟨v0, vs0, d0, ds0, p0, q0, hargs, rfl, rfl, h0, r0⟩ := trodAll_cons hA
  obtain ⟨rfl, rfl, rfl⟩ := trodAll_nil r0
  obtain rfl : args = #[v0] := by cases args; simp_all
  obtain ⟨rfl, rfl⟩ := trodVars_none hV
  have k0 := h0
  have lt0 : ∀ x ∈ p0, x.block < W.heap.size := by obtain ⟨m, hm⟩ := k0; exact DataW.trod_lt m _ _ _ hm
  obtain ⟨cs, rfl, hcs⟩ := okWide_struct Try.underlying25 (hval 0 _ _ rfl rfl)
  obtain ⟨lc⟩ := cs
  obtain ⟨m0, h0'⟩ := h0
  obtain ⟨s, parts, e1, ⟨rA, _⟩, e2, _, ⟨d5, e5, b5⟩, _⟩ := op_step (y := (d0, p0)) m0 lc (by exact h0')
  obtain rfl := e1
  obtain rfl := e2
  have ha : s.bs.length * 1 ≤ 140737488351232 := by
    rcases b5 with ⟨_, h⟩ | ⟨el, sp, h1, h2⟩
    · simp [h]
    · rw [← h2]; exact weigh_field hsz (i := 0) (j := 5) rfl rfl Try.underlying25 rfl Try.underlying22 (h1 ▸ e5)
  clear hA0 hval0 hsz
  refine (simfsNil_any s.kind s.x s.y s.nm s.to s.A s.A2 s.bs.length s.c s.ps.length s.c2 s.bs W rA rfl (by omega)).mono fun e W' ⟨he, bel⟩ => ?_
  subst he
  exact ⟨_, rfl, _, _, _, [], _, [], hW', trodAll_mk1 (shut_bool Try.underlying4 _),
    (trodAll_cons_mk (Below.trod laidOut (by kernel_rfl) (of_decide_eq_true (by kernel_rfl)) k0 bel lt0) trodAll_mk0), rfl, bel.frame _, fun h => by cases h⟩

theorem nil_over : Rows.simfsNilRow.holds Try.pinned (OpenSpec.ofChange Rows.simfsNilSpec) :=
  OpenClaim.holds_of_wide 3 Try.f3 rfl rfl rfl rfl rfl rfl rfl ⟨rfl, rfl, rfl, rfl, rfl⟩ rfl rfl rfl rfl rfl (by kernel_rfl) Try.func3 (by kernel_rfl)
    (of_decide_eq_true (by kernel_rfl)) (by unfold Func.isWrapper; first | (rw [if_pos (by decide +kernel)]; kernel_rfl) | (rw [if_neg (by decide +kernel)]; exact ⟨rfl, rfl⟩))
    (fun os started H enc _ => nil_lifted os started H enc)

theorem simfsNil_holds : Rows.SimfsNilSaid := nil_over
end Go.Proofs.Ytomkieennkobcab
