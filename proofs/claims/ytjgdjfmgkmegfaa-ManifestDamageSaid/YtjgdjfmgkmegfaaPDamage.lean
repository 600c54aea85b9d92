/- ManifestDamage: of any manifest's bytes, cut, followed by others, or with one to four bytes turned, all ahead of the body or all in it, Decode answers as it must: the law returns true; no condition. -/
import Derived.Test.YtjgdjfmgkmegfaaDam4
import Derived.Test.YtjgdjfmgkmegfaaPChecks
import Derived.Test.YtjgdjfmgkmegfaaOpenB
import Derived.OpenShut
namespace Go.Proofs.Ytjgdjfmgkmegfaa
open Go.ChangeShapes Go.WideShapes Go.ChangeAt Go.RowKit Go.Deep

theorem weigh_arg2 {H : Type} {P : Program} {ts : List TypeId} {ds : List (DataW H)} (h : (DataW.weightsEach P ts ds).all (· ≤ reachBytes) = true) {i : Nat} {t e : TypeId} (ht : ts[i]? = some t) {el sp : List (DataW H)} (hd : ds[i]? = some (.slice el sp)) (he : P.underlying t = some (.slice e)) :
    el.length * P.bytesOf e ≤ 140737488351232 := by
  have h2 := List.all_eq_true.1 h _ (DataW.weights_mem_each ht hd ((el.length + sp.length) * P.bytesOf e) (by simp [DataW.weights, he]))
  have : el.length * P.bytesOf e ≤ (el.length + sp.length) * P.bytesOf e := Nat.mul_le_mul_right _ (by omega)
  unfold reachBytes at h2
  simp only [decide_eq_true_eq] at h2
  omega
set_option maxRecDepth 100000 in
theorem damage_lifted (os : Os) (started : os.Started) (H : Type) (enc : TypeId × Value → H) :
    ReturnsInHanded {} Try.checked os 5 .any (Rows.manifestDamageSpec.pre6 enc Try.prog Try.f5 Rows.manifestDamageRow.domain false) (Rows.manifestDamageSpec.post enc Try.prog Try.f5 false true false false) := by
  refine returnsInHanded_of_change_sized (C := Try.checked) ownK started (by kernel_rfl) Try.func5
    (ChangeSpec.witness6 (enc := enc) (C := Try.checked) false ⟨#[], #[.agg #[.int .i64 0, .int .i64 0, .int .i64 0, .int .i64 0, .int .i64 0, .slice none 0 0, .slice none 0 0], .int .i64 0, .slice none 0 0, .int .i64 0, .slice none 0 0], []⟩ 8 (by kernel_rfl) (by kernel_rfl) (by kernel_rfl) (by kernel_rfl)) ?_
  intro W base args ds gs before hval0 hW hcnd hsz _
  have hval : ∀ (j : Nat) t v, Try.f5.params[j]? = some t → args[j]? = some v → Value.okWide Try.prog W .any base t v := hval0
  have hW' := hW
  obtain ⟨p, q, hA0, hV, rfl, hfz, hnd⟩ := hW
  have hA : DataW.TrodAll enc Try.prog W 0 (fun _ => true) true Try.f5.params.toList args.toList ds p := hA0
  rw [Try.params5] at hA hval hsz
  obtain ⟨v0, vs0, d0, ds0, p0, q0, hargs, rfl, rfl, h0, r0⟩ := trodAll_cons hA
  obtain ⟨v1, vs1, d1, ds1, p1, q1, rfl, rfl, rfl, h1, r1⟩ := trodAll_cons r0
  obtain ⟨v2, vs2, d2, ds2, p2, q2, rfl, rfl, rfl, h2, r2⟩ := trodAll_cons r1
  obtain ⟨v3, vs3, d3, ds3, p3, q3, rfl, rfl, rfl, h3, r3⟩ := trodAll_cons r2
  obtain ⟨v4, vs4, d4, ds4, p4, q4, rfl, rfl, rfl, h4, r4⟩ := trodAll_cons r3
  obtain ⟨rfl, rfl, rfl⟩ := trodAll_nil r4
  obtain rfl : args = #[v0, v1, v2, v3, v4] := by cases args; simp_all
  obtain ⟨rfl, rfl⟩ := trodVars_none hV
  have k0 := h0
  have k1 := h1
  have k2 := h2
  have k3 := h3
  have k4 := h4
  have lt0 : ∀ x ∈ p0, x.block < W.heap.size := by obtain ⟨m, hm⟩ := k0; exact DataW.trod_lt m _ _ _ hm
  have lt1 : ∀ x ∈ p1, x.block < W.heap.size := by obtain ⟨m, hm⟩ := k1; exact DataW.trod_lt m _ _ _ hm
  have lt2 : ∀ x ∈ p2, x.block < W.heap.size := by obtain ⟨m, hm⟩ := k2; exact DataW.trod_lt m _ _ _ hm
  have lt3 : ∀ x ∈ p3, x.block < W.heap.size := by obtain ⟨m, hm⟩ := k3; exact DataW.trod_lt m _ _ _ hm
  have lt4 : ∀ x ∈ p4, x.block < W.heap.size := by obtain ⟨m, hm⟩ := k4; exact DataW.trod_lt m _ _ _ hm
  obtain ⟨id, ns, nx, mk, cl, A, B, c, e, segs, prods, parts, rfl, rfl, rA, rB, wA, _, _⟩ := op_man (hval 0 _ _ rfl rfl) h0
  obtain ⟨x1, rfl, rfl, rfl, w1⟩ := open_int Try.underlying3 (hval 1 3 v1 rfl rfl) h1
  obtain ⟨a0, n0, c0, rfl⟩ := okWide_slice Try.underlying40 (hval 2 _ _ rfl rfl)
  obtain ⟨fuel, h2'⟩ := h2
  obtain ⟨C, bs, cap, hv, rC, _, hd⟩ := op_bytes (c := .slice a0 n0 c0) Try.underlying40 Try.underlying5 (by kernel_rfl) h2'
  injection hv with e1 e2 e3
  subst e1 e2 e3
  obtain ⟨x3, rfl, rfl, rfl, w3⟩ := open_int Try.underlying3 (hval 3 3 v3 rfl rfl) h3
  obtain ⟨a4, n4, c4, rfl⟩ := okWide_slice Try.underlying40 (hval 4 _ _ rfl rfl)
  obtain ⟨fuel, h4'⟩ := h4
  obtain ⟨C4, bs4, cap4, hv4, rC4, _, hd4⟩ := op_bytes (c := .slice a4 n4 c4) Try.underlying40 Try.underlying5 (by kernel_rfl) h4'
  injection hv4 with e1 e2 e3
  subst e1 e2 e3
  have hc : bs.length ≤ 140737488351232 := by
    rcases hd with ⟨_, rfl⟩ | ⟨el, sp, h1, h2⟩
    · simp
    · have h1' : d2 = .slice el sp := h1
      subst h1'
      rw [← h2]; have hq := weigh_arg2 hsz (i := 2) rfl rfl Try.underlying40; have hy : Try.checked.prog.bytesOf 5 = 1 := by kernel_rfl
      rw [hy] at hq; omega
  have hc4 : bs4.length ≤ 140737488351232 := by
    rcases hd4 with ⟨_, rfl⟩ | ⟨el, sp, h1, h2⟩
    · simp
    · have h1' : d4 = .slice el sp := h1
      subst h1'
      rw [← h2]; have hq := weigh_arg2 hsz (i := 4) rfl rfl Try.underlying40; have hy : Try.checked.prog.bytesOf 5 = 1 := by kernel_rfl
      rw [hy] at hq; omega
  simp [Lit.wf, IntKind.min, IntKind.max, IntKind.signed, IntKind.bits] at w1 w3
  clear hA0 hval0 hsz
  refine (manifestDamage_any id ns nx mk cl x1 x3 A B a0 a4 c e bs.length c0 bs4.length c4 segs prods bs bs4 W rA rB rC rC4 rfl rfl hc hc4 wA (by omega) (by omega) (by omega) (by omega)).mono fun e W' ⟨he, bel⟩ => ?_
  subst he
  exact ⟨_, rfl, _, _, _, [], _, [], hW', trodAll_mk1 (shut_bool Try.underlying4 _),
    (trodAll_cons_mk (Below.trod laidOut (by kernel_rfl) (of_decide_eq_true (by kernel_rfl)) k0 bel lt0) (trodAll_cons_mk (Below.trod laidOut (by kernel_rfl) (of_decide_eq_true (by kernel_rfl)) k1 bel lt1) (trodAll_cons_mk (Below.trod laidOut (by kernel_rfl) (of_decide_eq_true (by kernel_rfl)) k2 bel lt2) (trodAll_cons_mk (Below.trod laidOut (by kernel_rfl) (of_decide_eq_true (by kernel_rfl)) k3 bel lt3) (trodAll_cons_mk (Below.trod laidOut (by kernel_rfl) (of_decide_eq_true (by kernel_rfl)) k4 bel lt4) trodAll_mk0))))), rfl, bel.frame _, fun h => by cases h⟩

theorem damage_over : Rows.manifestDamageRow.holds Try.pinned (OpenSpec.ofChange Rows.manifestDamageSpec) :=
  OpenClaim.holds_of_wide 5 Try.f5 rfl rfl rfl rfl rfl rfl rfl ⟨rfl, rfl, rfl, rfl, rfl⟩ rfl rfl rfl rfl rfl (by kernel_rfl) Try.func5 (by kernel_rfl)
    (of_decide_eq_true (by kernel_rfl)) (by unfold Func.isWrapper; first | (rw [if_pos (by decide +kernel)]; kernel_rfl) | (rw [if_neg (by decide +kernel)]; exact ⟨rfl, rfl⟩))
    (fun os started H enc _ => damage_lifted os started H enc)

theorem manifestDamage_holds : Rows.ManifestDamageSaid := damage_over
end Go.Proofs.Ytjgdjfmgkmegfaa
