/- ManifestCatalogues: the bytes of any catalogue, the catalogue of any bytes, or the refusals: the law returns true; no condition. -/
import Derived.Test.YtjgdjfmgkmegfaaCat1
import Derived.Test.YtjgdjfmgkmegfaaPChecks
import Derived.Test.YtjgdjfmgkmegfaaOpenB
import Derived.OpenShut
namespace Go.Proofs.Ytjgdjfmgkmegfaa
open Go.ChangeShapes Go.WideShapes Go.ChangeAt Go.RowKit Go.Deep

theorem weigh_arg {H : Type} {P : Program} {ts : List TypeId} {ds : List (DataW H)} (h : (DataW.weightsEach P ts ds).all (· ≤ reachBytes) = true) {i : Nat} {t e : TypeId} (ht : ts[i]? = some t) {el sp : List (DataW H)} (hd : ds[i]? = some (.slice el sp)) (he : P.underlying t = some (.slice e)) :
    el.length * P.bytesOf e ≤ 140737488351232 := by
  have h2 := List.all_eq_true.1 h _ (DataW.weights_mem_each ht hd ((el.length + sp.length) * P.bytesOf e) (by simp [DataW.weights, he]))
  have : el.length * P.bytesOf e ≤ (el.length + sp.length) * P.bytesOf e := Nat.mul_le_mul_right _ (by omega)
  unfold reachBytes at h2
  simp only [decide_eq_true_eq] at h2
  omega
set_option maxRecDepth 100000 in
theorem cats_lifted (os : Os) (started : os.Started) (H : Type) (enc : TypeId × Value → H) :
    ReturnsInHanded {} Try.checked os 6 .any (Rows.manifestCataloguesSpec.pre6 enc Try.prog Try.f6 Rows.manifestCataloguesRow.domain false) (Rows.manifestCataloguesSpec.post enc Try.prog Try.f6 false true false false) := by
  refine returnsInHanded_of_change_sized (C := Try.checked) ownK started (by kernel_rfl) Try.func6
    (ChangeSpec.witness6 (enc := enc) (C := Try.checked) false ⟨#[], #[.agg #[.int .i64 0, .slice none 0 0], .slice none 0 0], []⟩ 8 (by kernel_rfl) (by kernel_rfl) (by kernel_rfl) (by kernel_rfl)) ?_
  intro W base args ds gs before hval0 hW hcnd hsz _
  have hval : ∀ (j : Nat) t v, Try.f6.params[j]? = some t → args[j]? = some v → Value.okWide Try.prog W .any base t v := hval0
  have hW' := hW
  obtain ⟨p, q, hA0, hV, rfl, hfz, hnd⟩ := hW
  have hA : DataW.TrodAll enc Try.prog W 0 (fun _ => true) true Try.f6.params.toList args.toList ds p := hA0
  rw [Try.params6] at hA hval hsz
  obtain ⟨v0, vs0, d0, ds0, p0, q0, hargs, rfl, rfl, h0, r0⟩ := trodAll_cons hA
  obtain ⟨v1, vs1, d1, ds1, p1, q1, rfl, rfl, rfl, h1, r1⟩ := trodAll_cons r0
  obtain ⟨rfl, rfl, rfl⟩ := trodAll_nil r1
  obtain rfl : args = #[v0, v1] := by cases args; simp_all
  obtain ⟨rfl, rfl⟩ := trodVars_none hV
  have k0 := h0
  have k1 := h1
  have lt0 : ∀ x ∈ p0, x.block < W.heap.size := by obtain ⟨m, hm⟩ := k0; exact DataW.trod_lt m _ _ _ hm
  have lt1 : ∀ x ∈ p1, x.block < W.heap.size := by obtain ⟨m, hm⟩ := k1; exact DataW.trod_lt m _ _ _ hm
  obtain ⟨nid, C, f, l, partc, rfl, rfl, rC, wC, bC⟩ := op_cat (hval 0 _ _ rfl rfl) h0
  obtain ⟨a0, n0, c0, rfl⟩ := okWide_slice Try.underlying40 (hval 1 _ _ rfl rfl)
  obtain ⟨fuel, h1'⟩ := h1
  obtain ⟨D, bs, cap, hv, rD, hcap, hd⟩ := op_bytes (c := .slice a0 n0 c0) Try.underlying40 Try.underlying5 (by kernel_rfl) h1'
  injection hv with e1 e2 e3
  subst e1 e2 e3
  have ha : l.length * 40 ≤ 140737488351232 := by
    rcases bC with rfl | ⟨el, sp, h1, h2⟩
    · simp
    · rw [← h2]; exact weigh_field hsz (i := 0) (j := 1) rfl rfl Try.underlying28 rfl Try.underlying26 h1
  have hc : bs.length ≤ 140737488351232 := by
    rcases hd with ⟨_, rfl⟩ | ⟨el, sp, h1, h2⟩
    · simp
    · have h1' : d1 = .slice el sp := h1
      subst h1'
      rw [← h2]; have hq := weigh_arg hsz (i := 1) rfl rfl Try.underlying40; have hy : Try.checked.prog.bytesOf 5 = 1 := by kernel_rfl
      rw [hy] at hq; omega
  clear hA0 hval0 hsz
  refine (manifestCatalogues_any nid C a0 f bs.length c0 l bs W rC rD ha rfl hcap hc wC).mono fun e W' ⟨he, bel⟩ => ?_
  subst he
  exact ⟨_, rfl, _, _, _, [], _, [], hW', trodAll_mk1 (shut_bool Try.underlying4 _),
    (trodAll_cons_mk (Below.trod laidOut (by kernel_rfl) (of_decide_eq_true (by kernel_rfl)) k0 bel lt0) (trodAll_cons_mk (Below.trod laidOut (by kernel_rfl) (of_decide_eq_true (by kernel_rfl)) k1 bel lt1) trodAll_mk0)), rfl, bel.frame _, fun h => by cases h⟩

theorem cats_over : Rows.manifestCataloguesRow.holds Try.pinned (OpenSpec.ofChange Rows.manifestCataloguesSpec) :=
  OpenClaim.holds_of_wide 6 Try.f6 rfl rfl rfl rfl rfl rfl rfl ⟨rfl, rfl, rfl, rfl, rfl⟩ rfl rfl rfl rfl rfl (by kernel_rfl) Try.func6 (by kernel_rfl)
    (of_decide_eq_true (by kernel_rfl)) (by unfold Func.isWrapper; first | (rw [if_pos (by decide +kernel)]; kernel_rfl) | (rw [if_neg (by decide +kernel)]; exact ⟨rfl, rfl⟩))
    (fun os started H enc _ => cats_lifted os started H enc)

theorem manifestCatalogues_holds : Rows.ManifestCataloguesSaid := cats_over
end Go.Proofs.Ytjgdjfmgkmegfaa
