import Derived.Test.YtbmbgkgjlnookaaDoorNq8
import Derived.Shelf.Small.Wraps
import Derived.Shelf.Strings.Split
import Derived.Shelf.Strings.Prefix
import Derived.Shelf.Strconv.ErrVarAll
import Derived.Lib.AtoiErrMem
/- ManifestNames: what the library's functions that Parse calls do, over plain bytes. -/
namespace Go.Proofs.YtbmbgkgjlnookaaDoor
open Go.Shelf Go.RowKit

/-- What Parse asks of the package variables of the library. -/
structure Env (w : World) : Prop where
  tab : Tab w
  ml : ∃ m, w.cell? ⟨3, 0, none⟩ = some (.int .i64 m)
  es : ∃ tp p, w.var? Tryd.prog "strconv.ErrSyntax" = some #[.iface tp p]
  er : ∃ tp p, w.var? Tryd.prog "strconv.ErrRange" = some #[.iface tp p]
theorem var_below {w w' : World} {n : String} {cs : Array Value} (h : w.var? Tryd.prog n = some cs) (hb : Below w.heap.size w w') : w'.var? Tryd.prog n = some cs := by
  unfold World.var? at h ⊢
  cases hg : Tryd.prog.globalNamed n with
  | none => rw [hg] at h; cases h
  | some g =>
    rw [hg] at h
    simp only [Option.bind_some] at h ⊢
    rw [hb.block]
    · exact h
    · refine Classical.byContradiction fun hn => ?_
      rw [Array.getElem?_eq_none (by omega)] at h
      simp at h
theorem Env.below {w w' : World} (h : Env w) (hb : Below w.heap.size w w') : Env w' := by
  refine ⟨tab_below h.tab hb, ?_, ?_, ?_⟩
  · obtain ⟨m, hm⟩ := h.ml
    refine ⟨m, ?_⟩
    have hl : 3 < w.heap.size := World.block_lt_of_cell? _ _ hm
    rw [hb.cell (p := ⟨3, 0, none⟩) hl]
    exact hm
  · obtain ⟨a, b, h1⟩ := h.es; exact ⟨a, b, var_below h1 hb⟩
  · obtain ⟨a, b, h1⟩ := h.er; exact ⟨a, b, var_below h1 hb⟩
theorem Env.heap {w w' : World} (h : Env w) (e : w'.heap = w.heap) : Env w' := by
  obtain ⟨h1, h2, h3, h4⟩ := h
  refine ⟨tab_heap h1 e, ?_, ?_, ?_⟩
  · unfold World.cell? at h2 ⊢; rw [e]; exact h2
  · unfold World.var? at h3 ⊢; rw [e]; exact h3
  · unfold World.var? at h4 ⊢; rw [e]; exact h4
theorem cut_call (s : List UInt8) (hs : s.length ≤ 1048576) (w : World) :
    Calls Tryd.prog 27 #[.string ⟨s.toArray⟩, .string ⟨#[46, 116, 109, 112]⟩] w fun e w' => e = .returned (.tuple #[.string ⟨(cutT s).1.toArray⟩, .bool (cutT s).2]) ∧ w' = w := by
  refine (Any.strings_CutSuffix lay104 ⟨s.toArray⟩ ⟨#[46, 116, 109, 112]⟩ w (by show s.toArray.size ≤ _; simp; omega)).mono ?_
  rintro e w' ⟨rfl, rfl⟩
  refine ⟨?_, rfl⟩
  have h1 : Lib.trimSuffix s tmpB = (cutT s).1 := by unfold Lib.trimSuffix cutT; split <;> rfl
  have h2 : Lib.hasSuffix s tmpB = (cutT s).2 := by unfold cutT; split <;> simp_all
  rw [← h1, ← h2]
  rfl
theorem trim_call (s : List UInt8) (w : World) :
    Calls Tryd.prog 30 #[.string ⟨s.toArray⟩, .string ⟨#[116]⟩] w fun e w' => e = .returned (.string ⟨(Lib.trimPrefix s [116]).toArray⟩) ∧ w' = w :=
  Any.strings_TrimPrefix lay101 ⟨s.toArray⟩ ⟨#[116]⟩ w
theorem split_call (s : List UInt8) (hs : s.length ≤ 1048576) (w : World) (E : Env w) :
    Calls Tryd.prog 28 #[.string ⟨s.toArray⟩, .string ⟨#[46]⟩] w fun e w' =>
      e = .returned (.slice (some ⟨w.heap.size, 0, none⟩) (spl s).length (spl s).length) ∧ w' = w.alloc (.cells ((spl s).map fun l => Value.string ⟨l.toArray⟩).toArray 9) := by
  obtain ⟨m, hm⟩ := E.ml
  refine (Any.strings_Split lay146 (by kernel_rfl) ⟨s.toArray⟩ ⟨#[46]⟩ m w (by show s.toArray.size < _; simp; omega) hm (Nat.le_refl 1)).mono ?_
  rintro e w' ⟨rfl, rfl⟩
  have hc : Lib.countB ⟨s.toArray⟩ ⟨#[46]⟩ = s.count 46 := Lib.count_one 46 s
  have hd := Lib.splitB_data ⟨#[46]⟩ 0 (s.count 46) ⟨s.toArray⟩
  have hsp : Lib.splitK [46] 0 (s.count 46) s = spl s := split_spl _ s rfl
  have hd2 : (Lib.splitB ⟨#[46]⟩ 0 (s.count 46) ⟨s.toArray⟩).map (·.data.toList) = spl s := hd.trans hsp
  have hb := Lib.splitB_all ⟨#[46]⟩ (Nat.le_refl 1) 0 _ ⟨s.toArray⟩ hc
  rw [hc]
  have hlen : s.count 46 + 1 = (spl s).length := by rw [← hd2, List.length_map, hb]
  have hval : (Lib.splitB ⟨#[46]⟩ 0 (s.count 46) ⟨s.toArray⟩).map Value.string = (spl s).map fun l => Value.string ⟨l.toArray⟩ := by
    rw [← hd2, List.map_map]
    rfl
  rw [hlen, hval]
  exact ⟨rfl, rfl⟩
theorem atoi_call (s : List UInt8) (hs : s.length ≤ 1048576) (w : World) (E : Env w) :
    Calls Tryd.prog 29 #[.string ⟨s.toArray⟩] w fun e w' => (∃ x, e = .returned (.tuple #[.int .i64 (atoiV s), x])) ∧ Below w.heap.size w w' := by
  have hz : (⟨s.toArray⟩ : ByteArray).size = s.length := by show s.toArray.size = _; simp
  rcases h : Lib.atoiAll s with v | _ | _
  · refine (Any.strconv_Atoi_ok layC172 ⟨s.toArray⟩ (by omega) v h w).mono ?_
    rintro e w' ⟨rfl, hw⟩
    refine ⟨⟨_, by unfold atoiV; rw [h]⟩, ?_⟩
    rcases hw with rfl | ⟨t, rfl⟩
    · exact Below.refl _ _
    · exact Lib.bytesWorld_below w _ t
  · obtain ⟨tp, p, hv⟩ := E.es
    refine (Any.strconv_Atoi_syntax_var layC172 ⟨s.toArray⟩ (by omega) h tp p w hv).mono ?_
    rintro e w' ⟨N, rfl, _, _, hb⟩
    exact ⟨⟨_, by unfold atoiV; rw [h]⟩, hb⟩
  · obtain ⟨tp, p, hv⟩ := E.er
    refine (Any.strconv_Atoi_range_var layC172 ⟨s.toArray⟩ (by omega) h tp p w hv).mono ?_
    rintro e w' ⟨N, rfl, _, _, hb⟩
    exact ⟨⟨_, by unfold atoiV; rw [h]⟩, hb⟩
theorem spl_len : ∀ (s : List UInt8), ∀ x ∈ spl s, x.length ≤ s.length
  | [], x, h => by simp [spl] at h; subst h; simp
  | b :: s, x, h => by
    rw [spl] at h
    split at h
    · rcases List.mem_cons.1 h with rfl | h
      · simp
      · have := spl_len s x h; simp; omega
    · cases hs : spl s with
      | nil => rw [hs] at h; simp at h; subst h; simp
      | cons y r =>
        rw [hs] at h
        simp only at h
        rcases List.mem_cons.1 h with rfl | h
        · have := spl_len s y (by rw [hs]; simp); simp; omega
        · have := spl_len s x (by rw [hs]; exact List.mem_cons_of_mem _ h); simp; omega
theorem spl_ne : ∀ (s : List UInt8), spl s ≠ []
  | [] => by simp [spl]
  | b :: s => by
    rw [spl]
    split
    · simp
    · split <;> simp
theorem cut_len (s : List UInt8) : (cutT s).1.length ≤ s.length := by
  unfold cutT
  split
  · simp
  · simp
end Go.Proofs.YtbmbgkgjlnookaaDoor
