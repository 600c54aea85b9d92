import Derived.Test.YtnecafhakkjbpaaPt1
/- SimfsPast: what is written down stays true; what a crash leaves is known: plain laws. -/
namespace Go.Proofs.Ytnecafhakkjbpaa
open Go.RowKit Go.Maps

abbrev VS := List (List (List UInt8))
abbrev GS := List (List Int)
def leftP (n : ByteArray) (l : List KE) : List KE := l.filter fun p => decide (¬ p.1 = n)
def leadP (n : ByteArray) (l : List KE) : Option Nat := (l.find? fun p => decide (p.1 = n)).map fun p => p.2
section
variable {fs : VS} {gs : GS} {ds : List (List KE)} {s : Dk} {N : Nat} {l : List KE}
theorem left_perm (hs : Sorted s.seen) (h : l.Perm s.seen) (n : ByteArray) : (leftP n l).Perm (delL n s.seen) := by
  have hn : l.Nodup := h.nodup_iff.2 hs.nodup
  refine (List.perm_ext_iff_of_nodup (hn.filter _) (hs.del n).nodup).2 fun x => ?_
  rw [List.mem_filter, mem_del, h.mem_iff]
  simp
theorem lead_is (hs : Sorted s.seen) (h : l.Perm s.seen) (n : ByteArray) : leadP n l = getL n s.seen := by
  unfold leadP
  cases hf : l.find? fun p => decide (p.1 = n) with
  | none =>
    symm
    show getL n s.seen = none
    refine get_none.2 fun x hx e => ?_
    have := List.find?_eq_none.1 hf x (h.mem_iff.2 hx)
    simp [e] at this
  | some p =>
    symm
    have h1 := List.find?_some hf
    have h2 := h.mem_iff.1 (List.mem_of_find?_eq_some hf)
    simp at h1
    refine (get_mem hs).2 ?_
    rw [← h1]
    exact h2
theorem dirAt_old {s' : Dk} {c : DC} (h1 : s'.safe = s.safe) (h2 : s'.dchs = s.dchs ++ [c]) {i : Nat} (hi : i ≤ s.dchs.length) : dirAt s' i = dirAt s i := by
  unfold dirAt
  rw [h1, h2, List.take_append_of_le_length hi]
theorem dirAt_new {s' : Dk} {c : DC} (h1 : s'.safe = s.safe) (h2 : s'.dchs = s.dchs ++ [c]) : dirAt s' (s.dchs.length + 1) = ddo s.seen c := by
  unfold dirAt
  rw [h1, h2, List.take_of_length_le (by simp), List.foldl_append]
  rfl
/-- The directory turns. -/
theorem PR.dir (h : PR fs gs ds s) {s' : Dk} {c : DC} {m : List KE} {fs' : VS} {gs' : GS} (h1 : s'.safe = s.safe) (h2 : s'.dchs = s.dchs ++ [c]) (hf : fs' = s'.files.map vers) (hg : gs' = s'.files.map grow) (hm : m.Perm (ddo s.seen c)) : PR fs' gs' (ds ++ [m]) s' := by
  refine ⟨hf, hg, by rw [List.length_append, h.len, h2, List.length_append]; rfl, fun i l hl => ?_⟩
  rcases Nat.lt_trichotomy i ds.length with hi | hi | hi
  · rw [List.getElem?_append_left hi] at hl
    rw [dirAt_old h1 h2 (by rw [h.len] at hi; omega)]
    exact h.hd i l hl
  · subst hi
    rw [List.getElem?_append_right (Nat.le_refl _), Nat.sub_self] at hl
    simp at hl
    subst hl
    rw [h.len, dirAt_new h1 h2]
    exact hm
  · rw [List.getElem?_eq_none (by simp; omega)] at hl
    cases hl
theorem map_setF {α : Type} (g : Fl → α) (k : Nat) (x : Fl) : (s.setF k x).files.map g = (s.files.map g).set k (g x) := by
  show (s.files.set k x).map g = _
  rw [List.map_set]
/-- A file turns. -/
theorem PR.file (h : PR fs gs ds s) {s' : Dk} {k : Nat} {x : Fl} (h1 : s'.safe = s.safe) (h2 : s'.dchs = s.dchs) (hf : s'.files = s.files.set k x) : PR (fs.set k (vers x)) (gs.set k (grow x)) ds s' := by
  refine ⟨by rw [h.hf, hf, List.map_set], by rw [h.hg, hf, List.map_set], by rw [h2]; exact h.len, fun i l hl => ?_⟩
  have : dirAt s' i = dirAt s i := by unfold dirAt; rw [h1, h2]
  rw [this]
  exact h.hd i l hl
/-- Does the image show the directory l, each file with bytes that it had? -/
def Fits (fs : VS) (gs : GS) (l : List KE) (image : List (ByteArray × List UInt8)) : Prop :=
  l.length = image.length ∧ (∀ (i : Nat) (p : ByteArray × List UInt8), image[i]? = some p → ∃ f vs g, leadP p.1 l = some f ∧ fs[f]? = some vs ∧ gs[f]? = some g ∧ Was vs g p.2) ∧ image.Pairwise fun a b => kc a.1 b.1 = -1
theorem lead_at {d : List KE} (hs : Sorted d) (h : l.Perm d) {p : KE} (hp : p ∈ d) : leadP p.1 l = some p.2 := by
  have := lead_is (s := ⟨[], d, [], 0, 0, 0, false, 0⟩) (l := l) hs h p.1
  rw [this]
  exact (get_mem hs).2 hp
theorem pr_get (h : PR fs gs ds s) {k : Nat} (hk : k < s.files.length) : fs[k]? = some (vers (s.fl k)) ∧ gs[k]? = some (grow (s.fl k)) := by
  have hx : s.files[k]? = some (s.fl k) := fl_get hk
  rw [h.hf, h.hg, List.getElem?_map, List.getElem?_map, hx]
  exact ⟨rfl, rfl⟩
theorem crash_known (h : PR fs gs ds s) (hi : s.Inv N) (ps : List Int) : ∃ (k : Nat) (l : List KE), ds[k]? = some l ∧ Fits fs gs l (crashL s ps) := by
  obtain ⟨e, hle⟩ := left_at s ps
  generalize modn (pickV ps) (s.dchs.length + 1) = k at e hle
  obtain ⟨l, hl⟩ : ∃ l, ds[k]? = some l := ⟨_, List.getElem?_eq_getElem (by rw [h.len]; omega)⟩
  have hp := h.hd k l hl
  have hsd : Sorted (dirAt s k) := Sorted.fold hi.ok.sorted
  have hid : ∀ p ∈ dirAt s k, p.2 < s.files.length := ids_fold hi.ids (fun m f hf => hi.dids m f (List.mem_of_mem_take hf)) hi.ok.sorted (okD_take _ hi.ok.okd)
  refine ⟨k, l, hl, ?_, fun i p hpi => ?_, ?_⟩
  · unfold crashL
    rw [tornAll_len, e, hp.length_eq]
  · unfold crashL at hpi
    rw [e] at hpi
    have hil : i < (dirAt s k).length := by have := (List.getElem?_eq_some_iff.1 hpi).1; rwa [tornAll_len] at this
    obtain ⟨b, g1, g2⟩ := tornAll_was s (dirAt s k) ps.tail i _ (List.getElem?_eq_getElem hil)
    rw [g1] at hpi
    injection hpi with hpi
    subst hpi
    have hm := List.getElem_mem hil
    obtain ⟨v1, v2⟩ := pr_get h (hid _ hm)
    exact ⟨_, _, _, lead_at hsd hp hm, v1, v2, g2⟩
  · unfold crashL
    rw [e, List.pairwise_iff_getElem]
    intro i j hi' hj' hij
    have hil : i < (dirAt s k).length := by rwa [tornAll_len] at hi'
    have hjl : j < (dirAt s k).length := by rwa [tornAll_len] at hj'
    obtain ⟨b, g1, _⟩ := tornAll_was s (dirAt s k) ps.tail i _ (List.getElem?_eq_getElem hil)
    obtain ⟨c, g2, _⟩ := tornAll_was s (dirAt s k) ps.tail j _ (List.getElem?_eq_getElem hjl)
    rw [List.getElem?_eq_getElem hi'] at g1
    rw [List.getElem?_eq_getElem hj'] at g2
    injection g1 with g1
    injection g2 with g2
    rw [g1, g2]
    exact List.pairwise_iff_getElem.1 hsd i j hil hjl hij
theorem image_known (h : PR fs gs ds s) (hi : s.Inv N) : ∃ (k : Nat) (l : List KE), ds[k]? = some l ∧ Fits fs gs l (imageL s) := by
  obtain ⟨l, hl⟩ : ∃ l, ds[s.dchs.length]? = some l := ⟨_, List.getElem?_eq_getElem (by rw [h.len]; omega)⟩
  have hp := h.hd _ l hl
  rw [dirAt_last] at hp
  refine ⟨_, l, hl, ?_, fun i p hpi => ?_, ?_⟩
  · unfold imageL
    rw [List.length_map, hp.length_eq]
  · obtain ⟨q, hq, rfl⟩ := List.mem_map.1 (List.mem_of_getElem? hpi)
    obtain ⟨v1, v2⟩ := pr_get h (hi.seen_ids q hq)
    exact ⟨_, _, _, lead_at hi.sorted hp hq, v1, v2, seen_was _⟩
  · unfold imageL
    rw [List.pairwise_map]
    exact hi.sorted
end
end Go.Proofs.Ytnecafhakkjbpaa
