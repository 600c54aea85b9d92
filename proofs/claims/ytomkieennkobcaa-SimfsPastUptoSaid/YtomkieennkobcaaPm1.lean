import Derived.Test.YtomkieennkobcaaSf1
import Derived.Test.YtomkieennkobcaaSa1
/- SimfsPast: what was, as plain lists: the moments of a file, of the directory. -/
namespace Go.Proofs.Ytomkieennkobcaa
open Go.RowKit Go.Maps

/-- A file's bytes at every moment since its last Sync. -/
def vers (x : Fl) : List (List UInt8) := (List.range (x.chs.length + 1)).map fun i => (x.chs.take i).foldl fdo x.safe
def growC : FC → Int
  | .inl b => (b.length : Int)
  | .inr _ => -1
/-- By how much an append made it longer. -/
def grow (x : Fl) : List Int := -1 :: x.chs.map growC
theorem vers_get (x : Fl) {j : Nat} (h : j ≤ x.chs.length) : (vers x)[j]? = some ((x.chs.take j).foldl fdo x.safe) := by
  unfold vers
  rw [List.getElem?_map, List.getElem?_range (by omega)]
  rfl
theorem vers_len (x : Fl) : (vers x).length = x.chs.length + 1 := by simp [vers]
theorem vers_snoc (x : Fl) (c : FC) : vers ⟨x.safe, x.chs ++ [c]⟩ = vers x ++ [fdo x.seen c] := by
  refine List.ext_getElem? fun i => ?_
  rcases Nat.lt_trichotomy i (x.chs.length + 1) with h | h | h
  · rw [List.getElem?_append_left (by rw [vers_len]; exact h), vers_get _ (show i ≤ (x.chs ++ [c]).length by rw [List.length_append, List.length_singleton]; omega), vers_get _ (by omega)]
    show some (((x.chs ++ [c]).take i).foldl fdo x.safe) = _
    rw [List.take_append_of_le_length (by omega)]
  · subst h
    rw [List.getElem?_append_right (by rw [vers_len]; exact Nat.le_refl _), vers_len, Nat.sub_self, vers_get _ (show x.chs.length + 1 ≤ (x.chs ++ [c]).length by simp)]
    show some (((x.chs ++ [c]).take (x.chs.length + 1)).foldl fdo x.safe) = some (fdo x.seen c)
    rw [List.take_of_length_le (by simp), List.foldl_append]
    rfl
  · rw [List.getElem?_eq_none (by rw [vers_len]; simp; omega), List.getElem?_eq_none (by rw [List.length_append, vers_len]; simp; omega)]
theorem grow_snoc (x : Fl) (c : FC) : grow ⟨x.safe, x.chs ++ [c]⟩ = grow x ++ [growC c] := by simp [grow]
theorem vers_sync (b : List UInt8) : vers ⟨b, []⟩ = [b] ∧ grow ⟨b, []⟩ = [-1] := ⟨rfl, rfl⟩
theorem vers_last (x : Fl) : (vers x)[(vers x).length - 1]? = some x.seen := by
  rw [vers_len, Nat.add_sub_cancel, vers_get x (Nat.le_refl _), List.take_length]
  rfl
theorem grow_get (x : Fl) {j : Nat} {c : FC} (h : x.chs[j]? = some c) : (grow x)[j + 1]? = some (growC c) := by
  show (x.chs.map growC)[j]? = _
  rw [List.getElem?_map, h]
  rfl
/-- Were these the bytes, perhaps with first bytes of the next append? -/
def WasAt (vs : List (List UInt8)) (gs : List Int) (b : List UInt8) (j : Nat) : Prop := ∃ x, vs[j]? = some x ∧ (x = b ∨ ∃ y g, vs[j + 1]? = some y ∧ gs[j + 1]? = some g ∧ 0 ≤ g ∧ x.length < b.length ∧ b.length ≤ y.length ∧ y.take b.length = b)
def Was (vs : List (List UInt8)) (gs : List Int) (b : List UInt8) : Prop := ∃ j, WasAt vs gs b j
theorem seen_was (x : Fl) : Was (vers x) (grow x) x.seen := ⟨_, _, vers_last x, .inl rfl⟩
theorem torn_was (x : Fl) (ps : List Int) : Was (vers x) (grow x) (tornS x ps).1 := by
  have hj : modn (pickV ps) (x.chs.length + 1) ≤ x.chs.length := by have := modn_lt (pickV ps) (show 0 < x.chs.length + 1 by omega); omega
  unfold tornS
  generalize modn (pickV ps) (x.chs.length + 1) = j at hj
  refine ⟨j, (x.chs.take j).foldl fdo x.safe, vers_get x hj, ?_⟩
  cases hc : x.chs[j]? with
  | none => exact .inl rfl
  | some c =>
    cases c with
    | inr n => exact .inl rfl
    | inl b =>
      obtain ⟨hl, _⟩ := List.getElem?_eq_some_iff.1 hc
      suffices H : ∀ t : Nat, ((x.chs.take j).foldl fdo x.safe = (x.chs.take j).foldl fdo x.safe ++ b.take t ∨ ∃ y g, (vers x)[j + 1]? = some y ∧ (grow x)[j + 1]? = some g ∧ 0 ≤ g ∧ ((x.chs.take j).foldl fdo x.safe).length < ((x.chs.take j).foldl fdo x.safe ++ b.take t).length ∧ ((x.chs.take j).foldl fdo x.safe ++ b.take t).length ≤ y.length ∧ y.take ((x.chs.take j).foldl fdo x.safe ++ b.take t).length = (x.chs.take j).foldl fdo x.safe ++ b.take t) from H _
      intro t
      by_cases h0 : b.take t = []
      · left; rw [h0, List.append_nil]
      · right
        have hlen : 0 < (b.take t).length := List.length_pos_iff.2 h0
        have hle : (b.take t).length ≤ b.length := by rw [List.length_take]; omega
        have hv : (vers x)[j + 1]? = some ((x.chs.take j).foldl fdo x.safe ++ b) := by
          rw [vers_get x (by omega), List.take_add_one, hc, List.foldl_append]
          rfl
        refine ⟨_, _, hv, grow_get x hc, by simp [growC], by rw [List.length_append]; omega, by rw [List.length_append, List.length_append]; omega, ?_⟩
        show ((x.chs.take j).foldl fdo x.safe ++ b).take ((x.chs.take j).foldl fdo x.safe ++ b.take t).length = _
        rw [List.length_append, List.take_length_add_append]
        congr 1
        rw [List.length_take]
        rcases Nat.le_total t b.length with h | h
        · rw [Nat.min_eq_left h]
        · rw [Nat.min_eq_right h, List.take_of_length_le h, List.take_length]
/-- The directory at every moment since the last SyncDir. -/
def dirAt (s : Dk) (i : Nat) : List KE := (s.dchs.take i).foldl ddo s.safe
theorem dirAt_last (s : Dk) : dirAt s s.dchs.length = s.seen := by unfold dirAt; rw [List.take_length]; rfl
theorem left_at (s : Dk) (ps : List Int) : leftL s ps = dirAt s (modn (pickV ps) (s.dchs.length + 1)) ∧ modn (pickV ps) (s.dchs.length + 1) ≤ s.dchs.length := by
  have := modn_lt (pickV ps) (show 0 < s.dchs.length + 1 by omega)
  exact ⟨rfl, by omega⟩
theorem tornAll_was (s : Dk) : ∀ (l : List KE) (ps : List Int) (i : Nat) (p : KE), l[i]? = some p → ∃ b, (tornAll s l ps).1[i]? = some (p.1, b) ∧ Was (vers (s.fl p.2)) (grow (s.fl p.2)) b
  | [], _, i, p, h => by simp at h
  | q :: r, ps, 0, p, h => by
    simp at h
    subst h
    exact ⟨_, rfl, torn_was (s.fl q.2) ps⟩
  | q :: r, ps, i + 1, p, h => by
    obtain ⟨b, h1, h2⟩ := tornAll_was s r (tornS (s.fl q.2) ps).2 i p (by simpa using h)
    exact ⟨b, h1, h2⟩
/-- What a statement keeps of a script, beside the disk. -/
structure PR (fs : List (List (List UInt8))) (gs : List (List Int)) (ds : List (List KE)) (s : Dk) : Prop where
  hf : fs = s.files.map vers
  hg : gs = s.files.map grow
  len : ds.length = s.dchs.length + 1
  hd : ∀ (i : Nat) (l : List KE), ds[i]? = some l → l.Perm (dirAt s i)
theorem PR.last {fs : List (List (List UInt8))} {gs : List (List Int)} {ds : List (List KE)} {s : Dk} (h : PR fs gs ds s) {l : List KE} (hl : ds[ds.length - 1]? = some l) : l.Perm s.seen := by
  have := h.hd _ l hl
  rw [h.len, Nat.add_sub_cancel, dirAt_last] at this
  exact this
end Go.Proofs.Ytomkieennkobcaa
/- SimfsPast: what is written down stays true; what a crash leaves is known: plain laws. -/
namespace Go.Proofs.Ytomkieennkobcaa
open Go.RowKit Go.Maps

abbrev VS := List (List (List UInt8))
abbrev GS := List (List Int)
def leftP (n : ByteArray) (l : List KE) : List KE := l.filter fun p => decide (¬ p.1 = n)
def leadP (n : ByteArray) (l : List KE) : Option Nat := (l.find? fun p => decide (p.1 = n)).map fun p => p.2
section
variable {fs : VS} {gs : GS} {ds : List (List KE)} {s : Dk} {N : Nat} {l : List KE}
theorem left_perm (hs : Sorted s.seen) (h : l.Perm s.seen) (n : ByteArray) : (leftP n l).Perm (delL n s.seen) := by
  have hn : l.Nodup := h.nodup_iff.2 hs.nodup
  refine (List.perm_ext_iff_of_nodup (hn.filter _) (hs.del n).nodup).2 fun x => ?_
  rw [List.mem_filter, mem_del, h.mem_iff]
  simp
theorem lead_is (hs : Sorted s.seen) (h : l.Perm s.seen) (n : ByteArray) : leadP n l = getL n s.seen := by
  unfold leadP
  cases hf : l.find? fun p => decide (p.1 = n) with
  | none =>
    symm
    show getL n s.seen = none
    refine get_none.2 fun x hx e => ?_
    have := List.find?_eq_none.1 hf x (h.mem_iff.2 hx)
    simp [e] at this
  | some p =>
    symm
    have h1 := List.find?_some hf
    have h2 := h.mem_iff.1 (List.mem_of_find?_eq_some hf)
    simp at h1
    refine (get_mem hs).2 ?_
    rw [← h1]
    exact h2
theorem dirAt_old {s' : Dk} {c : DC} (h1 : s'.safe = s.safe) (h2 : s'.dchs = s.dchs ++ [c]) {i : Nat} (hi : i ≤ s.dchs.length) : dirAt s' i = dirAt s i := by
  unfold dirAt
  rw [h1, h2, List.take_append_of_le_length hi]
theorem dirAt_new {s' : Dk} {c : DC} (h1 : s'.safe = s.safe) (h2 : s'.dchs = s.dchs ++ [c]) : dirAt s' (s.dchs.length + 1) = ddo s.seen c := by
  unfold dirAt
  rw [h1, h2, List.take_of_length_le (by simp), List.foldl_append]
  rfl
/-- The directory turns. -/
theorem PR.dir (h : PR fs gs ds s) {s' : Dk} {c : DC} {m : List KE} {fs' : VS} {gs' : GS} (h1 : s'.safe = s.safe) (h2 : s'.dchs = s.dchs ++ [c]) (hf : fs' = s'.files.map vers) (hg : gs' = s'.files.map grow) (hm : m.Perm (ddo s.seen c)) : PR fs' gs' (ds ++ [m]) s' := by
  refine ⟨hf, hg, by rw [List.length_append, h.len, h2, List.length_append]; rfl, fun i l hl => ?_⟩
  rcases Nat.lt_trichotomy i ds.length with hi | hi | hi
  · rw [List.getElem?_append_left hi] at hl
    rw [dirAt_old h1 h2 (by rw [h.len] at hi; omega)]
    exact h.hd i l hl
  · subst hi
    rw [List.getElem?_append_right (Nat.le_refl _), Nat.sub_self] at hl
    simp at hl
    subst hl
    rw [h.len, dirAt_new h1 h2]
    exact hm
  · rw [List.getElem?_eq_none (by simp; omega)] at hl
    cases hl
theorem map_setF {α : Type} (g : Fl → α) (k : Nat) (x : Fl) : (s.setF k x).files.map g = (s.files.map g).set k (g x) := by
  show (s.files.set k x).map g = _
  rw [List.map_set]
/-- A file turns. -/
theorem PR.file (h : PR fs gs ds s) {s' : Dk} {k : Nat} {x : Fl} (h1 : s'.safe = s.safe) (h2 : s'.dchs = s.dchs) (hf : s'.files = s.files.set k x) : PR (fs.set k (vers x)) (gs.set k (grow x)) ds s' := by
  refine ⟨by rw [h.hf, hf, List.map_set], by rw [h.hg, hf, List.map_set], by rw [h2]; exact h.len, fun i l hl => ?_⟩
  have : dirAt s' i = dirAt s i := by unfold dirAt; rw [h1, h2]
  rw [this]
  exact h.hd i l hl
/-- Does the image show the directory l, each file with bytes that it had? -/
def Fits (fs : VS) (gs : GS) (l : List KE) (image : List (ByteArray × List UInt8)) : Prop :=
  l.length = image.length ∧ (∀ (i : Nat) (p : ByteArray × List UInt8), image[i]? = some p → ∃ f vs g, leadP p.1 l = some f ∧ fs[f]? = some vs ∧ gs[f]? = some g ∧ Was vs g p.2) ∧ image.Pairwise fun a b => kc a.1 b.1 = -1
theorem lead_at {d : List KE} (hs : Sorted d) (h : l.Perm d) {p : KE} (hp : p ∈ d) : leadP p.1 l = some p.2 := by
  have := lead_is (s := ⟨[], d, [], 0, 0, 0, false, 0⟩) (l := l) hs h p.1
  rw [this]
  exact (get_mem hs).2 hp
theorem pr_get (h : PR fs gs ds s) {k : Nat} (hk : k < s.files.length) : fs[k]? = some (vers (s.fl k)) ∧ gs[k]? = some (grow (s.fl k)) := by
  have hx : s.files[k]? = some (s.fl k) := fl_get hk
  rw [h.hf, h.hg, List.getElem?_map, List.getElem?_map, hx]
  exact ⟨rfl, rfl⟩
theorem crash_known (h : PR fs gs ds s) (hi : s.Inv N) (ps : List Int) : ∃ (k : Nat) (l : List KE), ds[k]? = some l ∧ Fits fs gs l (crashL s ps) := by
  obtain ⟨e, hle⟩ := left_at s ps
  generalize modn (pickV ps) (s.dchs.length + 1) = k at e hle
  obtain ⟨l, hl⟩ : ∃ l, ds[k]? = some l := ⟨_, List.getElem?_eq_getElem (by rw [h.len]; omega)⟩
  have hp := h.hd k l hl
  have hsd : Sorted (dirAt s k) := Sorted.fold hi.ok.sorted
  have hid : ∀ p ∈ dirAt s k, p.2 < s.files.length := ids_fold hi.ids (fun m f hf => hi.dids m f (List.mem_of_mem_take hf)) hi.ok.sorted (okD_take _ hi.ok.okd)
  refine ⟨k, l, hl, ?_, fun i p hpi => ?_, ?_⟩
  · unfold crashL
    rw [tornAll_len, e, hp.length_eq]
  · unfold crashL at hpi
    rw [e] at hpi
    have hil : i < (dirAt s k).length := by have := (List.getElem?_eq_some_iff.1 hpi).1; rwa [tornAll_len] at this
    obtain ⟨b, g1, g2⟩ := tornAll_was s (dirAt s k) ps.tail i _ (List.getElem?_eq_getElem hil)
    rw [g1] at hpi
    injection hpi with hpi
    subst hpi
    have hm := List.getElem_mem hil
    obtain ⟨v1, v2⟩ := pr_get h (hid _ hm)
    exact ⟨_, _, _, lead_at hsd hp hm, v1, v2, g2⟩
  · unfold crashL
    rw [e, List.pairwise_iff_getElem]
    intro i j hi' hj' hij
    have hil : i < (dirAt s k).length := by rwa [tornAll_len] at hi'
    have hjl : j < (dirAt s k).length := by rwa [tornAll_len] at hj'
    obtain ⟨b, g1, _⟩ := tornAll_was s (dirAt s k) ps.tail i _ (List.getElem?_eq_getElem hil)
    obtain ⟨c, g2, _⟩ := tornAll_was s (dirAt s k) ps.tail j _ (List.getElem?_eq_getElem hjl)
    rw [List.getElem?_eq_getElem hi'] at g1
    rw [List.getElem?_eq_getElem hj'] at g2
    injection g1 with g1
    injection g2 with g2
    rw [g1, g2]
    exact List.pairwise_iff_getElem.1 hsd i j hil hjl hij
theorem image_known (h : PR fs gs ds s) (hi : s.Inv N) : ∃ (k : Nat) (l : List KE), ds[k]? = some l ∧ Fits fs gs l (imageL s) := by
  obtain ⟨l, hl⟩ : ∃ l, ds[s.dchs.length]? = some l := ⟨_, List.getElem?_eq_getElem (by rw [h.len]; omega)⟩
  have hp := h.hd _ l hl
  rw [dirAt_last] at hp
  refine ⟨_, l, hl, ?_, fun i p hpi => ?_, ?_⟩
  · unfold imageL
    rw [List.length_map, hp.length_eq]
  · obtain ⟨q, hq, rfl⟩ := List.mem_map.1 (List.mem_of_getElem? hpi)
    obtain ⟨v1, v2⟩ := pr_get h (hi.seen_ids q hq)
    exact ⟨_, _, _, lead_at hi.sorted hp hq, v1, v2, seen_was _⟩
  · unfold imageL
    rw [List.pairwise_map]
    exact hi.sorted
end
end Go.Proofs.Ytomkieennkobcaa
/- SimfsPast: each change that is answered OK, written down: plain laws. -/
namespace Go.Proofs.Ytomkieennkobcaa
open Go.RowKit Go.Maps

section
variable {fs : VS} {gs : GS} {ds : List (List KE)} {s : Dk} {N : Nat} {l : List KE} {st : SC}
theorem ok_act (hl : s.Lives) (h : chE st s = 0) : perr st s = 0 ∧ chS st s = actS st s := by
  rw [chE_form] at h
  by_cases h0 : perr st s = 0
  · have h0' : ¬ perr st s ≠ 0 := fun e => e h0
    exact ⟨h0, by rw [chS_form, if_neg h0', if_neg (sp_lives hl).2.2]⟩
  · rw [if_pos h0] at h
    exact absurd h h0
/-- The kinds that lead to a file. -/
theorem ok_at (hl : s.Lives) (h : chE st s = 0) (h1 : st.kind ≠ 1) (h5 : st.kind ≠ 5) : atE st.nm s = 0 := by
  have h0 := (ok_act hl h).1
  unfold perr at h0
  rw [if_neg h1] at h0
  by_cases a : atE st.nm s = 0
  · exact a
  · exfalso
    by_cases h2 : st.kind = 2
    · simp [h2, a] at h0
    · by_cases h3 : st.kind = 3
      · simp [h3, a] at h0
      · by_cases h4 : st.kind = 4
        · simp [h4, a] at h0
        · by_cases h6 : st.kind = 6
          · have d := hl.2
            by_cases b : goodN st.nm = false ∨ goodN st.to = false
            · simp [h6, d, b] at h0
            · by_cases c : st.nm = st.to
              · simp [h6, d, c] at h0
                split at h0 <;> cases h0
              · simp [h6, d, b, c, a] at h0
          · simp [h2, h3, h4, h5, h6, a] at h0
theorem ok_lead (hi : s.Inv N) (hp : l.Perm s.seen) (h : atE st.nm s = 0) : leadP st.nm l = some (s.num st.nm) ∧ s.num st.nm < s.files.length ∧ getL st.nm s.seen = some (s.num st.nm) := by
  obtain ⟨_, _, k, hg⟩ := atE_zero.1 h
  rw [getL_num hg]
  exact ⟨by rw [lead_is hi.sorted hp, hg], hi.seen_ids _ ((get_mem hi.sorted).1 hg), hg⟩
theorem note_1 (h : PR fs gs ds s) (hi : s.Inv N) (hl : s.Lives) (hp : l.Perm s.seen) (hE : chE st s = 0) (h1 : st.kind = 1) :
    leadP st.nm l = none ∧ PR (fs ++ [[[]]]) (gs ++ [[-1]]) (ds ++ [leftP ByteArray.empty l ++ [(st.nm, fs.length)]]) (chS st s) := by
  obtain ⟨h0, hS⟩ := ok_act hl hE
  have hat : atE st.nm s = 31 := by
    unfold perr at h0
    rw [if_pos h1] at h0
    by_cases a : atE st.nm s = 0
    · simp [a] at h0
    · by_cases b : atE st.nm s = 31
      · exact b
      · simp [a, b] at h0
  have hg : getL st.nm s.seen = none := by
    unfold atE at hat
    by_cases a : goodN st.nm = false
    · simp [hl.2, a] at hat
    · by_cases b : getL st.nm s.seen = none
      · exact b
      · simp [hl.2, a, b] at hat
  refine ⟨by rw [lead_is hi.sorted hp, hg], ?_⟩
  have hfl : fs.length = s.files.length := by rw [h.hf, List.length_map]
  have hA : actS st s = { s with ops := s.ops + 1, files := s.files ++ [Fl.new], dchs := s.dchs ++ [.inl (st.nm, s.files.length)] } := by
    unfold actS
    rw [if_pos h1, spend_live hl]
  rw [hS]
  refine h.dir (c := .inl (st.nm, s.files.length)) (by rw [hA]) (by rw [hA]) (by rw [hA, h.hf]; simp only [List.map_append, List.map_cons, List.map_nil]; rfl) (by rw [hA, h.hg]; simp only [List.map_append, List.map_cons, List.map_nil]; rfl) ?_
  rw [hfl]
  have he : leftP ByteArray.empty l = l := by
    unfold leftP
    refine List.filter_eq_self.2 fun p hpl => ?_
    have := hi.seen_names p (hp.mem_iff.1 hpl)
    refine decide_eq_true fun e => ?_
    rw [e] at this
    exact absurd this (by decide)
  rw [he]
  show (l ++ [(st.nm, s.files.length)]).Perm (putL st.nm s.files.length s.seen)
  have h2 := put_perm (k := st.nm) (e := s.files.length) hi.sorted
  rw [del_same' hi.sorted hg] at h2
  exact (List.perm_append_singleton _ _).trans ((hp.cons _).trans h2.symm)
/-- What a file's turn needs. -/
theorem note_f (h : PR fs gs ds s) (hi : s.Inv N) (hl : s.Lives) (hp : l.Perm s.seen) (hE : chE st s = 0) (h1 : st.kind ≠ 1) (h5 : st.kind ≠ 5) :
    leadP st.nm l = some (s.num st.nm) ∧ fs[s.num st.nm]? = some (vers (s.fl (s.num st.nm))) ∧ gs[s.num st.nm]? = some (grow (s.fl (s.num st.nm))) := by
  obtain ⟨g1, g2, _⟩ := ok_lead hi hp (ok_at hl hE h1 h5)
  exact ⟨g1, pr_get h g2⟩
theorem note_2 (h : PR fs gs ds s) (hl : s.Lives) (hE : chE st s = 0) (h2 : st.kind = 2) :
    PR (fs.set (s.num st.nm) (vers (s.fl (s.num st.nm)) ++ [(s.fl (s.num st.nm)).seen ++ st.bs])) (gs.set (s.num st.nm) (grow (s.fl (s.num st.nm)) ++ [(st.bs.length : Int)])) ds (chS st s) := by
  obtain ⟨_, hS⟩ := ok_act hl hE
  have hA : actS st s = { s with ops := s.ops + 1, files := s.files.set (s.num st.nm) ⟨(s.fl (s.num st.nm)).safe, (s.fl (s.num st.nm)).chs ++ [.inl st.bs]⟩, used := s.used + st.bs.length } := by
    unfold actS
    rw [if_neg (by omega), if_pos h2, spend_live hl]
    rfl
  have e := h.file (s' := actS st s) (k := s.num st.nm) (x := ⟨(s.fl (s.num st.nm)).safe, (s.fl (s.num st.nm)).chs ++ [.inl st.bs]⟩) (by rw [hA]) (by rw [hA]) (by rw [hA])
  rw [vers_snoc (s.fl (s.num st.nm)) (.inl st.bs), grow_snoc (s.fl (s.num st.nm)) (.inl st.bs)] at e
  rw [hS]
  exact e
theorem note_3 (h : PR fs gs ds s) (hl : s.Lives) (hE : chE st s = 0) (h3 : st.kind = 3) :
    (0 ≤ st.y ∧ st.y ≤ (s.fl (s.num st.nm)).seen.length) ∧ PR (fs.set (s.num st.nm) (vers (s.fl (s.num st.nm)) ++ [(s.fl (s.num st.nm)).seen.take st.y.toNat])) (gs.set (s.num st.nm) (grow (s.fl (s.num st.nm)) ++ [-1])) ds (chS st s) := by
  obtain ⟨h0, hS⟩ := ok_act hl hE
  have hat := ok_at hl hE (by omega) (by omega)
  have hA : actS st s = { s with ops := s.ops + 1, files := s.files.set (s.num st.nm) ⟨(s.fl (s.num st.nm)).safe, (s.fl (s.num st.nm)).chs ++ [.inr st.y.toNat]⟩, used := s.used - ((s.fl (s.num st.nm)).seen.length - st.y) } := by
    unfold actS
    rw [if_neg (by omega), if_neg (by omega), if_pos h3, spend_live hl]
    rfl
  refine ⟨?_, ?_⟩
  · unfold perr at h0
    rw [if_neg (by omega), if_neg (by omega), if_pos h3, if_neg (fun e => e hat)] at h0
    by_cases a : st.y < 0 ∨ ((s.fl (s.num st.nm)).seen.length : Int) < st.y
    · rw [if_pos a] at h0; cases h0
    · omega
  · have e := h.file (s' := actS st s) (k := s.num st.nm) (x := ⟨(s.fl (s.num st.nm)).safe, (s.fl (s.num st.nm)).chs ++ [.inr st.y.toNat]⟩) (by rw [hA]) (by rw [hA]) (by rw [hA])
    rw [vers_snoc (s.fl (s.num st.nm)) (.inr st.y.toNat), grow_snoc (s.fl (s.num st.nm)) (.inr st.y.toNat)] at e
    rw [hS]
    exact e
theorem note_4 (h : PR fs gs ds s) (hl : s.Lives) (hE : chE st s = 0) (h4 : st.kind = 4) :
    PR (fs.set (s.num st.nm) [(s.fl (s.num st.nm)).seen]) (gs.set (s.num st.nm) [-1]) ds (chS st s) := by
  obtain ⟨_, hS⟩ := ok_act hl hE
  have hA : actS st s = { s with ops := s.ops + 1, files := s.files.set (s.num st.nm) ⟨(s.fl (s.num st.nm)).seen, []⟩ } := by
    unfold actS
    rw [if_neg (by omega), if_neg (by omega), if_neg (by omega), if_pos h4, spend_live hl]
    rfl
  rw [hS]
  exact h.file (x := ⟨(s.fl (s.num st.nm)).seen, []⟩) (by rw [hA]) (by rw [hA]) (by rw [hA])
theorem note_5 (h : PR fs gs ds s) (hl : s.Lives) (hp : l.Perm s.seen) (hE : chE st s = 0) (h5 : st.kind = 5) : PR fs gs [l] (chS st s) := by
  obtain ⟨_, hS⟩ := ok_act hl hE
  have hA : actS st s = { s with ops := s.ops + 1, safe := s.seen, dchs := [] } := by
    unfold actS
    rw [if_neg (by omega), if_neg (by omega), if_neg (by omega), if_neg (by omega), if_pos h5, spend_live hl]
  rw [hS, hA]
  refine ⟨h.hf, h.hg, rfl, fun i m hm => ?_⟩
  cases i with
  | zero =>
    simp at hm
    subst hm
    exact hp
  | succ i => simp at hm
theorem note_6 (h : PR fs gs ds s) (hi : s.Inv N) (hl : s.Lives) (hp : l.Perm s.seen) (hE : chE st s = 0) (h6 : st.kind = 6) :
    PR fs gs (ds ++ [leftP st.to (leftP st.nm l) ++ [(st.to, s.num st.nm)]]) (chS st s) := by
  obtain ⟨h0, hS⟩ := ok_act hl hE
  have hat := ok_at hl hE (by omega) (by omega)
  obtain ⟨_, _, hg⟩ := ok_lead hi hp hat
  have hne : st.nm ≠ st.to := fun e => by
    unfold perr at h0
    rw [if_neg (by omega), if_neg (by omega), if_neg (by omega), if_neg (by omega), if_neg (by omega), if_pos h6, if_neg (by rw [hl.2]; decide)] at h0
    by_cases b : goodN st.nm = false ∨ goodN st.to = false
    · rw [if_pos b] at h0; cases h0
    · rw [if_neg b, if_pos e] at h0; cases h0
  have hA : actS st s = { s with ops := s.ops + 1, dchs := s.dchs ++ [.inr (.inl (st.nm, st.to))], used := s.used - lenOf s st.to } := by
    unfold actS
    rw [if_neg (by omega), if_neg (by omega), if_neg (by omega), if_neg (by omega), if_neg (by omega), if_pos h6, spend_live hl]
  rw [hS]
  refine h.dir (c := .inr (.inl (st.nm, st.to))) (by rw [hA]) (by rw [hA]) (by rw [hA]; exact h.hf) (by rw [hA]; exact h.hg) ?_
  show (leftP st.to (leftP st.nm l) ++ [(st.to, s.num st.nm)]).Perm (delL st.nm (putL st.to ((getL st.nm s.seen).getD 0) s.seen))
  rw [hg]
  have h1 := left_perm hi.sorted hp st.nm
  have h2 : (leftP st.to (leftP st.nm l)).Perm (delL st.to (delL st.nm s.seen)) :=
    left_perm (s := ⟨[], delL st.nm s.seen, [], 0, 0, 0, false, 0⟩) (hi.sorted.del st.nm) h1 st.to
  exact (List.perm_append_singleton _ _).trans ((h2.cons _).trans (ren_perm hi.sorted hne).symm)
theorem note_7 (h : PR fs gs ds s) (hi : s.Inv N) (hl : s.Lives) (hp : l.Perm s.seen) (hE : chE st s = 0) (h7 : st.kind = 7) :
    PR fs gs (ds ++ [leftP st.nm l]) (chS st s) := by
  obtain ⟨_, hS⟩ := ok_act hl hE
  have hA : actS st s = { s with ops := s.ops + 1, dchs := s.dchs ++ [.inr (.inr st.nm)], used := s.used - lenOf s st.nm } := by
    unfold actS
    rw [if_neg (by omega), if_neg (by omega), if_neg (by omega), if_neg (by omega), if_neg (by omega), if_neg (by omega), spend_live hl]
  rw [hS]
  exact h.dir (c := .inr (.inr st.nm)) (by rw [hA]) (by rw [hA]) (by rw [hA]; exact h.hf) (by rw [hA]; exact h.hg) (left_perm hi.sorted hp st.nm)
end
end Go.Proofs.Ytomkieennkobcaa
/- SimfsPast: lead: the file to which a name leads now. -/
namespace Go.Proofs.Ytomkieennkobcaa
open Go.RowKit Go.Maps

/-- A row of names that is read. -/
def RdN (w : World) (B : Nat) (A : Option Addr) (l : List KE) : Prop := ∀ (i : Nat) (p : KE), l[i]? = some p → ∃ ad : Addr, A = some ad ∧ ad.block < B ∧ w.cell? (ad.add (i * 2)) = some (.string p.1) ∧ w.cell? ⟨(ad.add (i * 2)).block, (ad.add (i * 2)).off + 1, none⟩ = some (.int .i64 (p.2 : Nat))
/-- A row of directories that is read. -/
def RdD (w : World) (B : Nat) (A : Option Addr) (ds : List (List KE)) : Prop := ∀ (i : Nat) (l : List KE), ds[i]? = some l → ∃ (ad : Addr) (x : Option Addr) (c : Nat), A = some ad ∧ ad.block < B ∧ w.cell? (ad.add i) = some (.slice x l.length c) ∧ RdN w B x l
def leadV (n : ByteArray) (l : List KE) : Int := match leadP n l with
  | some f => (f : Nat)
  | none => -1
theorem lead_take {n : ByteArray} {l : List KE} {k : Nat} {p : KE} (hp : l[k]? = some p) (hpre : ∀ q ∈ l.take k, q.1 ≠ n) (h : p.1 = n) : leadV n l = (p.2 : Nat) := by
  have hk : k < l.length := (List.getElem?_eq_some_iff.1 hp).1
  have e : l = l.take k ++ p :: l.drop (k + 1) := by
    have h1 := List.take_append_drop k l
    rw [List.drop_eq_getElem_cons hk] at h1
    have h2 : l[k] = p := by rw [List.getElem?_eq_getElem hk] at hp; injection hp
    rw [h2] at h1
    exact h1.symm
  unfold leadV leadP
  rw [e, List.find?_append]
  have hn : (l.take k).find? (fun p => decide (p.1 = n)) = none := List.find?_eq_none.2 fun q hq => by simpa using hpre q hq
  rw [hn]
  simp [h]
theorem lead_none {n : ByteArray} {l : List KE} (hpre : ∀ q ∈ l, q.1 ≠ n) : leadV n l = -1 := by
  unfold leadV leadP
  have hn : l.find? (fun p => decide (p.1 = n)) = none := List.find?_eq_none.2 fun q hq => by simpa using hpre q hq
  rw [hn]
  rfl
set_option maxRecDepth 100000 in
set_option maxHeartbeats 4000000 in
theorem lead_any (pp : Nat) (D : Option Addr) (n c : Nat) (ds : List (List KE)) (l : List KE) (nm : ByteArray) (w : World) (hc : w.cell? ⟨pp, 2, none⟩ = some (.slice D n c)) (hD : RdD w w.heap.size D ds) (hl : ds[n - 1]? = some l) (hn0 : 0 < n) (hmx : n ≤ 999999999999) (hlm : l.length ≤ 999999999999) :
    Calls Try.prog 58 #[.pointer (some ⟨pp, 0, none⟩), .string nm] w fun e w' => e = .returned (.int .i64 (leadV nm l)) ∧ ∃ k, w' = w.drewN k := by
  obtain ⟨i, hi⟩ : ∃ i, n = i + 1 := ⟨n - 1, by omega⟩
  obtain ⟨ad, x, cx, rfl, had, c0, hN⟩ := hD (n - 1) l hl
  obtain ⟨m, hm⟩ : ∃ m, l.length = m := ⟨_, rfl⟩
  rw [hm] at c0 hlm
  have hni : n - 1 = i := by omega
  rw [hni] at c0
  have HN := Lib.hid (And.intro hN hm)
  have HI := Lib.hid hi
  clear hN hm hD hl hni had hi
  go_enter Try.func58, Try.ntmps58
  go_wp2
  have hii : (n : Int) - 1 = (i : Int) := by have := HI.out; omega
  have hwr : IntKind.i64.wrap ((n : Int) - 1) = (i : Int) := by rw [hii]; exact IntWalk.i64_in _ (by have := HI.out; omega)
  have hwi : IntKind.i64.wrap (i : Int) = (i : Int) := IntWalk.i64_in _ (by have := HI.out; omega)
  have hi0 : (0 : Int) ≤ i := by omega
  have hi1 : (i : Int) < n := by have := HI.out; omega
  have hi2 : i < n := by have := HI.out; omega
  go_quiet (fail)
  generalize hw1 : w.drewN _ = w1
  have HW := Lib.hid hw1
  have hN1 : RdN w1 w.heap.size x l := fun j p hp => by rw [← hw1]; exact HN.out.1 j p hp
  have HN1 := Lib.hid hN1
  clear hii hwr hwi hi0 hi1 hi2 hN1 hw1
  go_wp2
  go_loopw [6] (fun v6 wr => ∃ k : Nat, k ≤ m ∧ v6 = .int .i64 k ∧ wr = w1 ∧ ∀ q ∈ l.take k, q.1 ≠ nm) (fun v6 _ => m - (intOf v6).toNat)
  case atStart => exact ⟨0, Nat.zero_le _, rfl, rfl, fun q hq => by simp at hq⟩
  case round =>
    obtain ⟨k, hk, rfl, hwr, hpre⟩ := hrel
    subst hwr
    by_cases hlt : k < m
    · have hk0 : (0 : Int) ≤ k := by omega
      have hk1 : (k : Int) < m := by omega
      have hkl : k < l.length := by rw [HN.out.2]; exact hlt
      obtain ⟨p, hp⟩ : ∃ p, l[k]? = some p := ⟨_, List.getElem?_eq_getElem hkl⟩
      obtain ⟨a2, rfl, _, d0, d1⟩ := HN1.out k p hp
      have HP := Lib.hid (And.intro hp hpre)
      clear hp hpre hkl
      by_cases hx : p.1 = nm
      · have HX := Lib.hid hx
        have hself : (p.1.toList == nm.toList) = true := by rw [hx]; simp
        clear hx
        go_wp2
        go_ret
        exact ⟨by rw [lead_take HP.out.1 HP.out.2 HX.out]; rfl, _, HW.out.symm⟩
      · have hne := key_ne hx
        have HX := Lib.hid hx
        clear hx
        go_wp2
        go_roundw
        case rel =>
          refine ⟨k + 1, by omega, by go_num, trivial, fun q hq => ?_⟩
          rw [List.take_add_one, HP.out.1] at hq
          rcases List.mem_append.1 hq with h | h
          · exact HP.out.2 q h
          · simp at h
            subst h
            exact HX.out
        case measure => simp [intOf]; omega
    · have hkm : m = k := by omega
      subst hkm
      have HP := Lib.hid (show ∀ q ∈ l, q.1 ≠ nm by rw [← HN.out.2, List.take_length] at hpre; exact hpre)
      clear hpre
      go_wp2
      go_ret
      exact ⟨by rw [lead_none HP.out]; rfl, _, HW.out.symm⟩
def ncell (p : KE) : List Value := [.string p.1, .int .i64 (p.2 : Nat)]
theorem info_name : (Try.prog.info? 113).map (fun i => (i.zero, i.size, i.bytes)) = some (some (.agg #[.string ByteArray.empty, .int .i64 0]), 2, 24) := by kernel_rfl
theorem leftP_take {n : ByteArray} {l : List KE} {k : Nat} {p : KE} (hp : l[k]? = some p) : leftP n (l.take (k + 1)) = if p.1 = n then leftP n (l.take k) else leftP n (l.take k) ++ [p] := by
  unfold leftP
  rw [List.take_add_one, hp, Option.toList_some, List.filter_append]
  by_cases h : p.1 = n
  · rw [if_pos h]; simp [h]
  · rw [if_neg h]; simp [h]
theorem leftP_len (n : ByteArray) (l : List KE) (k : Nat) : (leftP n (l.take k)).length ≤ k := by
  unfold leftP
  refine Nat.le_trans (List.length_filter_le _ _) ?_
  rw [List.length_take]
  omega
theorem RdN.below {w w' : World} {B : Nat} {A : Option Addr} {l : List KE} (h : RdN w B A l) (hb : Below B w w') : RdN w' B A l := by
  intro i p hp
  obtain ⟨ad, h1, h2, h3, h4⟩ := h i p hp
  exact ⟨ad, h1, h2, by rw [hb.cell (by rw [add_block]; exact h2)]; exact h3, by rw [hb.cell (by show (ad.add (i * 2)).block < B; rw [add_block]; exact h2)]; exact h4⟩
set_option maxRecDepth 100000 in
set_option maxHeartbeats 4000000 in
theorem left_any (pp : Nat) (D : Option Addr) (n c : Nat) (ds : List (List KE)) (l : List KE) (nm : ByteArray) (w : World) (hc : w.cell? ⟨pp, 2, none⟩ = some (.slice D n c)) (hD : RdD w w.heap.size D ds) (hl : ds[n - 1]? = some l) (hn0 : 0 < n) (hmx : n ≤ 999999999999) (hlm : l.length ≤ 999999999999) :
    Calls Try.prog 59 #[.pointer (some ⟨pp, 0, none⟩), .string nm] w fun e w' => ∃ b cap, e = .returned (.slice b (leftP nm l).length cap) ∧ w'.ownsRow w.heap.size 113 2 (.slice b (leftP nm l).length cap) (leftP nm l).length ((leftP nm l).flatMap ncell) ∧ Below w.heap.size w w' := by
  obtain ⟨i1, hi1', hz1, hs1, hy1⟩ := info_parts info_name
  obtain ⟨i, hi⟩ : ∃ i, n = i + 1 := ⟨n - 1, by omega⟩
  obtain ⟨ad, x, cx, rfl, had, c0, hN⟩ := hD (n - 1) l hl
  obtain ⟨m, hm⟩ : ∃ m, l.length = m := ⟨_, rfl⟩
  rw [hm] at c0 hlm
  have hni : n - 1 = i := by omega
  rw [hni] at c0
  have HN := Lib.hid (And.intro hN hm)
  have HI := Lib.hid hi
  clear hN hm hD hl hni had hi
  go_enter Try.func59, Try.ntmps59
  go_wp2
  have hii : (n : Int) - 1 = (i : Int) := by have := HI.out; omega
  have hwr : IntKind.i64.wrap ((n : Int) - 1) = (i : Int) := by rw [hii]; exact IntWalk.i64_in _ (by have := HI.out; omega)
  have hwi : IntKind.i64.wrap (i : Int) = (i : Int) := IntWalk.i64_in _ (by have := HI.out; omega)
  have hi0 : (0 : Int) ≤ i := by omega
  have hi1 : (i : Int) < n := by have := HI.out; omega
  have hi2 : i < n := by have := HI.out; omega
  go_quiet (fail)
  generalize hw1 : w.drewN _ = w1
  have hb1 : Below w.heap.size w w1 := by rw [← hw1]; exact below_drewN (Below.refl _ _) _
  have HW := Lib.hid hb1
  clear hii hwr hwi hi0 hi1 hi2 hw1 hb1
  go_wp2
  go_loopw [6, 7] (fun v6 v7 wr => ∃ k : Nat, k ≤ m ∧ v7 = .int .i64 k ∧ wr.ownsRow w.heap.size 113 2 v6 (leftP nm (l.take k)).length ((leftP nm (l.take k)).flatMap ncell) ∧ Below w.heap.size w wr) (fun _ v7 _ => m - (intOf v7).toNat)
  case atStart => exact ⟨0, Nat.zero_le _, rfl, nil_own _ _ _ _, HW.out⟩
  case round =>
    obtain ⟨k, hk, rfl, hr, hb⟩ := hrel
    obtain ⟨rb, rc, rfl⟩ := row_slice hr
    have hkl2 := leftP_len nm l k
    obtain ⟨g, hg⟩ : ∃ g, (leftP nm (l.take k)).length = g := ⟨_, rfl⟩
    rw [hg] at hr hkl2 ⊢
    by_cases hlt : k < m
    · have hk0 : (0 : Int) ≤ k := by omega
      have hk1 : (k : Int) < m := by omega
      have hkl : k < l.length := by rw [HN.out.2]; exact hlt
      obtain ⟨p, hp⟩ : ∃ p, l[k]? = some p := ⟨_, List.getElem?_eq_getElem hkl⟩
      obtain ⟨a2, rfl, _, d0, d1⟩ := (HN.out.1.below hb) k p hp
      have HR := Lib.hid (And.intro hr (And.intro hb (And.intro hg (leftP_take (n := nm) hp))))
      clear hp hkl hr hb hg
      by_cases hx : p.1 = nm
      · have hself : (p.1.toList == nm.toList) = true := by rw [hx]; simp
        have HX := Lib.hid hx
        clear hx
        go_wp2
        go_roundw
        case rel =>
          refine ⟨k + 1, by omega, by go_num, ?_, HR.out.2.1⟩
          rw [HR.out.2.2.2, if_pos HX.out, HR.out.2.2.1]
          exact HR.out.1
        case measure => simp [intOf]; omega
      · have hne := key_ne hx
        have HX := Lib.hid hx
        clear hx
        go_wp2_with (first
          | (at_builtin
             refine wpList_app _ rfl (.tmp 33) (.tmp 38) _ rfl w.heap.size 113 i1 _ 2 24 Try.underlying108 hi1' hz1 hs1 hy1 rfl (by omega) (.slice rb g rc) g _ rfl (HR.out.1.alloc _) _ _ 1 1 [.string p.1, .int .i64 (p.2 : Nat)] rfl rfl (rd_new _ _ _) (by simp [Value.oneCell']) (by unfold maxLen; omega) (by omega) (by have := HR.out.2.1.size; simp <;> omega) ?_
             intro v' w8 hown hg8 _
             have hb8 := (HR.out.2.1.alloc HR.out.2.1.size (.cells #[.string p.1, .int .i64 (p.2 : Nat)] 113)).grown hg8 (by have := HR.out.2.1.size; simp <;> omega) (fun j e => (HR.out.1.lt j e).1)
             have H8 := Lib.hid (And.intro hown hb8)
             clear hown hg8 hb8))
        go_roundw
        case rel =>
          refine ⟨k + 1, by omega, by go_num, ?_, H8.out.2⟩
          rw [HR.out.2.2.2, if_neg HX.out, List.length_append, HR.out.2.2.1, List.flatMap_append]
          exact H8.out.1
        case measure => simp [intOf]; omega
    · have hkm : m = k := by omega
      subst hkm
      have hlk : l.take m = l := by rw [← HN.out.2]; exact List.take_length
      rw [hlk] at hr hg
      have HR := Lib.hid (And.intro hr (And.intro hb hg))
      clear hr hb hg hlk
      go_wp2
      go_ret
      rw [HR.out.2.2]
      exact ⟨_, _, rfl, HR.out.1, HR.out.2.1⟩
end Go.Proofs.Ytomkieennkobcaa
/- SimfsPast: was: were these the file's bytes at some moment? -/
namespace Go.Proofs.Ytomkieennkobcaa
open Go.RowKit Go.Maps

/-- Versions that are read. -/
def RdV (w : World) (B : Nat) (A : Option Addr) (vs : List (List UInt8)) : Prop := ∀ (i : Nat) (b : List UInt8), vs[i]? = some b → ∃ (ad : Addr) (x : Option Addr) (c : Nat), A = some ad ∧ ad.block < B ∧ w.cell? (ad.add i) = some (.slice x b.length c) ∧ Rd w B x (bv b) ∧ b.length ≤ c
open Classical in
/-- Were these the bytes? -/
noncomputable def wasB (vs : List (List UInt8)) (gs : List Int) (b : List UInt8) : Bool := decide (Was vs gs b)
theorem wasB_yes {vs : List (List UInt8)} {gs : List Int} {b : List UInt8} (h : Was vs gs b) : wasB vs gs b = true := by unfold wasB; simp [h]
theorem wasB_no {vs : List (List UInt8)} {gs : List Int} {b : List UInt8} (h : ¬ Was vs gs b) : wasB vs gs b = false := by unfold wasB; simp [h]
theorem wasB_was {vs : List (List UInt8)} {gs : List Int} {b : List UInt8} (h : wasB vs gs b = true) : Was vs gs b := by unfold wasB at h; simpa using h
theorem not_was {vs : List (List UInt8)} {gs : List Int} {b : List UInt8} (h : ∀ j, j < vs.length → ¬ WasAt vs gs b j) : ¬ Was vs gs b := fun ⟨j, x, hx, hr⟩ => h j (List.getElem?_eq_some_iff.1 hx).1 ⟨x, hx, hr⟩
theorem add_suc (a : Addr) (j : Nat) : a.add (j + 1) = ⟨a.block, a.off + (j + 1), none⟩ := by
  unfold Addr.add
  split <;> simp_all
theorem not_at {vs : List (List UInt8)} {gs : List Int} {b x y : List UInt8} {g : Int} {j : Nat} (hx : vs[j]? = some x) (hy : vs[j + 1]? = some y) (hg : gs[j + 1]? = some g) (hxb : ¬ x = b) (h : ¬ (0 ≤ g ∧ x.length < b.length ∧ b.length ≤ y.length ∧ y.take b.length = b)) : ¬ WasAt vs gs b j := by
  rintro ⟨x', hx', hr⟩
  rw [hx] at hx'
  injection hx' with hx'
  subst hx'
  rcases hr with hr | ⟨y', g', hy', hg', h1, h2, h3, h4⟩
  · exact hxb hr
  · rw [hy] at hy'
    rw [hg] at hg'
    injection hy' with hy'
    injection hg' with hg'
    subst hy' hg'
    exact h ⟨h1, h2, h3, h4⟩
set_option maxRecDepth 100000 in
set_option maxHeartbeats 16000000 in
theorem was_any (pp f : Nat) (n c n' c' : Nat) (fa ga : Addr) (VA GA : Option Addr) (m cv mg cg : Nat) (vs : List (List UInt8)) (gs : List Int) (A : Option Addr) (nb cb : Nat) (b : List UInt8) (w : World)
    (hF : w.cell? ⟨pp, 0, none⟩ = some (.slice (some fa) n c)) (hG : w.cell? ⟨pp, 1, none⟩ = some (.slice (some ga) n' c')) (hf1 : f < n) (hf2 : f < n') (hV : w.cell? (fa.add f) = some (.slice VA m cv)) (hGr : w.cell? (ga.add f) = some (.slice GA mg cg))
    (hvs : vs.length = m) (hgs : gs.length = mg) (hmg : mg = m) (hRV : RdV w w.heap.size VA vs) (hRG : Rd w w.heap.size GA (gs.map (Value.int .i64))) (hb : b.length = nb) (hRb : Rd w w.heap.size A (bv b)) (hm9 : m ≤ 999999999999) (hnb : nb ≤ 140737488351232) (hvb : ∀ x ∈ vs, x.length ≤ 140737488351232) :
    Calls Try.prog 62 #[.pointer (some ⟨pp, 0, none⟩), .int .i64 f, .slice A nb cb] w fun e w' => e = .returned (.bool (wasB vs gs b)) ∧ ∃ k, w' = w.drewN k := by
  subst hmg
  have hf0 : (0 : Int) ≤ f := by omega
  have hf1' : (f : Int) < n := by omega
  have hf2' : (f : Int) < n' := by omega
  have H := Lib.hid (And.intro hvs (And.intro hgs (And.intro hRV (And.intro hRG (And.intro hb (And.intro hRb hvb))))))
  have HC := Lib.hid (And.intro hF (And.intro hG (And.intro hV hGr)))
  clear hvs hgs hRV hRG hb hRb hvb
  go_enter Try.func62, Try.ntmps62
  go_wp2
  go_loopw [7] (fun v7 wr => ∃ (j q : Nat), j ≤ mg ∧ v7 = .int .i64 j ∧ wr = w.drewN q ∧ ∀ i, i < j → ¬ WasAt vs gs b i) (fun v7 _ => mg - (intOf v7).toNat)
  case atStart => exact ⟨0, 0, Nat.zero_le _, rfl, rfl, fun i hi => by omega⟩
  case round =>
    obtain ⟨j, q, hj, rfl, hw, hpre⟩ := hrel
    have cF : wr.cell? ⟨pp, 0, none⟩ = some (.slice (some fa) n c) := by rw [hw]; exact HC.out.1
    have cG : wr.cell? ⟨pp, 1, none⟩ = some (.slice (some ga) n' c') := by rw [hw]; exact HC.out.2.1
    have cV : wr.cell? (fa.add f) = some (.slice VA mg cv) := by rw [hw]; exact HC.out.2.2.1
    have cGr : wr.cell? (ga.add f) = some (.slice GA mg cg) := by rw [hw]; exact HC.out.2.2.2
    have HW := Lib.hid (And.intro hw hpre)
    clear hw hpre
    by_cases hlt : j < mg
    · have hj0 : (0 : Int) ≤ j := by omega
      have hj1 : (j : Int) < mg := by omega
      obtain ⟨x, hx⟩ : ∃ x, vs[j]? = some x := ⟨_, List.getElem?_eq_getElem (by rw [H.out.1]; exact hlt)⟩
      obtain ⟨va, xa, xc, rfl, _, cx, rx, _⟩ := H.out.2.2.1 j x hx
      have cx' : wr.cell? (va.add j) = some (.slice xa x.length xc) := by rw [HW.out.1]; exact cx
      obtain ⟨lx, hlx⟩ : ∃ lx, x.length = lx := ⟨_, rfl⟩
      have hlx9 : lx ≤ 140737488351232 := by rw [← hlx]; exact H.out.2.2.2.2.2.2 x (List.mem_of_getElem? hx)
      rw [hlx] at cx'
      have HX := Lib.hid (And.intro hx (And.intro (show Rd wr wr.heap.size xa (bv x) by rw [HW.out.1]; exact rx) hlx))
      have HRb := Lib.hid (show Rd wr wr.heap.size A (bv b) by rw [HW.out.1]; exact H.out.2.2.2.2.2.1)
      clear hx rx cx hlx
      by_cases hxb : x = b
      · have HD := Lib.hid (show decide (x = b) = true from decide_eq_true hxb)
        clear hxb
        go_wp2_with (first
          | (go_at_call 16
             have z0 := HRb
             clear z0
             refine (sameBytes_any xa A lx xc nb cb x b _ HX.out.2.2 H.out.2.2.2.2.1 HX.out.2.1 HRb.out (by omega) (by omega)).mono ?_
             rintro e ws ⟨rfl, k2, hws⟩
             rw [HD.out]
             have cF2 : ws.cell? ⟨pp, 0, none⟩ = some (.slice (some fa) n c) := by rw [hws]; exact cF
             have cG2 : ws.cell? ⟨pp, 1, none⟩ = some (.slice (some ga) n' c') := by rw [hws]; exact cG
             have cV2 : ws.cell? (fa.add f) = some (.slice (some va) mg cv) := by rw [hws]; exact cV
             have cGr2 : ws.cell? (ga.add f) = some (.slice GA mg cg) := by rw [hws]; exact cGr
             have HWs := Lib.hid (show (∃ q, ws = w.drewN q) ∧ Rd ws ws.heap.size A (bv b) from ⟨⟨_, by rw [hws, HW.out.1]; first | rfl | exact World.drewN_drewN ..⟩, by rw [hws]; exact HRb.out⟩)
             clear HRb hws cF cG cV cGr cx'))
        go_ret
        obtain ⟨q2, hq2⟩ := HWs.out.1
        exact ⟨by rw [wasB_yes ⟨j, x, HX.out.1, .inl (of_decide_eq_true HD.out)⟩]; rfl, q2, hq2⟩
      · have HD := Lib.hid (show decide (x = b) = false from decide_eq_false hxb)
        have HXB := Lib.hid hxb
        clear hxb
        by_cases hn1 : j + 1 < mg
        · have hj2 : (j : Int) + 1 < mg := by omega
          obtain ⟨y, hy⟩ : ∃ y, vs[j + 1]? = some y := ⟨_, List.getElem?_eq_getElem (by rw [H.out.1]; exact hn1)⟩
          obtain ⟨g, hg⟩ : ∃ g, gs[j + 1]? = some g := ⟨_, List.getElem?_eq_getElem (by rw [H.out.2.1]; exact hn1)⟩
          obtain ⟨va', ya, yc, ea, _, cy0, ry, hyc⟩ := H.out.2.2.1 (j + 1) y hy
          cases ea
          obtain ⟨gad, rfl, _, cg1⟩ := H.out.2.2.2.1 (j + 1) (.int .i64 g) (by rw [List.getElem?_map, hg]; rfl)
          obtain ⟨ly, hly⟩ : ∃ ly, y.length = ly := ⟨_, rfl⟩
          rw [hly] at cy0 hyc
          have cy : wr.cell? (va.add (j + 1)) = some (.slice ya ly yc) := by rw [HW.out.1]; exact cy0
          have cg0 : wr.cell? (gad.add (j + 1)) = some (.int .i64 g) := by rw [HW.out.1]; exact cg1
          have HY := Lib.hid (And.intro hy (And.intro hly (And.intro (show Rd wr wr.heap.size ya (bv y) by rw [HW.out.1]; exact ry) hg)))
          have hNA : ¬ (0 ≤ g ∧ lx < nb ∧ nb ≤ ly ∧ y.take nb = b) → ¬ WasAt vs gs b j := fun h => not_at HX.out.1 hy hg HXB.out (by rw [HX.out.2.2, H.out.2.2.2.2.1, hly]; exact h)
          have HNN := Lib.hid hNA
          have hnc : (nb : Int) ≤ ly → (nb : Int) ≤ yc := fun h => by omega
          have hnb0 : (0 : Int) ≤ nb := by omega
          clear hy hg cy0 cg1 ry hly hNA hn1
          rcases (show g < 0 ∨ (0 ≤ g ∧ ¬ lx < nb) ∨ (0 ≤ g ∧ lx < nb ∧ ¬ nb ≤ ly) ∨ (0 ≤ g ∧ lx < nb ∧ nb ≤ ly) by omega) with h | ⟨h1, h2⟩ | ⟨h1, h2, h3⟩ | ⟨h1, h2, h3⟩
          · have HNA := Lib.hid (HNN.out (by omega))
            have hg0 : ¬ (0 ≤ g) := by omega
            go_wp2_with (first
              | (go_at_call 16
                 have z0 := HRb
                 clear z0
                 refine (sameBytes_any xa A lx xc nb cb x b _ HX.out.2.2 H.out.2.2.2.2.1 HX.out.2.1 HRb.out (by omega) (by omega)).mono ?_
                 rintro e ws ⟨rfl, k2, hws⟩
                 rw [HD.out]
                 have cF2 : ws.cell? ⟨pp, 0, none⟩ = some (.slice (some fa) n c) := by rw [hws]; exact cF
                 have cG2 : ws.cell? ⟨pp, 1, none⟩ = some (.slice (some ga) n' c') := by rw [hws]; exact cG
                 have cV2 : ws.cell? (fa.add f) = some (.slice (some va) mg cv) := by rw [hws]; exact cV
                 have cGr2 : ws.cell? (ga.add f) = some (.slice (some gad) mg cg) := by rw [hws]; exact cGr
                 have cy2 : ws.cell? (va.add (j + 1)) = some (.slice ya ly yc) := by rw [hws]; exact cy
                 have cg2 : ws.cell? (gad.add (j + 1)) = some (.int .i64 g) := by rw [hws]; exact cg0
                 have cg3 : ws.cell? ⟨gad.block, gad.off + (j + 1), none⟩ = some (.int .i64 g) := by rw [← add_suc]; exact cg2
                 have cy3 : ws.cell? ⟨va.block, va.off + (j + 1), none⟩ = some (.slice ya ly yc) := by rw [← add_suc]; exact cy2
                 have HYs := Lib.hid (show Rd ws ws.heap.size ya (bv y) by rw [hws]; exact HY.out.2.2.1)
                 have HWs := Lib.hid (show (∃ q, ws = w.drewN q) ∧ Rd ws ws.heap.size A (bv b) from ⟨⟨_, by rw [hws, HW.out.1]; first | rfl | exact World.drewN_drewN ..⟩, by rw [hws]; exact HRb.out⟩)
                 clear HRb hws cF cG cV cGr cx' cy cg0))
            go_roundw
            case rel =>
              obtain ⟨q2, hq2⟩ := HWs.out.1
              refine ⟨j + 1, q2, by omega, by go_num, hq2, fun i hi => ?_⟩
              rcases Nat.lt_or_ge i j with h | h
              · exact HW.out.2 i h
              · obtain rfl : i = j := by omega
                exact HNA.out
            case measure => simp [intOf]; omega
          · have HNA := Lib.hid (HNN.out (by omega))
            have hl0 : ¬ ((lx : Int) < nb) := by omega
            have hl1 : ¬ (lx < nb) := h2
            go_wp2_with (first
              | (go_at_call 16
                 have z0 := HRb
                 clear z0
                 refine (sameBytes_any xa A lx xc nb cb x b _ HX.out.2.2 H.out.2.2.2.2.1 HX.out.2.1 HRb.out (by omega) (by omega)).mono ?_
                 rintro e ws ⟨rfl, k2, hws⟩
                 rw [HD.out]
                 have cF2 : ws.cell? ⟨pp, 0, none⟩ = some (.slice (some fa) n c) := by rw [hws]; exact cF
                 have cG2 : ws.cell? ⟨pp, 1, none⟩ = some (.slice (some ga) n' c') := by rw [hws]; exact cG
                 have cV2 : ws.cell? (fa.add f) = some (.slice (some va) mg cv) := by rw [hws]; exact cV
                 have cGr2 : ws.cell? (ga.add f) = some (.slice (some gad) mg cg) := by rw [hws]; exact cGr
                 have cy2 : ws.cell? (va.add (j + 1)) = some (.slice ya ly yc) := by rw [hws]; exact cy
                 have cg2 : ws.cell? (gad.add (j + 1)) = some (.int .i64 g) := by rw [hws]; exact cg0
                 have cg3 : ws.cell? ⟨gad.block, gad.off + (j + 1), none⟩ = some (.int .i64 g) := by rw [← add_suc]; exact cg2
                 have cy3 : ws.cell? ⟨va.block, va.off + (j + 1), none⟩ = some (.slice ya ly yc) := by rw [← add_suc]; exact cy2
                 have HYs := Lib.hid (show Rd ws ws.heap.size ya (bv y) by rw [hws]; exact HY.out.2.2.1)
                 have HWs := Lib.hid (show (∃ q, ws = w.drewN q) ∧ Rd ws ws.heap.size A (bv b) from ⟨⟨_, by rw [hws, HW.out.1]; first | rfl | exact World.drewN_drewN ..⟩, by rw [hws]; exact HRb.out⟩)
                 clear HRb hws cF cG cV cGr cx' cy cg0))
            go_roundw
            case rel =>
              obtain ⟨q2, hq2⟩ := HWs.out.1
              refine ⟨j + 1, q2, by omega, by go_num, hq2, fun i hi => ?_⟩
              rcases Nat.lt_or_ge i j with h | h
              · exact HW.out.2 i h
              · obtain rfl : i = j := by omega
                exact HNA.out
            case measure => simp [intOf]; omega
          · have HNA := Lib.hid (HNN.out (by omega))
            have hl0 : (lx : Int) < nb := by omega
            have hl1 : ¬ ((nb : Int) ≤ ly) := by omega
            have hl2 : ¬ (nb ≤ ly) := h3
            go_wp2_with (first
              | (go_at_call 16
                 have z0 := HRb
                 clear z0
                 refine (sameBytes_any xa A lx xc nb cb x b _ HX.out.2.2 H.out.2.2.2.2.1 HX.out.2.1 HRb.out (by omega) (by omega)).mono ?_
                 rintro e ws ⟨rfl, k2, hws⟩
                 rw [HD.out]
                 have cF2 : ws.cell? ⟨pp, 0, none⟩ = some (.slice (some fa) n c) := by rw [hws]; exact cF
                 have cG2 : ws.cell? ⟨pp, 1, none⟩ = some (.slice (some ga) n' c') := by rw [hws]; exact cG
                 have cV2 : ws.cell? (fa.add f) = some (.slice (some va) mg cv) := by rw [hws]; exact cV
                 have cGr2 : ws.cell? (ga.add f) = some (.slice (some gad) mg cg) := by rw [hws]; exact cGr
                 have cy2 : ws.cell? (va.add (j + 1)) = some (.slice ya ly yc) := by rw [hws]; exact cy
                 have cg2 : ws.cell? (gad.add (j + 1)) = some (.int .i64 g) := by rw [hws]; exact cg0
                 have cg3 : ws.cell? ⟨gad.block, gad.off + (j + 1), none⟩ = some (.int .i64 g) := by rw [← add_suc]; exact cg2
                 have cy3 : ws.cell? ⟨va.block, va.off + (j + 1), none⟩ = some (.slice ya ly yc) := by rw [← add_suc]; exact cy2
                 have HYs := Lib.hid (show Rd ws ws.heap.size ya (bv y) by rw [hws]; exact HY.out.2.2.1)
                 have HWs := Lib.hid (show (∃ q, ws = w.drewN q) ∧ Rd ws ws.heap.size A (bv b) from ⟨⟨_, by rw [hws, HW.out.1]; first | rfl | exact World.drewN_drewN ..⟩, by rw [hws]; exact HRb.out⟩)
                 clear HRb hws cF cG cV cGr cx' cy cg0))
            go_roundw
            case rel =>
              obtain ⟨q2, hq2⟩ := HWs.out.1
              refine ⟨j + 1, q2, by omega, by go_num, hq2, fun i hi => ?_⟩
              rcases Nat.lt_or_ge i j with h | h
              · exact HW.out.2 i h
              · obtain rfl : i = j := by omega
                exact HNA.out
            case measure => simp [intOf]; omega
          · have hl0 : (lx : Int) < nb := by omega
            have hl1 : (nb : Int) ≤ ly := by omega
            have hl2 : (nb : Int) ≤ yc := hnc hl1
            by_cases heq : b = y.take nb
            · have HE := Lib.hid (show decide (b = y.take nb) = true from decide_eq_true heq)
              clear heq
              go_wp2_with (first
                | (go_at_call 16
                   have z0 := HRb
                   clear z0
                   refine (sameBytes_any xa A lx xc nb cb x b _ HX.out.2.2 H.out.2.2.2.2.1 HX.out.2.1 HRb.out (by omega) (by omega)).mono ?_
                   rintro e ws ⟨rfl, k2, hws⟩
                   rw [HD.out]
                   have cF2 : ws.cell? ⟨pp, 0, none⟩ = some (.slice (some fa) n c) := by rw [hws]; exact cF
                   have cG2 : ws.cell? ⟨pp, 1, none⟩ = some (.slice (some ga) n' c') := by rw [hws]; exact cG
                   have cV2 : ws.cell? (fa.add f) = some (.slice (some va) mg cv) := by rw [hws]; exact cV
                   have cGr2 : ws.cell? (ga.add f) = some (.slice (some gad) mg cg) := by rw [hws]; exact cGr
                   have cy2 : ws.cell? (va.add (j + 1)) = some (.slice ya ly yc) := by rw [hws]; exact cy
                   have cg2 : ws.cell? (gad.add (j + 1)) = some (.int .i64 g) := by rw [hws]; exact cg0
                   have cg3 : ws.cell? ⟨gad.block, gad.off + (j + 1), none⟩ = some (.int .i64 g) := by rw [← add_suc]; exact cg2
                   have cy3 : ws.cell? ⟨va.block, va.off + (j + 1), none⟩ = some (.slice ya ly yc) := by rw [← add_suc]; exact cy2
                   have HYs := Lib.hid (show Rd ws ws.heap.size ya (bv y) by rw [hws]; exact HY.out.2.2.1)
                   have HWs := Lib.hid (show (∃ q, ws = w.drewN q) ∧ Rd ws ws.heap.size A (bv b) from ⟨⟨_, by rw [hws, HW.out.1]; first | rfl | exact World.drewN_drewN ..⟩, by rw [hws]; exact HRb.out⟩)
                   clear HRb hws cF cG cV cGr cx' cy cg0)
                | (go_at_call 16
                   refine (sameBytes_any A ya nb cb nb yc b (y.take nb) _ H.out.2.2.2.2.1 (by rw [List.length_take, HY.out.2.1]; omega) HWs.out.2 (rd_take HYs.out nb) (by omega) (by omega)).mono ?_
                   rintro e wt ⟨rfl, k3, hwt⟩
                   rw [HE.out]
                   have HWt := Lib.hid (show ∃ q, wt = w.drewN q by
                     obtain ⟨q2, hq2⟩ := HWs.out.1
                     exact ⟨_, by rw [hwt, hq2]; first | rfl | exact World.drewN_drewN ..⟩)
                   clear hwt))
              go_ret
              obtain ⟨q2, hq2⟩ := HWt.out
              exact ⟨by rw [wasB_yes ⟨j, x, HX.out.1, .inr ⟨y, g, HY.out.1, HY.out.2.2.2, h1, by rw [HX.out.2.2, H.out.2.2.2.2.1]; exact h2, by rw [H.out.2.2.2.2.1, HY.out.2.1]; exact h3, by rw [H.out.2.2.2.2.1]; exact (of_decide_eq_true HE.out).symm⟩⟩]; rfl, q2, hq2⟩
            · have HNA := Lib.hid (HNN.out (fun hh => heq hh.2.2.2.symm))
              have HE := Lib.hid (show decide (b = y.take nb) = false from decide_eq_false heq)
              clear heq
              go_wp2_with (first
                | (go_at_call 16
                   have z0 := HRb
                   clear z0
                   refine (sameBytes_any xa A lx xc nb cb x b _ HX.out.2.2 H.out.2.2.2.2.1 HX.out.2.1 HRb.out (by omega) (by omega)).mono ?_
                   rintro e ws ⟨rfl, k2, hws⟩
                   rw [HD.out]
                   have cF2 : ws.cell? ⟨pp, 0, none⟩ = some (.slice (some fa) n c) := by rw [hws]; exact cF
                   have cG2 : ws.cell? ⟨pp, 1, none⟩ = some (.slice (some ga) n' c') := by rw [hws]; exact cG
                   have cV2 : ws.cell? (fa.add f) = some (.slice (some va) mg cv) := by rw [hws]; exact cV
                   have cGr2 : ws.cell? (ga.add f) = some (.slice (some gad) mg cg) := by rw [hws]; exact cGr
                   have cy2 : ws.cell? (va.add (j + 1)) = some (.slice ya ly yc) := by rw [hws]; exact cy
                   have cg2 : ws.cell? (gad.add (j + 1)) = some (.int .i64 g) := by rw [hws]; exact cg0
                   have cg3 : ws.cell? ⟨gad.block, gad.off + (j + 1), none⟩ = some (.int .i64 g) := by rw [← add_suc]; exact cg2
                   have cy3 : ws.cell? ⟨va.block, va.off + (j + 1), none⟩ = some (.slice ya ly yc) := by rw [← add_suc]; exact cy2
                   have HYs := Lib.hid (show Rd ws ws.heap.size ya (bv y) by rw [hws]; exact HY.out.2.2.1)
                   have HWs := Lib.hid (show (∃ q, ws = w.drewN q) ∧ Rd ws ws.heap.size A (bv b) from ⟨⟨_, by rw [hws, HW.out.1]; first | rfl | exact World.drewN_drewN ..⟩, by rw [hws]; exact HRb.out⟩)
                   clear HRb hws cF cG cV cGr cx' cy cg0)
                | (go_at_call 16
                   refine (sameBytes_any A ya nb cb nb yc b (y.take nb) _ H.out.2.2.2.2.1 (by rw [List.length_take, HY.out.2.1]; omega) HWs.out.2 (rd_take HYs.out nb) (by omega) (by omega)).mono ?_
                   rintro e wt ⟨rfl, k3, hwt⟩
                   rw [HE.out]
                   have HWt := Lib.hid (show ∃ q, wt = w.drewN q by
                     obtain ⟨q2, hq2⟩ := HWs.out.1
                     exact ⟨_, by rw [hwt, hq2]; first | rfl | exact World.drewN_drewN ..⟩)
                   clear hwt))
              go_roundw
              case rel =>
                obtain ⟨q2, hq2⟩ := HWt.out
                refine ⟨j + 1, q2, by omega, by go_num, hq2, fun i hi => ?_⟩
                rcases Nat.lt_or_ge i j with h | h
                · exact HW.out.2 i h
                · obtain rfl : i = j := by omega
                  exact HNA.out
              case measure => simp [intOf]; omega
        · have hj2 : ¬ ((j : Int) + 1 < mg) := by omega
          go_wp2_with (first
            | (go_at_call 16
               have z0 := HRb
               clear z0
               refine (sameBytes_any xa A lx xc nb cb x b _ HX.out.2.2 H.out.2.2.2.2.1 HX.out.2.1 HRb.out (by omega) (by omega)).mono ?_
               rintro e ws ⟨rfl, k2, hws⟩
               rw [HD.out]
               have cF2 : ws.cell? ⟨pp, 0, none⟩ = some (.slice (some fa) n c) := by rw [hws]; exact cF
               have cG2 : ws.cell? ⟨pp, 1, none⟩ = some (.slice (some ga) n' c') := by rw [hws]; exact cG
               have cV2 : ws.cell? (fa.add f) = some (.slice (some va) mg cv) := by rw [hws]; exact cV
               have cGr2 : ws.cell? (ga.add f) = some (.slice GA mg cg) := by rw [hws]; exact cGr
               have HWs := Lib.hid (show (∃ q, ws = w.drewN q) ∧ Rd ws ws.heap.size A (bv b) from ⟨⟨_, by rw [hws, HW.out.1]; first | rfl | exact World.drewN_drewN ..⟩, by rw [hws]; exact HRb.out⟩)
               clear HRb hws cF cG cV cGr cx'))
          go_roundw
          case rel =>
            obtain ⟨q2, hq2⟩ := HWs.out.1
            refine ⟨j + 1, q2, by omega, by go_num, hq2, fun i hi => ?_⟩
            rcases Nat.lt_or_ge i j with h | h
            · exact HW.out.2 i h
            · obtain rfl : i = j := by omega
              rintro ⟨x', hx', hr⟩
              rw [HX.out.1] at hx'
              injection hx' with hx'
              subst hx'
              rcases hr with hr | ⟨y, g, hy, _⟩
              · exact HXB.out hr
              · have := (List.getElem?_eq_some_iff.1 hy).1
                rw [H.out.1] at this
                omega
          case measure => simp [intOf]; omega
    · have hkm : mg = j := by omega
      subst hkm
      go_wp2
      go_ret
      exact ⟨by rw [wasB_no (not_was fun i hi => HW.out.2 i (by rw [H.out.1] at hi; exact hi))]; rfl, q, HW.out.1⟩
end Go.Proofs.Ytomkieennkobcaa
/- SimfsPast: what is written down, in memory: each block has a label. -/
namespace Go.Proofs.Ytomkieennkobcaa
open Go.RowKit Go.Maps

/-- The row's block has that label. -/
def Lb (L : Nat → Nat) (v : Value) (a : Nat) : Prop := ∀ b, v.ownBlock = some b → L b = a
/-- Versions of a file. -/
def VerM (w : World) (L : Nat → Nat) (a : Nat) (u : Value) (vs : List (List UInt8)) : Prop :=
  ∃ us : List Value, w.ownsRow 0 22 1 u vs.length us ∧ Lb L u a ∧ ∀ (j : Nat) (x : List UInt8) (v : Value), vs[j]? = some x → us[j]? = some v → w.ownsRow 0 5 1 v x.length (bv x) ∧ Lb L v 5
structure FPart (w : World) (L : Nat → Nat) (vF : Value) (uF : List Value) (fs : VS) : Prop where
  r : w.ownsRow 0 110 1 vF fs.length uF
  l : Lb L vF 2
  f : ∀ (i : Nat) (vs : List (List UInt8)) (u : Value), fs[i]? = some vs → uF[i]? = some u → VerM w L (8 + 2 * i) u vs
def GrM (w : World) (L : Nat → Nat) (a : Nat) (u : Value) (g : List Int) : Prop := w.ownsRow 0 3 1 u g.length (g.map (Value.int .i64)) ∧ Lb L u a
structure GPart (w : World) (L : Nat → Nat) (vG : Value) (uG : List Value) (gs : GS) : Prop where
  r : w.ownsRow 0 23 1 vG gs.length uG
  l : Lb L vG 3
  f : ∀ (i : Nat) (g : List Int) (u : Value), gs[i]? = some g → uG[i]? = some u → GrM w L (9 + 2 * i) u g
def NmM (w : World) (L : Nat → Nat) (u : Value) (l : List KE) : Prop := w.ownsRow 0 113 2 u l.length (l.flatMap ncell) ∧ Lb L u 6
structure DPart (w : World) (L : Nat → Nat) (vD : Value) (uD : List Value) (ds : List (List KE)) : Prop where
  r : w.ownsRow 0 108 1 vD ds.length uD
  l : Lb L vD 4
  f : ∀ (i : Nat) (l : List KE) (u : Value), ds[i]? = some l → uD[i]? = some u → NmM w L u l
/-- All of it: the pointer's block has the label 1. -/
structure PsM (w : World) (L : Nat → Nat) (pp : Nat) (vF : Value) (uF : List Value) (vG : Value) (uG : List Value) (vD : Value) (uD : List Value) (fs : VS) (gs : GS) (ds : List (List KE)) : Prop where
  box : Box w pp 106 #[vF, vG, vD]
  lp : L pp = 1
  lt : ∀ b, L b ≠ 0 → b < w.heap.size
  F : FPart w L vF uF fs
  G : GPart w L vG uG gs
  D : DPart w L vD uD ds
/-- What a step did to labels and blocks. -/
structure Ex (w w' : World) (L L' : Nat → Nat) : Prop where
  old : ∀ b, L b ≠ 0 → L' b = L b
  new : ∀ b, L' b ≠ 0 → L b ≠ 0 ∨ w.heap.size ≤ b
  chg : Chg (fun b => L b ≠ 0) w w'
open Classical in
noncomputable def relab (L : Nat → Nat) (v : Value) (a : Nat) : Nat → Nat := fun b => if v.ownBlock = some b then a else L b
section
variable {w wx w1 w' : World} {L L' L1 : Nat → Nat} {pp a f n c g : Nat} {vF vG vD u u' x : Value} {uF uG uD us : List Value} {fs : VS} {gs : GS} {ds : List (List KE)}
theorem Ex.trans {a b c : World} {L1 L2 L3 : Nat → Nat} (h : Ex a b L1 L2) (k : Ex b c L2 L3) : Ex a c L1 L3 := by
  have ho : ∀ j, L1 j ≠ 0 → L2 j ≠ 0 := fun j hj => by rw [h.old j hj]; exact hj
  refine ⟨fun j hj => (k.old j (ho j hj)).trans (h.old j hj), fun j hj => ?_, h.chg.trans' k.chg fun j hj hs => ?_⟩
  · rcases k.new j hj with h1 | h1
    · exact h.new j h1
    · exact .inr (Nat.le_trans h.chg.size h1)
  · rcases h.new j hs with h1 | h1
    · exact h1
    · omega
theorem Ex.below (hb : Below w.heap.size w w') (L : Nat → Nat) : Ex w w' L L := ⟨fun _ _ => rfl, fun _ h => .inl h, Chg.of_below hb _⟩
theorem relab_self (v : Value) (a : Nat) (L : Nat → Nat) : Lb (relab L v a) v a := fun b hb => by unfold relab; rw [if_pos hb]
theorem relab_off {v : Value} {b : Nat} (h : v.ownBlock ≠ some b) : relab L v a b = L b := by unfold relab; rw [if_neg h]
/-- The row is where it was, or it is new. -/
def Where (w : World) (L : Nat → Nat) (v : Value) (a : Nat) : Prop := ∀ b, v.ownBlock = some b → L b = a ∨ w.heap.size ≤ b
theorem Where.old {v : Value} (h : Where w L v a) (hlt : ∀ b, L b ≠ 0 → b < w.heap.size) : ∀ b, L b ≠ 0 → relab L v a b = L b := fun b hb => by
  by_cases e : v.ownBlock = some b
  · rcases h b e with h1 | h1
    · unfold relab; rw [if_pos e, h1]
    · have := hlt b hb; omega
  · exact relab_off e
theorem Where.new {v : Value} (h : Where w L v a) (ha : a ≠ 0) : ∀ b, relab L v a b ≠ 0 → L b ≠ 0 ∨ w.heap.size ≤ b := fun b hb => by
  by_cases e : v.ownBlock = some b
  · rcases h b e with h1 | h1
    · left; rw [h1]; exact ha
    · exact .inr h1
  · left; rwa [relab_off e] at hb
theorem Where.lt {v : Value} (hlt : ∀ b, L b ≠ 0 → b < w.heap.size) (hs : w.heap.size ≤ w'.heap.size) (hv : ∀ b, v.ownBlock = some b → b < w'.heap.size) : ∀ b, relab L v a b ≠ 0 → b < w'.heap.size := fun b hb => by
  by_cases e : v.ownBlock = some b
  · exact hv b e
  · rw [relab_off e] at hb
    exact Nat.lt_of_lt_of_le (hlt b hb) hs
theorem Lb.old {v : Value} (h : Lb L v a) (ha : a ≠ 0) (ho : ∀ b, L b ≠ 0 → L' b = L b) : Lb L' v a := fun b hb => by
  have h1 := h b hb
  rw [ho b (by rw [h1]; exact ha), h1]
/-- What was there of label a is there. -/
def Same (w w' : World) (L : Nat → Nat) (a : Nat) : Prop := ∀ b, L b = a → w'.heap[b]? = w.heap[b]?
theorem row_same {e : TypeId} {z n : Nat} {v : Value} {xs : List Value} (h : w.ownsRow 0 e z v n xs) (hl : Lb L v a) (hs : Same w w' L a) : w'.ownsRow 0 e z v n xs := row_block h fun k hk => hs k (hl k hk)
theorem VerM.keep {vs : List (List UInt8)} (h : VerM w L a u vs) (ha : a ≠ 0) (hs : Same w w' L a) (h5 : Same w w' L 5) (ho : ∀ b, L b ≠ 0 → L' b = L b) : VerM w' L' a u vs := by
  obtain ⟨us, h1, h2, h3⟩ := h
  exact ⟨us, row_same h1 h2 hs, h2.old ha ho, fun j x v hx hv => ⟨row_same (h3 j x v hx hv).1 (h3 j x v hx hv).2 h5, (h3 j x v hx hv).2.old (by decide) ho⟩⟩
theorem FPart.keep (h : FPart w L vF uF fs) (h2 : Same w w' L 2) (h5 : Same w w' L 5) (hi : ∀ i, Same w w' L (8 + 2 * i)) (ho : ∀ b, L b ≠ 0 → L' b = L b) : FPart w' L' vF uF fs :=
  ⟨row_same h.r h.l h2, h.l.old (by decide) ho, fun i vs u hv hu => (h.f i vs u hv hu).keep (by omega) (hi i) h5 ho⟩
theorem GPart.keep (h : GPart w L vG uG gs) (h2 : Same w w' L 3) (hi : ∀ i, Same w w' L (9 + 2 * i)) (ho : ∀ b, L b ≠ 0 → L' b = L b) : GPart w' L' vG uG gs :=
  ⟨row_same h.r h.l h2, h.l.old (by decide) ho, fun i g u hg hu => ⟨row_same (h.f i g u hg hu).1 (h.f i g u hg hu).2 (hi i), (h.f i g u hg hu).2.old (by omega) ho⟩⟩
theorem DPart.keep (h : DPart w L vD uD ds) (h2 : Same w w' L 4) (h6 : Same w w' L 6) (ho : ∀ b, L b ≠ 0 → L' b = L b) : DPart w' L' vD uD ds :=
  ⟨row_same h.r h.l h2, h.l.old (by decide) ho, fun i l u hl hu => ⟨row_same (h.f i l u hl hu).1 (h.f i l u hl hu).2 h6, (h.f i l u hl hu).2.old (by decide) ho⟩⟩
/-- What keeps all labelled blocks keeps it. -/
theorem PsM.keep (h : PsM w L pp vF uF vG uG vD uD fs gs ds) (hz : w.heap.size ≤ w'.heap.size) (hk : ∀ b, L b ≠ 0 → w'.heap[b]? = w.heap[b]?) : PsM w' L pp vF uF vG uG vD uD fs gs ds := by
  have hs : ∀ a, a ≠ 0 → Same w w' L a := fun a ha b hb => hk b (by rw [hb]; exact ha)
  refine ⟨?_, h.lp, fun b hb => Nat.lt_of_lt_of_le (h.lt b hb) hz, h.F.keep (hs _ (by decide)) (hs _ (by decide)) (fun i => hs _ (by omega)) (fun _ _ => rfl), h.G.keep (hs _ (by decide)) (fun i => hs _ (by omega)) (fun _ _ => rfl), h.D.keep (hs _ (by decide)) (hs _ (by decide)) (fun _ _ => rfl)⟩
  exact (hk pp (by rw [h.lp]; decide)).trans h.box
theorem PsM.next (h : PsM w L pp vF uF vG uG vD uD fs gs ds) (hb : Below w.heap.size w w') : PsM w' L pp vF uF vG uG vD uD fs gs ds := h.keep hb.size fun b hL => hb.block b (h.lt b hL)
/-- A new row gets a label. -/
theorem PsM.fresh (h : PsM w L pp vF uF vG uG vD uD fs gs ds) (hb : Below w.heap.size w wx) (hx : ∀ b, x.ownBlock = some b → w.heap.size ≤ b ∧ b < wx.heap.size) (ha : a ≠ 0) : PsM wx (relab L x a) pp vF uF vG uG vD uD fs gs ds ∧ Lb (relab L x a) x a ∧ Ex w wx L (relab L x a) := by
  have hw : Where w L x a := fun b hb => .inr (hx b hb).1
  have ho := hw.old h.lt
  have hs : ∀ a, a ≠ 0 → Same w wx L a := fun a ha b hb' => hb.block b (h.lt b (by rw [hb']; exact ha))
  refine ⟨⟨h.box.below hb h.box.lt, by rw [ho pp (by rw [h.lp]; decide), h.lp], Where.lt h.lt hb.size fun b hb => (hx b hb).2, h.F.keep (hs _ (by decide)) (hs _ (by decide)) (fun i => hs _ (by omega)) ho, h.G.keep (hs _ (by decide)) (fun i => hs _ (by omega)) ho, h.D.keep (hs _ (by decide)) (hs _ (by decide)) ho⟩, relab_self _ _ _, ⟨ho, hw.new ha, Chg.of_below hb _⟩⟩
/-- The world behind a row's turn and the store of its header. -/
theorem same_put {v0 v : Value} {p : Addr} (hc : Chg (fun b => v0.ownBlock = some b) w w1) (hlt : ∀ b, L b ≠ 0 → b < w.heap.size) {i j : Nat} (h0 : Lb L v0 i) (hp : L p.block = j) (ha : a ≠ 0) (h1 : a ≠ i) (h2 : a ≠ j) : Same w (w1.setCell p v) L a := fun b hb => by
  rw [Below.heap_setCell w1 p v b fun e => h2 (by rw [← hb, e, hp])]
  exact hc.block b (hlt b (by rw [hb]; exact ha)) fun e => h1 (by rw [← hb, h0 b e])
theorem ex_put {v0 v : Value} {p : Addr} {i : Nat} (hc : Chg (fun b => v0.ownBlock = some b) w w1) (hlt : ∀ b, L b ≠ 0 → b < w.heap.size) (h0 : Lb L v0 i) (hi : i ≠ 0) (hp : L p.block ≠ 0) (hw : Where w L v i) : Ex w (w1.setCell p v) L (relab L v i) :=
  ⟨hw.old hlt, hw.new hi, (hc.mono fun b _ hb => by rw [h0 b hb]; exact hi).setCell (.inl hp) _⟩
theorem PsM.turnD {vD' : Value} {uD' : List Value} {ds' : List (List KE)} (h : PsM w L pp vF uF vG uG vD uD fs gs ds) (hc : Chg (fun b => vD.ownBlock = some b) w w1) (hr : w1.ownsRow 0 108 1 vD' ds'.length uD') (hw : Where w L vD' 4) (hf : ∀ (i : Nat) (l : List KE) (u : Value), ds'[i]? = some l → uD'[i]? = some u → NmM w L u l) :
    PsM (w1.setCell ⟨pp, 2, none⟩ vD') (relab L vD' 4) pp vF uF vG uG vD' uD' fs gs ds' ∧ Ex w (w1.setCell ⟨pp, 2, none⟩ vD') L (relab L vD' 4) := by
  have ho := hw.old h.lt
  have hs : ∀ a, a ≠ 0 → a ≠ 4 → a ≠ 1 → Same w (w1.setCell ⟨pp, 2, none⟩ vD') L a := fun a h0 h1 h2 => same_put hc h.lt h.D.l h.lp h0 h1 h2
  have hpv : vD'.ownBlock ≠ some pp := fun e => by
    rcases hw pp e with h1 | h1
    · rw [h.lp] at h1; cases h1
    · have := h.box.lt; omega
  have hb1 : Box w1 pp 106 #[vF, vG, vD] := h.box.chg hc fun e => by have := h.D.l pp e; rw [h.lp] at this; cases this
  refine ⟨⟨by simpa using hb1.set_ 2 vD', by rw [ho pp (by rw [h.lp]; decide), h.lp], Where.lt h.lt (by simpa [World.setCell] using hc.size) (fun b hb => by simpa [World.setCell] using (hr.lt b hb).2), h.F.keep (hs _ (by decide) (by decide) (by decide)) (hs _ (by decide) (by decide) (by decide)) (fun i => hs _ (by omega) (by omega) (by omega)) ho, h.G.keep (hs _ (by decide) (by decide) (by decide)) (fun i => hs _ (by omega) (by omega) (by omega)) ho, ⟨row_off hr hpv _, relab_self _ _ _, fun i l u hl hu => ?_⟩⟩, ex_put hc h.lt h.D.l (by decide) (by show L pp ≠ 0; rw [h.lp]; decide) hw⟩
  obtain ⟨k1, k2⟩ := hf i l u hl hu
  exact ⟨row_same k1 k2 (hs _ (by decide) (by decide) (by decide)), k2.old (by decide) ho⟩
theorem PsM.turnF {vF' : Value} {uF' : List Value} {fs' : VS} (h : PsM w L pp vF uF vG uG vD uD fs gs ds) (hc : Chg (fun b => vF.ownBlock = some b) w w1) (hr : w1.ownsRow 0 110 1 vF' fs'.length uF') (hw : Where w L vF' 2) (hf : ∀ (i : Nat) (vs : List (List UInt8)) (u : Value), fs'[i]? = some vs → uF'[i]? = some u → VerM w L (8 + 2 * i) u vs) :
    PsM (w1.setCell ⟨pp, 0, none⟩ vF') (relab L vF' 2) pp vF' uF' vG uG vD uD fs' gs ds ∧ Ex w (w1.setCell ⟨pp, 0, none⟩ vF') L (relab L vF' 2) := by
  have ho := hw.old h.lt
  have hs : ∀ a, a ≠ 0 → a ≠ 2 → a ≠ 1 → Same w (w1.setCell ⟨pp, 0, none⟩ vF') L a := fun a h0 h1 h2 => same_put hc h.lt h.F.l h.lp h0 h1 h2
  have hpv : vF'.ownBlock ≠ some pp := fun e => by
    rcases hw pp e with h1 | h1
    · rw [h.lp] at h1; cases h1
    · have := h.box.lt; omega
  have hb1 : Box w1 pp 106 #[vF, vG, vD] := h.box.chg hc fun e => by have := h.F.l pp e; rw [h.lp] at this; cases this
  refine ⟨⟨by simpa using hb1.set_ 0 vF', by rw [ho pp (by rw [h.lp]; decide), h.lp], Where.lt h.lt (by simpa [World.setCell] using hc.size) (fun b hb => by simpa [World.setCell] using (hr.lt b hb).2), ⟨row_off hr hpv _, relab_self _ _ _, fun i vs u hv hu => ?_⟩, h.G.keep (hs _ (by decide) (by decide) (by decide)) (fun i => hs _ (by omega) (by omega) (by omega)) ho, h.D.keep (hs _ (by decide) (by decide) (by decide)) (hs _ (by decide) (by decide) (by decide)) ho⟩, ex_put hc h.lt h.F.l (by decide) (by show L pp ≠ 0; rw [h.lp]; decide) hw⟩
  exact (hf i vs u hv hu).keep (by omega) (hs _ (by omega) (by omega) (by omega)) (hs _ (by decide) (by decide) (by decide)) ho
theorem PsM.turnG {vG' : Value} {uG' : List Value} {gs' : GS} (h : PsM w L pp vF uF vG uG vD uD fs gs ds) (hc : Chg (fun b => vG.ownBlock = some b) w w1) (hr : w1.ownsRow 0 23 1 vG' gs'.length uG') (hw : Where w L vG' 3) (hf : ∀ (i : Nat) (g : List Int) (u : Value), gs'[i]? = some g → uG'[i]? = some u → GrM w L (9 + 2 * i) u g) :
    PsM (w1.setCell ⟨pp, 1, none⟩ vG') (relab L vG' 3) pp vF uF vG' uG' vD uD fs gs' ds ∧ Ex w (w1.setCell ⟨pp, 1, none⟩ vG') L (relab L vG' 3) := by
  have ho := hw.old h.lt
  have hs : ∀ a, a ≠ 0 → a ≠ 3 → a ≠ 1 → Same w (w1.setCell ⟨pp, 1, none⟩ vG') L a := fun a h0 h1 h2 => same_put hc h.lt h.G.l h.lp h0 h1 h2
  have hpv : vG'.ownBlock ≠ some pp := fun e => by
    rcases hw pp e with h1 | h1
    · rw [h.lp] at h1; cases h1
    · have := h.box.lt; omega
  have hb1 : Box w1 pp 106 #[vF, vG, vD] := h.box.chg hc fun e => by have := h.G.l pp e; rw [h.lp] at this; cases this
  refine ⟨⟨by simpa using hb1.set_ 1 vG', by rw [ho pp (by rw [h.lp]; decide), h.lp], Where.lt h.lt (by simpa [World.setCell] using hc.size) (fun b hb => by simpa [World.setCell] using (hr.lt b hb).2), h.F.keep (hs _ (by decide) (by decide) (by decide)) (hs _ (by decide) (by decide) (by decide)) (fun i => hs _ (by omega) (by omega) (by omega)) ho, ⟨row_off hr hpv _, relab_self _ _ _, fun i g u hg hu => ?_⟩, h.D.keep (hs _ (by decide) (by decide) (by decide)) (hs _ (by decide) (by decide) (by decide)) ho⟩, ex_put hc h.lt h.G.l (by decide) (by show L pp ≠ 0; rw [h.lp]; decide) hw⟩
  obtain ⟨k1, k2⟩ := hf i g u hg hu
  exact ⟨row_same k1 k2 (hs _ (by omega) (by omega) (by omega)), k2.old (by omega) ho⟩
/-- A file's row of versions turns. -/
theorem PsM.putF {vs vs' : List (List UInt8)} (h : PsM w L pp (.slice (some ⟨g, 0, none⟩) n c) uF vG uG vD uD fs gs ds) (hv : fs[f]? = some vs) (hu : uF[f]? = some u) (hc : Chg (fun b => u.ownBlock = some b) w w1) (hr : w1.ownsRow 0 22 1 u' vs'.length us) (hw : Where w L u' (8 + 2 * f))
    (hx : ∀ (j : Nat) (x : List UInt8) (v : Value), vs'[j]? = some x → us[j]? = some v → w.ownsRow 0 5 1 v x.length (bv x) ∧ Lb L v 5) :
    PsM (w1.setCell ⟨g, f, none⟩ u') (relab L u' (8 + 2 * f)) pp (.slice (some ⟨g, 0, none⟩) n c) (uF.set f u') vG uG vD uD (fs.set f vs') gs ds ∧ Ex w (w1.setCell ⟨g, f, none⟩ u') L (relab L u' (8 + 2 * f)) := by
  have ho := hw.old h.lt
  obtain ⟨us0, _, h0, _⟩ := h.F.f f vs u hv hu
  have hg : L g = 2 := h.F.l g rfl
  have hs : ∀ a, a ≠ 0 → a ≠ 8 + 2 * f → a ≠ 2 → Same w (w1.setCell ⟨g, f, none⟩ u') L a := fun a k0 k1 k2 => same_put hc h.lt h0 hg k0 k1 k2
  have hgv : u'.ownBlock ≠ some g := fun e => by
    rcases hw g e with h1 | h1
    · omega
    · have := h.lt g (by omega); omega
  have hfl : f < fs.length := (List.getElem?_eq_some_iff.1 hv).1
  have hrow1 : w1.ownsRow 0 110 1 (.slice (some ⟨g, 0, none⟩) n c) fs.length uF := row_block h.F.r fun k hk => hc.block k (h.F.r.lt k hk).2 fun e => by have h1 := h0 k e; have h2 := h.F.l k hk; omega
  obtain ⟨_, c', hvv⟩ := row_slice h.F.r
  injection hvv with _ hn _
  subst hn
  refine ⟨⟨?_, by rw [ho pp (by rw [h.lp]; decide), h.lp], Where.lt h.lt (by simpa [World.setCell] using hc.size) (fun b hb => by simpa [World.setCell] using (hr.lt b hb).2), ⟨?_, h.F.l.old (by decide) ho, fun i vi ui hvi hui => ?_⟩, h.G.keep (hs _ (by decide) (by omega) (by decide)) (fun i => hs _ (by omega) (by omega) (by omega)) ho, h.D.keep (hs _ (by decide) (by omega) (by decide)) (hs _ (by decide) (by omega) (by decide)) ho⟩, ex_put hc h.lt h0 (by omega) (by show L g ≠ 0; omega) hw⟩
  · refine (h.box.chg hc fun e => ?_).far (fun e => ?_) _
    · have := h0 pp e; rw [h.lp] at this; omega
    · have : L pp = L g := by rw [show pp = g from e]
      rw [h.lp, hg] at this; cases this
  · rw [List.length_set]
    exact row_set hrow1 u'
  · by_cases hi : i = f
    · subst hi
      rw [List.getElem?_set_self hfl] at hvi
      injection hvi with hvi
      subst hvi
      have hul : i < uF.length := (List.getElem?_eq_some_iff.1 hu).1
      rw [List.getElem?_set_self hul] at hui
      injection hui with hui
      subst hui
      refine ⟨us, row_off hr hgv _, relab_self _ _ _, fun j x v hj hvj => ?_⟩
      obtain ⟨k1, k2⟩ := hx j x v hj hvj
      exact ⟨row_same k1 k2 (hs _ (by decide) (by omega) (by decide)), k2.old (by decide) ho⟩
    · rw [List.getElem?_set_ne (fun e => hi e.symm)] at hvi hui
      exact (h.F.f i vi ui hvi hui).keep (by omega) (hs _ (by omega) (by omega) (by omega)) (hs _ (by decide) (by omega) (by decide)) ho
theorem PsM.putG {gi gi' : List Int} (h : PsM w L pp vF uF (.slice (some ⟨g, 0, none⟩) n c) uG vD uD fs gs ds) (hv : gs[f]? = some gi) (hu : uG[f]? = some u) (hc : Chg (fun b => u.ownBlock = some b) w w1) (hr : w1.ownsRow 0 3 1 u' gi'.length (gi'.map (Value.int .i64))) (hw : Where w L u' (9 + 2 * f)) :
    PsM (w1.setCell ⟨g, f, none⟩ u') (relab L u' (9 + 2 * f)) pp vF uF (.slice (some ⟨g, 0, none⟩) n c) (uG.set f u') vD uD fs (gs.set f gi') ds ∧ Ex w (w1.setCell ⟨g, f, none⟩ u') L (relab L u' (9 + 2 * f)) := by
  have ho := hw.old h.lt
  obtain ⟨_, h0⟩ := h.G.f f gi u hv hu
  have hg : L g = 3 := h.G.l g rfl
  have hs : ∀ a, a ≠ 0 → a ≠ 9 + 2 * f → a ≠ 3 → Same w (w1.setCell ⟨g, f, none⟩ u') L a := fun a k0 k1 k2 => same_put hc h.lt h0 hg k0 k1 k2
  have hgv : u'.ownBlock ≠ some g := fun e => by
    rcases hw g e with h1 | h1
    · omega
    · have := h.lt g (by omega); omega
  have hfl : f < gs.length := (List.getElem?_eq_some_iff.1 hv).1
  have hrow1 : w1.ownsRow 0 23 1 (.slice (some ⟨g, 0, none⟩) n c) gs.length uG := row_block h.G.r fun k hk => hc.block k (h.G.r.lt k hk).2 fun e => by have h1 := h0 k e; have h2 := h.G.l k hk; omega
  obtain ⟨_, c', hvv⟩ := row_slice h.G.r
  injection hvv with _ hn _
  subst hn
  refine ⟨⟨?_, by rw [ho pp (by rw [h.lp]; decide), h.lp], Where.lt h.lt (by simpa [World.setCell] using hc.size) (fun b hb => by simpa [World.setCell] using (hr.lt b hb).2), h.F.keep (hs _ (by decide) (by omega) (by decide)) (hs _ (by decide) (by omega) (by decide)) (fun i => hs _ (by omega) (by omega) (by omega)) ho, ⟨?_, h.G.l.old (by decide) ho, fun i vi ui hvi hui => ?_⟩, h.D.keep (hs _ (by decide) (by omega) (by decide)) (hs _ (by decide) (by omega) (by decide)) ho⟩, ex_put hc h.lt h0 (by omega) (by show L g ≠ 0; omega) hw⟩
  · refine (h.box.chg hc fun e => ?_).far (fun e => ?_) _
    · have := h0 pp e; rw [h.lp] at this; omega
    · have : L pp = L g := by rw [show pp = g from e]
      rw [h.lp, hg] at this; cases this
  · rw [List.length_set]
    exact row_set hrow1 u'
  · by_cases hi : i = f
    · subst hi
      rw [List.getElem?_set_self hfl] at hvi
      injection hvi with hvi
      subst hvi
      have hul : i < uG.length := (List.getElem?_eq_some_iff.1 hu).1
      rw [List.getElem?_set_self hul] at hui
      injection hui with hui
      subst hui
      exact ⟨row_off hr hgv _, relab_self _ _ _⟩
    · rw [List.getElem?_set_ne (fun e => hi e.symm)] at hvi hui
      obtain ⟨k1, k2⟩ := h.G.f i vi ui hvi hui
      exact ⟨row_same k1 k2 (hs _ (by omega) (by omega) (by omega)), k2.old (by omega) ho⟩
end
end Go.Proofs.Ytomkieennkobcaa
