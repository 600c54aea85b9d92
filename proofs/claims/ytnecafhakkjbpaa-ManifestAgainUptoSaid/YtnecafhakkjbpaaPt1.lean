import Derived.Test.YtnecafhakkjbpaaSml
/- SimfsPast: what was, as plain lists: the moments of a file, of the directory. -/
namespace Go.Proofs.Ytnecafhakkjbpaa
open Go.RowKit Go.Maps

/-- A file's bytes at every moment since its last Sync. -/
def vers (x : Fl) : List (List UInt8) := (List.range (x.chs.length + 1)).map fun i => (x.chs.take i).foldl fdo x.safe
def growC : FC → Int
  | .inl b => (b.length : Int)
  | .inr _ => -1
/-- By how much an append made it longer. -/
def grow (x : Fl) : List Int := -1 :: x.chs.map growC
theorem vers_get (x : Fl) {j : Nat} (h : j ≤ x.chs.length) : (vers x)[j]? = some ((x.chs.take j).foldl fdo x.safe) := by
  unfold vers
  rw [List.getElem?_map, List.getElem?_range (by omega)]
  rfl
theorem vers_len (x : Fl) : (vers x).length = x.chs.length + 1 := by simp [vers]
theorem vers_snoc (x : Fl) (c : FC) : vers ⟨x.safe, x.chs ++ [c]⟩ = vers x ++ [fdo x.seen c] := by
  refine List.ext_getElem? fun i => ?_
  rcases Nat.lt_trichotomy i (x.chs.length + 1) with h | h | h
  · rw [List.getElem?_append_left (by rw [vers_len]; exact h), vers_get _ (show i ≤ (x.chs ++ [c]).length by rw [List.length_append, List.length_singleton]; omega), vers_get _ (by omega)]
    show some (((x.chs ++ [c]).take i).foldl fdo x.safe) = _
    rw [List.take_append_of_le_length (by omega)]
  · subst h
    rw [List.getElem?_append_right (by rw [vers_len]; exact Nat.le_refl _), vers_len, Nat.sub_self, vers_get _ (show x.chs.length + 1 ≤ (x.chs ++ [c]).length by simp)]
    show some (((x.chs ++ [c]).take (x.chs.length + 1)).foldl fdo x.safe) = some (fdo x.seen c)
    rw [List.take_of_length_le (by simp), List.foldl_append]
    rfl
  · rw [List.getElem?_eq_none (by rw [vers_len]; simp; omega), List.getElem?_eq_none (by rw [List.length_append, vers_len]; simp; omega)]
theorem grow_snoc (x : Fl) (c : FC) : grow ⟨x.safe, x.chs ++ [c]⟩ = grow x ++ [growC c] := by simp [grow]
theorem vers_sync (b : List UInt8) : vers ⟨b, []⟩ = [b] ∧ grow ⟨b, []⟩ = [-1] := ⟨rfl, rfl⟩
theorem vers_last (x : Fl) : (vers x)[(vers x).length - 1]? = some x.seen := by
  rw [vers_len, Nat.add_sub_cancel, vers_get x (Nat.le_refl _), List.take_length]
  rfl
theorem grow_get (x : Fl) {j : Nat} {c : FC} (h : x.chs[j]? = some c) : (grow x)[j + 1]? = some (growC c) := by
  show (x.chs.map growC)[j]? = _
  rw [List.getElem?_map, h]
  rfl
/-- Were these the bytes, perhaps with first bytes of the next append? -/
def WasAt (vs : List (List UInt8)) (gs : List Int) (b : List UInt8) (j : Nat) : Prop := ∃ x, vs[j]? = some x ∧ (x = b ∨ ∃ y g, vs[j + 1]? = some y ∧ gs[j + 1]? = some g ∧ 0 ≤ g ∧ x.length < b.length ∧ b.length ≤ y.length ∧ y.take b.length = b)
def Was (vs : List (List UInt8)) (gs : List Int) (b : List UInt8) : Prop := ∃ j, WasAt vs gs b j
theorem seen_was (x : Fl) : Was (vers x) (grow x) x.seen := ⟨_, _, vers_last x, .inl rfl⟩
theorem torn_was (x : Fl) (ps : List Int) : Was (vers x) (grow x) (tornS x ps).1 := by
  have hj : modn (pickV ps) (x.chs.length + 1) ≤ x.chs.length := by have := modn_lt (pickV ps) (show 0 < x.chs.length + 1 by omega); omega
  unfold tornS
  generalize modn (pickV ps) (x.chs.length + 1) = j at hj
  refine ⟨j, (x.chs.take j).foldl fdo x.safe, vers_get x hj, ?_⟩
  cases hc : x.chs[j]? with
  | none => exact .inl rfl
  | some c =>
    cases c with
    | inr n => exact .inl rfl
    | inl b =>
      obtain ⟨hl, _⟩ := List.getElem?_eq_some_iff.1 hc
      suffices H : ∀ t : Nat, ((x.chs.take j).foldl fdo x.safe = (x.chs.take j).foldl fdo x.safe ++ b.take t ∨ ∃ y g, (vers x)[j + 1]? = some y ∧ (grow x)[j + 1]? = some g ∧ 0 ≤ g ∧ ((x.chs.take j).foldl fdo x.safe).length < ((x.chs.take j).foldl fdo x.safe ++ b.take t).length ∧ ((x.chs.take j).foldl fdo x.safe ++ b.take t).length ≤ y.length ∧ y.take ((x.chs.take j).foldl fdo x.safe ++ b.take t).length = (x.chs.take j).foldl fdo x.safe ++ b.take t) from H _
      intro t
      by_cases h0 : b.take t = []
      · left; rw [h0, List.append_nil]
      · right
        have hlen : 0 < (b.take t).length := List.length_pos_iff.2 h0
        have hle : (b.take t).length ≤ b.length := by rw [List.length_take]; omega
        have hv : (vers x)[j + 1]? = some ((x.chs.take j).foldl fdo x.safe ++ b) := by
          rw [vers_get x (by omega), List.take_add_one, hc, List.foldl_append]
          rfl
        refine ⟨_, _, hv, grow_get x hc, by simp [growC], by rw [List.length_append]; omega, by rw [List.length_append, List.length_append]; omega, ?_⟩
        show ((x.chs.take j).foldl fdo x.safe ++ b).take ((x.chs.take j).foldl fdo x.safe ++ b.take t).length = _
        rw [List.length_append, List.take_length_add_append]
        congr 1
        rw [List.length_take]
        rcases Nat.le_total t b.length with h | h
        · rw [Nat.min_eq_left h]
        · rw [Nat.min_eq_right h, List.take_of_length_le h, List.take_length]
/-- The directory at every moment since the last SyncDir. -/
def dirAt (s : Dk) (i : Nat) : List KE := (s.dchs.take i).foldl ddo s.safe
theorem dirAt_last (s : Dk) : dirAt s s.dchs.length = s.seen := by unfold dirAt; rw [List.take_length]; rfl
theorem left_at (s : Dk) (ps : List Int) : leftL s ps = dirAt s (modn (pickV ps) (s.dchs.length + 1)) ∧ modn (pickV ps) (s.dchs.length + 1) ≤ s.dchs.length := by
  have := modn_lt (pickV ps) (show 0 < s.dchs.length + 1 by omega)
  exact ⟨rfl, by omega⟩
theorem tornAll_was (s : Dk) : ∀ (l : List KE) (ps : List Int) (i : Nat) (p : KE), l[i]? = some p → ∃ b, (tornAll s l ps).1[i]? = some (p.1, b) ∧ Was (vers (s.fl p.2)) (grow (s.fl p.2)) b
  | [], _, i, p, h => by simp at h
  | q :: r, ps, 0, p, h => by
    simp at h
    subst h
    exact ⟨_, rfl, torn_was (s.fl q.2) ps⟩
  | q :: r, ps, i + 1, p, h => by
    obtain ⟨b, h1, h2⟩ := tornAll_was s r (tornS (s.fl q.2) ps).2 i p (by simpa using h)
    exact ⟨b, h1, h2⟩
/-- What a statement keeps of a script, beside the disk. -/
structure PR (fs : List (List (List UInt8))) (gs : List (List Int)) (ds : List (List KE)) (s : Dk) : Prop where
  hf : fs = s.files.map vers
  hg : gs = s.files.map grow
  len : ds.length = s.dchs.length + 1
  hd : ∀ (i : Nat) (l : List KE), ds[i]? = some l → l.Perm (dirAt s i)
theorem PR.last {fs : List (List (List UInt8))} {gs : List (List Int)} {ds : List (List KE)} {s : Dk} (h : PR fs gs ds s) {l : List KE} (hl : ds[ds.length - 1]? = some l) : l.Perm s.seen := by
  have := h.hd _ l hl
  rw [h.len, Nat.add_sub_cancel, dirAt_last] at this
  exact this
end Go.Proofs.Ytnecafhakkjbpaa
