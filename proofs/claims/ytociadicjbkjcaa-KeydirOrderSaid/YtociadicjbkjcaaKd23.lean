import Derived.Test.YtociadicjbkjcaaKd21
import Derived.Test.YtociadicjbkjcaaKd13
/- Noting: what a dir holds when entries are noted in some order; the order does not matter. -/
namespace Go.Proofs.Ytociadicjbkjcaa
open Go.RowKit Go.Maps

def noteS (xs : List KE) (it : KE) : List KE :=
  if goodB it.1 = true then (match getL it.1 xs with
    | none => putL it.1 it.2 xs
    | some o => if o.off < it.2.off then putL it.1 it.2 xs else xs) else xs
def noteAll (l : List KE) : List KE := l.foldl noteS []
theorem noteAll_snoc (l : List KE) (x : KE) : noteAll (l ++ [x]) = noteS (noteAll l) x := by
  unfold noteAll; rw [List.foldl_append]; rfl
theorem noteS_len (xs : List KE) (it : KE) : (noteS xs it).length ≤ xs.length + 1 := by
  unfold noteS
  split
  · split
    · exact put_len _ _ _
    · split
      · exact put_len _ _ _
      · omega
  · omega
theorem noteS_sorted {xs : List KE} (h : Sorted xs) (it : KE) : Sorted (noteS xs it) := by
  unfold noteS
  split
  · split
    · exact h.put _ _
    · split
      · exact h.put _ _
      · exact h
  · exact h
def NG (l xs : List KE) : Prop := Sorted xs ∧ ∀ key, (getL key xs = none → goodB key = true → ∀ x ∈ l, x.1 ≠ key) ∧
  ∀ e, getL key xs = some e → goodB key = true ∧ (key, e) ∈ l ∧ ∀ e', (key, e') ∈ l → e'.off ≤ e.off
theorem NG.snoc {l xs : List KE} (h : NG l xs) (x : KE) : NG (l ++ [x]) (noteS xs x) := by
  obtain ⟨hs, h⟩ := h
  refine ⟨noteS_sorted hs x, fun key => ?_⟩
  obtain ⟨hn, he⟩ := h key
  by_cases hg : goodB x.1 = true
  · by_cases hk : key = x.1
    · subst hk
      cases hgx : getL x.1 xs with
      | none =>
        have hp : noteS xs x = putL x.1 x.2 xs := by unfold noteS; rw [if_pos hg]; simp only [hgx]
        rw [hp, get_put hs, if_pos rfl]
        refine ⟨fun h => (by cases h), fun e h => ?_⟩
        cases h
        refine ⟨hg, by simp, fun e' h' => ?_⟩
        rcases List.mem_append.1 h' with h' | h'
        · exact absurd rfl (hn hgx hg (x.1, e') h')
        · rw [List.mem_singleton] at h'
          rw [← h']
          exact Int.le_refl _
      | some o =>
        obtain ⟨h1, h2, h3⟩ := he o hgx
        by_cases ho : o.off < x.2.off
        · have hp : noteS xs x = putL x.1 x.2 xs := by unfold noteS; rw [if_pos hg]; simp only [hgx]; rw [if_pos ho]
          rw [hp, get_put hs, if_pos rfl]
          refine ⟨fun h => (by cases h), fun e h => ?_⟩
          cases h
          refine ⟨hg, by simp, fun e' h' => ?_⟩
          rcases List.mem_append.1 h' with h' | h'
          · have := h3 e' h'; omega
          · rw [List.mem_singleton] at h'
            rw [← h']
            exact Int.le_refl _
        · have hp : noteS xs x = xs := by unfold noteS; rw [if_pos hg]; simp only [hgx]; rw [if_neg ho]
          rw [hp, hgx]
          refine ⟨fun h => (by cases h), fun e h => ?_⟩
          cases h
          refine ⟨hg, List.mem_append_left _ h2, fun e' h' => ?_⟩
          rcases List.mem_append.1 h' with h' | h'
          · exact h3 e' h'
          · rw [List.mem_singleton] at h'
            have : e' = x.2 := by rw [← h']
            rw [this]; omega
    · have hx : ¬ x.1 = key := fun e => hk e.symm
      have hgk : getL key (noteS xs x) = getL key xs := by
        unfold noteS
        rw [if_pos hg]
        split
        · rw [get_put hs, if_neg hk]
        · split
          · rw [get_put hs, if_neg hk]
          · rfl
      rw [hgk]
      refine ⟨fun h1 h2 y hy => ?_, fun e h1 => ?_⟩
      · rcases List.mem_append.1 hy with hy | hy
        · exact hn h1 h2 y hy
        · rw [List.mem_singleton] at hy; subst hy; exact hx
      · obtain ⟨a, b, c⟩ := he e h1
        refine ⟨a, List.mem_append_left _ b, fun e' h' => ?_⟩
        rcases List.mem_append.1 h' with h' | h'
        · exact c e' h'
        · rw [List.mem_singleton] at h'
          exact absurd (by rw [← h']) hx
  · have hp : noteS xs x = xs := by unfold noteS; rw [if_neg hg]
    rw [hp]
    have hx : goodB key = true → ¬ x.1 = key := fun h e => hg (by rw [e]; exact h)
    refine ⟨fun h1 h2 y hy => ?_, fun e h1 => ?_⟩
    · rcases List.mem_append.1 hy with hy | hy
      · exact hn h1 h2 y hy
      · rw [List.mem_singleton] at hy; subst hy; exact hx h2
    · obtain ⟨a, b, c⟩ := he e h1
      refine ⟨a, List.mem_append_left _ b, fun e' h' => ?_⟩
      rcases List.mem_append.1 h' with h' | h'
      · exact c e' h'
      · rw [List.mem_singleton] at h'
        exact absurd (by rw [← h']) (hx a)
theorem NG.fold (l : List KE) : ∀ (l0 xs : List KE), NG l0 xs → NG (l0 ++ l) (l.foldl noteS xs) := by
  induction l with
  | nil => intro l0 xs h; simpa using h
  | cons x r ih =>
    intro l0 xs h
    have := ih (l0 ++ [x]) (noteS xs x) (h.snoc x)
    rwa [List.append_assoc] at this
theorem noteAll_ng (l : List KE) : NG l (noteAll l) := by
  have := NG.fold l [] [] ⟨List.Pairwise.nil, fun key => ⟨fun _ _ x hx => (by cases hx), fun e h => by cases h⟩⟩
  rwa [List.nil_append] at this
/-- Entries of unlike offsets: whoever holds the same ones. -/
theorem NG.same {l m xs ys : List KE} (h : NG l xs) (k : NG m ys) (hm : ∀ x, x ∈ l ↔ x ∈ m) (hu : ∀ x ∈ l, ∀ y ∈ l, x.2.off = y.2.off → x = y) : xs = ys := by
  refine Sorted.ext_get h.1 k.1 fun key => ?_
  obtain ⟨h1, h2⟩ := h.2 key
  obtain ⟨k1, k2⟩ := k.2 key
  cases hx : getL key xs with
  | none =>
    cases hy : getL key ys with
    | none => rfl
    | some e =>
      obtain ⟨a, b, _⟩ := k2 e hy
      exact absurd rfl (h1 hx a _ ((hm _).2 b))
  | some e =>
    obtain ⟨a, b, c⟩ := h2 e hx
    cases hy : getL key ys with
    | none => exact absurd rfl (k1 hy a _ ((hm _).1 b))
    | some e' =>
      obtain ⟨a', b', c'⟩ := k2 e' hy
      have e1 := c e' ((hm _).2 b')
      have e2 := c' e ((hm _).1 b)
      have := hu _ b _ ((hm _).2 b') (by show e.off = e'.off; omega)
      injection this with _ this
      rw [this]

def ni (i : Nat) (k : ByteArray) : KE := (k, ⟨(i : Int) * 3, 0, 0, i, 0, false⟩)
def nItems (l : List ByteArray) : List KE := l.mapIdx ni
theorem nItems_len (l : List ByteArray) : (nItems l).length = l.length := by simp [nItems]
theorem nItems_get (l : List ByteArray) (i : Nat) (h : i < l.length) : (nItems l)[i]'(by rw [nItems_len]; exact h) = ni i l[i] := by simp [nItems]
theorem nItems_mem {l : List ByteArray} {x : KE} (h : x ∈ nItems l) : ∃ (i : Nat) (hi : i < l.length), x = ni i l[i] := by
  obtain ⟨i, hi, he⟩ := List.getElem_of_mem h
  rw [nItems_len] at hi
  exact ⟨i, hi, by rw [← he, nItems_get l i hi]⟩
theorem nItems_off {l : List ByteArray} : ∀ x ∈ nItems l, ∀ y ∈ nItems l, x.2.off = y.2.off → x = y := by
  intro x hx y hy h
  obtain ⟨i, hi, rfl⟩ := nItems_mem hx
  obtain ⟨j, hj, rfl⟩ := nItems_mem hy
  have h' : (i : Int) = (j : Int) := h
  have : i = j := by omega
  subst this
  rfl
theorem nItems_take_mem {l : List ByteArray} {k : Nat} {x : KE} (h : x ∈ (nItems l).take k) : x.2.off < (k : Int) := by
  obtain ⟨i, hi, he⟩ := List.getElem_of_mem h
  rw [List.getElem_take] at he
  have hi' : i < k ∧ i < l.length := by rw [List.length_take, nItems_len] at hi; omega
  rw [nItems_get l i hi'.2] at he
  rw [← he]
  show (i : Int) < k
  omega
theorem lastL_mem {key : ByteArray} {l : List KE} {e : En} (h : lastL key l = some e) : (key, e) ∈ l := by
  unfold lastL at h
  cases hf : l.reverse.find? (fun x => decide (x.1 = key)) with
  | none => rw [hf] at h; cases h
  | some y =>
    rw [hf] at h
    have h1 := List.mem_of_find?_eq_some hf
    have h2 := List.find?_some hf
    simp at h h1 h2
    subst h h2
    exact h1
/-- What the dir holds of a key ahead of the k-th item has a smaller offset. -/
theorem build_off (l : List ByteArray) (key : ByteArray) (k : Nat) (hk : k ≤ l.length) (o : En) (h : getL key (build ((nItems l).take k)) = some o) : o.off < (k : Int) := by
  rw [(build_get key (nItems l) k (by rw [nItems_len]; exact hk)).2] at h
  unfold lastB at h
  split at h
  · exact nItems_take_mem (lastL_mem h)
  · cases h
theorem noteS_build (l : List ByteArray) (k : Nat) (hk : k < l.length) : noteS (build ((nItems l).take k)) (ni k l[k]) = bstep (build ((nItems l).take k)) (ni k l[k]) := by
  unfold noteS bstep
  split
  · split
    · rfl
    · rename_i o ho
      exact if_pos (build_off l _ k (by omega) o ho)
  · rfl
theorem noteAll_build (l : List ByteArray) : ∀ k, k ≤ l.length → noteAll ((nItems l).take k) = build ((nItems l).take k) := by
  intro k
  induction k with
  | zero => intro _; simp [noteAll, build]
  | succ k ih =>
    intro h
    rw [take_snoc (nItems l) k (by rw [nItems_len]; omega), noteAll_snoc, ih (by omega), ← take_snoc (nItems l) k (by rw [nItems_len]; omega), build_snoc (nItems l) k (by rw [nItems_len]; omega), nItems_get l k (by omega), noteS_build l k (by omega)]
theorem note_same (l : List ByteArray) (m : List KE) (hm : ∀ x, x ∈ m ↔ x ∈ nItems l) : noteAll m = build (nItems l) := by
  have h := noteAll_build l l.length (Nat.le_refl _)
  rw [List.take_of_length_le (by rw [nItems_len]; exact Nat.le_refl _)] at h
  rw [← h]
  exact NG.same (noteAll_ng m) (noteAll_ng (nItems l)) hm (fun x hx y hy e => nItems_off x ((hm x).1 hx) y ((hm y).1 hy) e)

theorem note_un (d : Nat) (key : ByteArray) (en : En) (xs : List KE) (w : World) (h : DR w d xs) (hz : key.size ≤ maxLen) (hc : xs.length ≤ 800000000000000) :
    Calls Try.prog 10 #[.pointer (some ⟨d, 0, none⟩), .string key, en.v] w fun e w' => (∃ v, e = .returned v) ∧ DR w' d (noteS xs (key, en)) ∧ Dch d w w' := by
  unfold noteS
  by_cases hg : goodB key = true
  · rw [if_pos hg]
    have hk : 1 ≤ key.size ∧ key.size ≤ 64 := by simpa [goodB] using hg
    cases ho : getL key xs with
    | none =>
      exact (note_none d key en xs w h hk hc ho).mono fun e w' ⟨h1, h2, h3⟩ => ⟨⟨_, h1⟩, h2, h3⟩
    | some o =>
      show Calls _ _ _ _ fun e w' => (∃ v, e = .returned v) ∧ DR w' d (if o.off < en.off then putL key en xs else xs) ∧ Dch d w w'
      by_cases hlt : o.off < en.off
      · rw [if_pos hlt]
        exact (note_more d key en xs w h hk hc o ho hlt).mono fun e w' ⟨h1, h2, h3⟩ => ⟨⟨_, h1⟩, h2, h3⟩
      · rw [if_neg hlt]
        exact (note_less d key en xs w h hk o ho (by omega)).mono fun e w' ⟨h1, h2⟩ => ⟨⟨_, h1⟩, h.next h2, Chg.of_below h2 _⟩
  · rw [if_neg hg]
    exact (note_bad d key en w (by simpa [goodB] using hg) hz).mono fun e w' ⟨h1, h2⟩ => ⟨⟨_, h1⟩, h.next h2, Chg.of_below h2 _⟩
/-- Noting what is later than all that is there. -/
theorem note_up (b : Bool) (c : Int) (d : Nat) (key : ByteArray) (en : En) (xs : List KE) (w : World) (hg : goodB key = b) (hcd : c = if b = true then 0 else 42) (h : DR w d xs) (hz : key.size ≤ maxLen) (hc : xs.length ≤ 800000000000000) (hup : ∀ o, getL key xs = some o → o.off < en.off) :
    Calls Try.prog 10 #[.pointer (some ⟨d, 0, none⟩), .string key, en.v] w fun e w' => e = .returned (.tuple #[.bool b, .int .i64 c]) ∧ DR w' d (bstep xs (key, en)) ∧ Dch d w w' := by
  unfold bstep
  subst hcd
  cases b with
  | true =>
    rw [if_pos hg, if_pos rfl]
    have hk : 1 ≤ key.size ∧ key.size ≤ 64 := by simpa [goodB] using hg
    cases ho : getL key xs with
    | none => exact (note_none d key en xs w h hk hc ho).mono fun e w' ⟨h1, h2, h3⟩ => ⟨h1, h2, h3⟩
    | some o => exact (note_more d key en xs w h hk hc o ho (hup o ho)).mono fun e w' ⟨h1, h2, h3⟩ => ⟨h1, h2, h3⟩
  | false =>
    rw [if_neg (by decide : ¬ (false = true)), if_neg (by show ¬ goodB key = true; rw [hg]; decide)]
    exact (note_bad d key en w (by simpa [goodB] using hg) hz).mono fun e w' ⟨h1, h2⟩ => ⟨h1, h.next h2, Chg.of_below h2 _⟩

set_option maxRecDepth 100000 in
theorem mod_any (x : Int) (n : Nat) (hn : 0 < n) (hmx : n ≤ 4611686018427387904) (w : World) :
    Calls Try.prog 12 #[.int .i64 x, .int .i64 n] w fun e w' => (∃ r : Nat, r < n ∧ e = .returned (.int .i64 r)) ∧ w = w' := by
  go_enter Try.func12, Try.ntmps12
  have h1 := Int.tmod_add_mul_tdiv x n
  have hn' : (0 : Int) < n := by omega
  have h2 : x.tmod n < n := Int.tmod_lt_of_pos x hn'
  have h3 : -(n : Int) < x.tmod n := by
    have := Int.tmod_lt_of_pos (-x) hn'
    rw [Int.neg_tmod] at this
    omega
  clear h1
  go_wp2
  · go_ret
    refine ⟨⟨(x.tmod n + n).toNat, ?_, ?_⟩, rfl⟩
    · generalize x.tmod n = r at *
      omega
    · generalize x.tmod n = r at *
      go_num
  · go_ret
    refine ⟨⟨(x.tmod n).toNat, ?_, ?_⟩, rfl⟩
    · generalize x.tmod n = r at *
      omega
    · generalize x.tmod n = r at *
      go_num
end Go.Proofs.Ytociadicjbkjcaa
