import Derived.Test.YtnecafhakkjbpaaSm33
/- The disk that Load makes of an image: plain laws. -/
namespace Go.Proofs.Ytnecafhakkjbpaa
open Go.RowKit Go.Maps

abbrev FE := ByteArray × List UInt8
def ldStep (s : Dk) (p : FE) : Dk := { s with files := s.files ++ [⟨p.2, []⟩], safe := putL p.1 s.files.length s.safe, used := s.used + p.2.length }
def ldS (q : Int) (fs : List FE) : Dk := fs.foldl ldStep (Dk.fresh q)
theorem ldS_snoc (q : Int) (fs : List FE) (p : FE) : ldS q (fs ++ [p]) = ldStep (ldS q fs) p := by unfold ldS; rw [List.foldl_append]; rfl
/-- Names rise. -/
def Asc (fs : List FE) : Prop := fs.Pairwise fun a b => kc a.1 b.1 = -1
def ldL : List FE → Nat → List KE
  | [], _ => []
  | p :: r, k => (p.1, k) :: ldL r (k + 1)
theorem ldL_snoc : ∀ (fs : List FE) (p : FE) (k : Nat), ldL (fs ++ [p]) k = ldL fs k ++ [(p.1, k + fs.length)]
  | [], p, k => rfl
  | x :: r, p, k => by
    show (x.1, k) :: ldL (r ++ [p]) (k + 1) = _
    rw [ldL_snoc r p (k + 1)]
    show _ = (x.1, k) :: (ldL r (k + 1) ++ [(p.1, k + (r.length + 1))])
    rw [show k + 1 + r.length = k + (r.length + 1) by omega]
theorem ldL_mem : ∀ (fs : List FE) (k : Nat) (x : KE), x ∈ ldL fs k → (∃ p ∈ fs, p.1 = x.1) ∧ k ≤ x.2 ∧ x.2 < k + fs.length
  | [], _, x, h => by cases h
  | p :: r, k, x, h => by
    rcases List.mem_cons.1 h with rfl | h
    · exact ⟨⟨p, List.mem_cons_self, rfl⟩, Nat.le_refl _, by simp⟩
    · obtain ⟨⟨y, hy, e⟩, h1, h2⟩ := ldL_mem r (k + 1) x h
      exact ⟨⟨y, List.mem_cons_of_mem _ hy, e⟩, Nat.le_of_succ_le h1, Nat.lt_of_lt_of_eq h2 (by rw [List.length_cons]; omega)⟩
theorem ldL_len : ∀ (fs : List FE) (k : Nat), (ldL fs k).length = fs.length
  | [], _ => rfl
  | p :: r, k => by show (ldL r (k + 1)).length + 1 = _; rw [ldL_len r]; rfl
theorem ldL_sorted : ∀ {fs : List FE} (k : Nat), Asc fs → Sorted (ldL fs k)
  | [], _, _ => List.Pairwise.nil
  | p :: r, k, h => by
    obtain ⟨h1, h2⟩ := List.pairwise_cons.1 h
    refine List.pairwise_cons.2 ⟨fun x hx => ?_, ldL_sorted (k + 1) h2⟩
    obtain ⟨⟨y, hy, e⟩, _⟩ := ldL_mem r (k + 1) x hx
    rw [← e]
    exact h1 y hy
theorem ldL_ids : ∀ (fs : List FE) (k : Nat), ((ldL fs k).map fun p : KE => p.2).Nodup
  | [], _ => List.nodup_nil
  | p :: r, k => by
    refine List.nodup_cons.2 ⟨fun hm => ?_, ldL_ids r (k + 1)⟩
    obtain ⟨x, hx, e⟩ := List.mem_map.1 hm
    have := (ldL_mem r (k + 1) x hx).2
    simp only at e
    rw [e] at this
    exact Nat.not_succ_le_self _ this.1
theorem put_last {l : List KE} {n : ByteArray} {k : Nat} (hs : Sorted l) (h : ∀ x ∈ l, kc x.1 n = -1) : putL n k l = l ++ [(n, k)] := by
  have h2 : Sorted (l ++ [(n, k)]) := by
    refine List.pairwise_append.2 ⟨hs, List.pairwise_singleton _ _, fun a ha b hb => ?_⟩
    obtain rfl : b = (n, k) := by simpa using hb
    exact h a ha
  refine (hs.put n k).ext h2 fun x => ?_
  rw [mem_put, List.mem_append, List.mem_singleton]
  constructor
  · rintro (h3 | h3)
    · exact .inr h3
    · exact .inl h3.1
  · rintro (h3 | h3)
    · refine .inr ⟨h3, fun e => ?_⟩
      have := h x h3
      rw [e, kc_self] at this
      exact absurd this (by decide)
    · exact .inl h3
theorem asc_take {fs : List FE} (h : Asc fs) (i : Nat) : Asc (fs.take i) := List.Pairwise.sublist (List.take_sublist _ _) h
theorem ld_facts (q : Int) : ∀ (fs : List FE), Asc fs → (ldS q fs).safe = ldL fs 0 ∧ (ldS q fs).files = fs.map (fun p => (⟨p.2, []⟩ : Fl)) ∧ (ldS q fs).dchs = [] ∧ (ldS q fs).used = (sumL fs : Nat) ∧ (ldS q fs).quota = q ∧ (ldS q fs).fuse = -1 ∧ (ldS q fs).dead = false ∧ (ldS q fs).ops = 0 := by
  intro fs
  generalize hn : fs.length = n
  induction n generalizing fs with
  | zero =>
    intro _
    obtain rfl := List.length_eq_zero_iff.1 hn
    exact ⟨rfl, rfl, rfl, rfl, rfl, rfl, rfl, rfl⟩
  | succ n ih =>
    intro ha
    obtain ⟨r, p, rfl⟩ : ∃ r p, fs = r ++ [p] := ⟨fs.dropLast, fs.getLast (by intro e; subst e; cases hn), (List.dropLast_concat_getLast _).symm⟩
    obtain ⟨ha1, _, ha2⟩ := List.pairwise_append.1 ha
    obtain ⟨h1, h2, h3, h4, h5, h6, h7, h8⟩ := ih r (by simpa using hn) ha1
    rw [ldS_snoc]
    have hfl : (ldS q r).files.length = r.length := by rw [h2, List.length_map]
    refine ⟨?_, ?_, h3, ?_, h5, h6, h7, h8⟩
    · show putL p.1 (ldS q r).files.length (ldS q r).safe = _
      rw [h1, hfl, ldL_snoc, put_last (ldL_sorted 0 ha1) (fun x hx => ?_)]
      · simp
      · obtain ⟨⟨y, hy, e⟩, _⟩ := ldL_mem r 0 x hx
        rw [← e]
        exact ha2 y hy p (by simp)
    · show (ldS q r).files ++ [_] = _
      rw [h2, List.map_append]
      rfl
    · show (ldS q r).used + _ = _
      rw [h4, sumL_snoc]
      omega
theorem ldL_image : ∀ (fs : List FE) (k : Nat) (g : Nat → List UInt8), (∀ j p, fs[j]? = some p → g (k + j) = p.2) → (ldL fs k).map (fun x : KE => (x.1, g x.2)) = fs
  | [], _, _, _ => rfl
  | p :: r, k, g, h => by
    show (p.1, g k) :: (ldL r (k + 1)).map _ = _
    rw [ldL_image r (k + 1) g fun j x hx => by rw [show k + 1 + j = k + (j + 1) by omega]; exact h (j + 1) x (by simpa using hx)]
    have := h 0 p rfl
    rw [Nat.add_zero] at this
    rw [this]
theorem ld_image (q : Int) (fs : List FE) (ha : Asc fs) : imageL (ldS q fs) = fs := by
  obtain ⟨h1, h2, h3, _⟩ := ld_facts q fs ha
  unfold imageL
  have hs : (ldS q fs).seen = ldL fs 0 := by unfold Dk.seen; rw [h3, h1]; rfl
  rw [hs]
  refine ldL_image fs 0 (fun k => ((ldS q fs).fl k).seen) fun j p hp => ?_
  have : (ldS q fs).fl (0 + j) = ⟨p.2, []⟩ := by
    unfold Dk.fl
    rw [h2, Nat.zero_add, List.getD_eq_getElem?_getD, List.getElem?_map, hp]
    rfl
  rw [this]
  rfl
/-- What an image must be for Load. -/
structure LdOk (q : Int) (fs : List FE) : Prop where
  q : 0 ≤ q ∧ q ≤ 1073741824
  asc : Asc fs
  names : ∀ p ∈ fs, goodN p.1 = true
  few : fs.length ≤ 65536
  sum : sumL fs ≤ 1073741824
theorem sumL_mem {fs : List FE} {p : FE} (h : p ∈ fs) : p.2.length ≤ sumL fs := by
  obtain ⟨i, hi, rfl⟩ := List.getElem_of_mem h
  have e := List.take_append_drop i fs
  have h1 : sumL fs = sumL (fs.take i) + sumL (fs.drop i) := by
    conv => lhs; rw [← e]
    unfold sumL
    rw [List.map_append, List.sum_append]
  rw [List.drop_eq_getElem_cons hi] at h1
  simp only [sumL, List.map_cons, List.sum_cons] at h1 ⊢
  omega
theorem ld_inv {q : Int} {fs : List FE} (h : LdOk q fs) {N : Nat} (hN : fs.length ≤ N) : (ldS q fs).Inv N := by
  obtain ⟨h1, h2, h3, h4, h5, h6, h7, h8⟩ := ld_facts q fs h.asc
  have hseen : (ldS q fs).seen = ldL fs 0 := by unfold Dk.seen; rw [h3, h1]; rfl
  have hlen : (ldS q fs).files.length = fs.length := by rw [h2, List.length_map]
  refine ⟨⟨by rw [h1]; exact ldL_sorted 0 h.asc, by rw [h3]; trivial, fun p hp => ?_, fun c hc => (by rw [h3] at hc; cases hc), fun x hx => ?_⟩, ⟨by rw [h1, h3, ldL_len]; simpa using hN, fun x hx => ?_, fun x hx => ?_⟩, ⟨by rw [h5]; exact h.q, ⟨by rw [h4]; omega, by rw [h4]; have := h.sum; omega⟩, by rw [h6]; decide, by rw [h8]; omega⟩, ?_, by rw [h4]; have := h.sum; omega, by rw [hseen]; exact ldL_ids fs 0, fun p hp => ?_, fun n f hf => by rw [h3] at hf; cases hf⟩
  · rw [h1] at hp
    obtain ⟨⟨y, hy, e⟩, _⟩ := ldL_mem fs 0 p hp
    rw [← e]; exact h.names y hy
  · rw [h2] at hx
    obtain ⟨y, _, rfl⟩ := List.mem_map.1 hx
    trivial
  · rw [h2] at hx
    obtain ⟨y, _, rfl⟩ := List.mem_map.1 hx
    exact Nat.zero_le _
  · rw [h2] at hx
    obtain ⟨y, hy, rfl⟩ := List.mem_map.1 hx
    intro i
    have h1 := sumL_mem hy
    have h2 := h.sum
    simp
    omega
  · rw [h4, ← sum_image, ld_image q fs h.asc]
  · rw [h1] at hp
    rw [hlen]
    exact Nat.lt_of_lt_of_eq (ldL_mem fs 0 p hp).2.2 (Nat.zero_add _)
end Go.Proofs.Ytnecafhakkjbpaa
