import Derived.Test.YtebeefkibbbkdaaSm0
import Derived.Test.YtebeefkibbbkdaaMem
namespace Go.Proofs.Ytebeefkibbbkdaa
open Go.RowKit Go.Maps

/-! Names in order, each with the number of a file: a sorted list. No program in sight. -/
/-- A file's number. -/
abbrev En := Nat
def En.zero : En := 0
abbrev KE := ByteArray × En
def kc (a b : ByteArray) : Int := cmpB a.data.toList b.data.toList
theorem cmpB_trans : ∀ {a b c : List UInt8}, cmpB a b = -1 → cmpB b c = -1 → cmpB a c = -1
  | [], [], _, h, _ => by simp [cmpB] at h
  | [], _ :: _, [], _, h => by simp [cmpB] at h
  | [], _ :: _, _ :: _, _, _ => rfl
  | _ :: _, [], _, h, _ => by simp [cmpB] at h
  | _ :: _, _ :: _, [], _, h => by simp [cmpB] at h
  | x :: a, y :: b, z :: c, h1, h2 => by
    simp only [cmpB] at h1 h2 ⊢
    by_cases p1 : x.toNat < y.toNat
    · by_cases q1 : y.toNat < z.toNat
      · rw [if_pos (by omega)]
      · rw [if_neg q1] at h2
        by_cases q2 : z.toNat < y.toNat
        · rw [if_pos q2] at h2; cases h2
        · rw [if_pos (by omega)]
    · rw [if_neg p1] at h1
      by_cases p2 : y.toNat < x.toNat
      · rw [if_pos p2] at h1; cases h1
      · rw [if_neg p2] at h1
        by_cases q1 : y.toNat < z.toNat
        · rw [if_pos (by omega)]
        · rw [if_neg q1] at h2
          by_cases q2 : z.toNat < y.toNat
          · rw [if_pos q2] at h2; cases h2
          · rw [if_neg q2] at h2
            rw [if_neg (by omega), if_neg (by omega)]
            exact cmpB_trans h1 h2
theorem kc_trans {a b c : ByteArray} (h : kc a b = -1) (k : kc b c = -1) : kc a c = -1 := cmpB_trans h k
theorem kc_self (a : ByteArray) : kc a a = 0 := cmpB_self _
theorem kc_eq {a b : ByteArray} (h : kc a b = 0) : a = b := by
  have := cmpB_eq h
  cases a with | mk a => cases b with | mk b => cases a with | mk a => cases b with | mk b => simp only at this; rw [this]
theorem kc_swap (a b : ByteArray) : kc b a = - kc a b := cmpB_swap _ _
theorem kc_range (a b : ByteArray) : kc a b = -1 ∨ kc a b = 0 ∨ kc a b = 1 := cmpB_range _ _
theorem kc_ne {a b : ByteArray} (h : kc a b ≠ 0) : a ≠ b := fun e => h (by rw [e]; exact kc_self _)

def Sorted (xs : List KE) : Prop := xs.Pairwise fun a b => kc a.1 b.1 = -1
def lo (k : ByteArray) (xs : List KE) : List KE := xs.filter fun x => kc x.1 k == -1
def hi (k : ByteArray) (xs : List KE) : List KE := xs.filter fun x => kc k x.1 == -1
def putL (k : ByteArray) (e : En) (xs : List KE) : List KE := lo k xs ++ (k, e) :: hi k xs
def delL (k : ByteArray) (xs : List KE) : List KE := lo k xs ++ hi k xs
def getL (k : ByteArray) (xs : List KE) : Option En := (xs.find? fun x => decide (x.1 = k)).map (·.2)
/-- Each name is short. -/
def KeysOk (xs : List KE) : Prop := ∀ x ∈ xs, 1 ≤ x.1.size ∧ x.1.size ≤ 32

section
variable {k k0 : ByteArray} {e e0 : En} {l r xs ys : List KE}
theorem filter_all {p : KE → Bool} (h : ∀ x ∈ xs, p x = true) : xs.filter p = xs := List.filter_eq_self.2 h
theorem filter_none {p : KE → Bool} (h : ∀ x ∈ xs, p x = false) : xs.filter p = [] := List.filter_eq_nil_iff.2 fun x hx => by rw [h x hx]; simp
theorem Sorted.parts (h : Sorted (l ++ (k0, e0) :: r)) : Sorted l ∧ Sorted r ∧ (∀ x ∈ l, kc x.1 k0 = -1) ∧ (∀ x ∈ r, kc k0 x.1 = -1) ∧ ∀ x ∈ l, ∀ y ∈ r, kc x.1 y.1 = -1 := by
  obtain ⟨h1, h2, h3⟩ := List.pairwise_append.1 h
  obtain ⟨h4, h5⟩ := List.pairwise_cons.1 h2
  exact ⟨h1, h5, fun x hx => h3 x hx (k0, e0) (by simp), fun x hx => h4 x hx, fun x hx y hy => h3 x hx y (by simp [hy])⟩
theorem Sorted.mk' (h1 : Sorted l) (h2 : Sorted r) (h3 : ∀ x ∈ l, kc x.1 k0 = -1) (h4 : ∀ x ∈ r, kc k0 x.1 = -1) : Sorted (l ++ (k0, e0) :: r) :=
  List.pairwise_append.2 ⟨h1, List.pairwise_cons.2 ⟨fun x hx => h4 x hx, h2⟩, fun x hx y hy => by
    rcases List.mem_cons.1 hy with rfl | hy
    · exact h3 x hx
    · exact kc_trans (h3 x hx) (h4 y hy)⟩
theorem lo_less (h : Sorted (l ++ (k0, e0) :: r)) (hk : kc k k0 = -1) : lo k (l ++ (k0, e0) :: r) = lo k l ∧ hi k (l ++ (k0, e0) :: r) = hi k l ++ (k0, e0) :: r := by
  obtain ⟨_, _, h3, h4, _⟩ := h.parts
  have hs := kc_swap k k0
  constructor
  · unfold lo
    rw [List.filter_append, List.filter_cons, if_neg (by simp only [beq_iff_eq]; omega), filter_none (xs := r), List.append_nil]
    intro x hx
    have := kc_trans hk (h4 x hx)
    have := kc_swap k x.1
    simp only [beq_eq_false_iff_ne]; omega
  · unfold hi
    rw [List.filter_append, List.filter_cons, if_pos (by simpa using hk), filter_all (xs := r)]
    intro x hx
    have := kc_trans hk (h4 x hx)
    simpa using this
theorem lo_more (h : Sorted (l ++ (k0, e0) :: r)) (hk : kc k k0 = 1) : lo k (l ++ (k0, e0) :: r) = l ++ (k0, e0) :: lo k r ∧ hi k (l ++ (k0, e0) :: r) = hi k r := by
  obtain ⟨_, _, h3, h4, _⟩ := h.parts
  have hs := kc_swap k k0
  have hk' : kc k0 k = -1 := by omega
  constructor
  · unfold lo
    rw [List.filter_append, List.filter_cons, if_pos (by simpa using hk'), filter_all (xs := l)]
    intro x hx
    have := kc_trans (h3 x hx) hk'
    simpa using this
  · unfold hi
    rw [List.filter_append, List.filter_cons, if_neg (by simp only [beq_iff_eq]; omega), filter_none (xs := l), List.nil_append]
    intro x hx
    have := kc_trans (h3 x hx) hk'
    have := kc_swap x.1 k
    simp only [beq_eq_false_iff_ne]; omega
theorem lo_same (h : Sorted (l ++ (k, e0) :: r)) : lo k (l ++ (k, e0) :: r) = l ∧ hi k (l ++ (k, e0) :: r) = r := by
  obtain ⟨_, _, h3, h4, _⟩ := h.parts
  have hz := kc_self k
  constructor
  · unfold lo
    rw [List.filter_append, List.filter_cons, if_neg (by simp only [beq_iff_eq]; omega), filter_all (fun x hx => by simpa using h3 x hx), filter_none (xs := r), List.append_nil]
    intro x hx
    have := h4 x hx
    have := kc_swap k x.1
    simp only [beq_eq_false_iff_ne]; omega
  · unfold hi
    rw [List.filter_append, List.filter_cons, if_neg (by simp only [beq_iff_eq]; omega), filter_none (xs := l), List.nil_append, filter_all (fun x hx => by simpa using h4 x hx)]
    intro x hx
    have := h3 x hx
    have := kc_swap x.1 k
    simp only [beq_eq_false_iff_ne]; omega
theorem put_nil (k : ByteArray) (e : En) : putL k e [] = [(k, e)] := rfl
theorem put_less (h : Sorted (l ++ (k0, e0) :: r)) (hk : kc k k0 = -1) : putL k e (l ++ (k0, e0) :: r) = putL k e l ++ (k0, e0) :: r := by
  obtain ⟨h1, h2⟩ := lo_less h hk
  unfold putL; rw [h1, h2]; simp
theorem put_more (h : Sorted (l ++ (k0, e0) :: r)) (hk : kc k k0 = 1) : putL k e (l ++ (k0, e0) :: r) = l ++ (k0, e0) :: putL k e r := by
  obtain ⟨h1, h2⟩ := lo_more h hk
  unfold putL; rw [h1, h2]; simp
theorem put_same (h : Sorted (l ++ (k, e0) :: r)) : putL k e (l ++ (k, e0) :: r) = l ++ (k, e) :: r := by
  obtain ⟨h1, h2⟩ := lo_same h
  unfold putL; rw [h1, h2]
theorem del_less (h : Sorted (l ++ (k0, e0) :: r)) (hk : kc k k0 = -1) : delL k (l ++ (k0, e0) :: r) = delL k l ++ (k0, e0) :: r := by
  obtain ⟨h1, h2⟩ := lo_less h hk
  unfold delL; rw [h1, h2]; simp
theorem del_more (h : Sorted (l ++ (k0, e0) :: r)) (hk : kc k k0 = 1) : delL k (l ++ (k0, e0) :: r) = l ++ (k0, e0) :: delL k r := by
  obtain ⟨h1, h2⟩ := lo_more h hk
  unfold delL; rw [h1, h2]; simp
theorem del_same (h : Sorted (l ++ (k, e0) :: r)) : delL k (l ++ (k, e0) :: r) = l ++ r := by
  obtain ⟨h1, h2⟩ := lo_same h
  unfold delL; rw [h1, h2]
theorem Sorted.one (h : Sorted xs) {a b : En} (ha : (k, a) ∈ xs) (hb : (k, b) ∈ xs) : a = b := by
  induction xs with
  | nil => cases ha
  | cons x xs ih =>
    obtain ⟨h1, h2⟩ := List.pairwise_cons.1 h
    rcases List.mem_cons.1 ha with rfl | ha'
    · rcases List.mem_cons.1 hb with hb' | hb'
      · cases hb'; rfl
      · have := h1 _ hb'; rw [kc_self] at this; cases this
    · rcases List.mem_cons.1 hb with rfl | hb'
      · have := h1 _ ha'; rw [kc_self] at this; cases this
      · exact ih h2 ha' hb'
theorem get_mem (h : Sorted xs) : getL k xs = some e ↔ (k, e) ∈ xs := by
  unfold getL
  constructor
  · intro hg
    rw [Option.map_eq_some_iff] at hg
    obtain ⟨⟨k', e'⟩, h1, rfl⟩ := hg
    have h2 := List.find?_some h1
    simp only [decide_eq_true_eq] at h2
    subst h2
    exact List.mem_of_find?_eq_some h1
  · intro hm
    cases hf : xs.find? fun x => decide (x.1 = k) with
    | none =>
      have := List.find?_eq_none.1 hf _ hm
      simp at this
    | some y =>
      have h2 := List.find?_some hf
      simp only [decide_eq_true_eq] at h2
      obtain ⟨k', e'⟩ := y
      simp only at h2
      subst h2
      rw [Option.map_some, h.one (List.mem_of_find?_eq_some hf) hm]
theorem get_none : getL k xs = none ↔ ∀ x ∈ xs, x.1 ≠ k := by
  unfold getL
  rw [Option.map_eq_none_iff, List.find?_eq_none]
  simp
theorem mem_lo {x : KE} : x ∈ lo k xs ↔ x ∈ xs ∧ kc x.1 k = -1 := by simp [lo]
theorem mem_hi {x : KE} : x ∈ hi k xs ↔ x ∈ xs ∧ kc k x.1 = -1 := by simp [hi]
theorem ne_kc {a b : ByteArray} : a ≠ b ↔ kc a b = -1 ∨ kc b a = -1 := by
  have := kc_swap a b
  constructor
  · intro h
    rcases kc_range a b with h1 | h1 | h1
    · exact .inl h1
    · exact absurd (kc_eq h1) h
    · exact .inr (by omega)
  · rintro (h | h) rfl
    · rw [kc_self] at h; cases h
    · rw [kc_self] at h; cases h
theorem mem_del {x : KE} : x ∈ delL k xs ↔ x ∈ xs ∧ x.1 ≠ k := by
  unfold delL
  rw [List.mem_append, mem_lo, mem_hi, ne_kc]
  constructor
  · rintro (⟨h1, h2⟩ | ⟨h1, h2⟩)
    · exact ⟨h1, .inl h2⟩
    · exact ⟨h1, .inr h2⟩
  · rintro ⟨h1, h2 | h2⟩
    · exact .inl ⟨h1, h2⟩
    · exact .inr ⟨h1, h2⟩
theorem mem_put {x : KE} : x ∈ putL k e xs ↔ x = (k, e) ∨ (x ∈ xs ∧ x.1 ≠ k) := by
  rw [← mem_del]
  unfold putL delL
  simp only [List.mem_append, List.mem_cons]
  constructor
  · rintro (h | h | h)
    · exact .inr (.inl h)
    · exact .inl h
    · exact .inr (.inr h)
  · rintro (h | h | h)
    · exact .inr (.inl h)
    · exact .inl h
    · exact .inr (.inr h)
theorem Sorted.filter (h : Sorted xs) (p : KE → Bool) : Sorted (xs.filter p) := List.Pairwise.filter p h
theorem Sorted.put (h : Sorted xs) (k : ByteArray) (e : En) : Sorted (putL k e xs) :=
  Sorted.mk' (h.filter _) (h.filter _) (fun _ hx => (mem_lo.1 hx).2) fun _ hx => (mem_hi.1 hx).2
theorem Sorted.del (h : Sorted xs) (k : ByteArray) : Sorted (delL k xs) :=
  List.pairwise_append.2 ⟨h.filter _, h.filter _, fun _ hx _ hy => kc_trans (mem_lo.1 hx).2 (mem_hi.1 hy).2⟩
theorem KeysOk.put (h : KeysOk xs) (hk : 1 ≤ k.size ∧ k.size ≤ 32) : KeysOk (putL k e xs) := fun x hx => by
  rcases mem_put.1 hx with rfl | ⟨hx, _⟩
  · exact hk
  · exact h x hx
theorem KeysOk.del (h : KeysOk xs) : KeysOk (delL k xs) := fun x hx => h x (mem_del.1 hx).1
theorem get_put (h : Sorted xs) (k' : ByteArray) : getL k' (putL k e xs) = if k' = k then some e else getL k' xs := by
  split
  · rename_i hk
    subst hk
    exact (get_mem (h.put _ _)).2 (mem_put.2 (.inl rfl))
  · rename_i hk
    cases hg : getL k' xs with
    | none =>
      rw [get_none] at hg ⊢
      intro x hx
      rcases mem_put.1 hx with rfl | ⟨hx, _⟩
      · exact fun e => hk e.symm
      · exact hg x hx
    | some a => exact (get_mem (h.put _ _)).2 (mem_put.2 (.inr ⟨(get_mem h).1 hg, hk⟩))
theorem get_del (h : Sorted xs) (k' : ByteArray) : getL k' (delL k xs) = if k' = k then none else getL k' xs := by
  split
  · rename_i hk
    subst hk
    rw [get_none]
    exact fun x hx => (mem_del.1 hx).2
  · rename_i hk
    cases hg : getL k' xs with
    | none =>
      rw [get_none] at hg ⊢
      exact fun x hx => hg x (mem_del.1 hx).1
    | some a => exact (get_mem (h.del _)).2 (mem_del.2 ⟨(get_mem h).1 hg, hk⟩)
/-- Two sorted lists that answer alike are one. -/
theorem Sorted.ext : ∀ {xs ys : List KE}, Sorted xs → Sorted ys → (∀ x, x ∈ xs ↔ x ∈ ys) → xs = ys
  | [], [], _, _, _ => rfl
  | [], y :: _, _, _, h => by have := (h y).2 (by simp); cases this
  | x :: _, [], _, _, h => by have := (h x).1 (by simp); cases this
  | x :: xs, y :: ys, h1, h2, h => by
    obtain ⟨a1, a2⟩ := List.pairwise_cons.1 h1
    obtain ⟨b1, b2⟩ := List.pairwise_cons.1 h2
    have hxy : x = y := by
      rcases List.mem_cons.1 ((h x).1 (by simp)) with e | hx
      · exact e
      · rcases List.mem_cons.1 ((h y).2 (by simp)) with e | hy
        · exact e.symm
        · have := kc_trans (a1 y hy) (b1 x hx)
          rw [kc_self] at this; cases this
    subst hxy
    rw [Sorted.ext a2 b2 fun z => ?_]
    constructor
    · intro hz
      rcases List.mem_cons.1 ((h z).1 (by simp [hz])) with rfl | hz'
      · have := a1 z hz; rw [kc_self] at this; cases this
      · exact hz'
    · intro hz
      rcases List.mem_cons.1 ((h z).2 (by simp [hz])) with rfl | hz'
      · have := b1 z hz; rw [kc_self] at this; cases this
      · exact hz'
theorem Sorted.ext_get (h1 : Sorted xs) (h2 : Sorted ys) (h : ∀ k, getL k xs = getL k ys) : xs = ys := h1.ext h2 fun ⟨k, e⟩ => by rw [← get_mem h1, ← get_mem h2, h]
theorem put_len (k : ByteArray) (e : En) (xs : List KE) : (putL k e xs).length ≤ xs.length + 1 := by
  unfold putL
  rw [List.length_append, List.length_cons]
  have h : ∀ xs : List KE, (lo k xs).length + (hi k xs).length ≤ xs.length := by
    intro xs
    induction xs with
    | nil => simp [lo, hi]
    | cons x xs ih =>
      unfold lo hi at ih ⊢
      simp only [List.filter_cons, List.length_cons, beq_iff_eq]
      have := kc_swap x.1 k
      split <;> split <;> (try simp only [List.length_cons]) <;> omega
  have := h xs
  omega
theorem del_len (k : ByteArray) (xs : List KE) : (delL k xs).length ≤ xs.length := by
  have := put_len k En.zero xs
  unfold putL at this
  unfold delL
  simp only [List.length_append, List.length_cons] at this ⊢
  omega
end
end Go.Proofs.Ytebeefkibbbkdaa
