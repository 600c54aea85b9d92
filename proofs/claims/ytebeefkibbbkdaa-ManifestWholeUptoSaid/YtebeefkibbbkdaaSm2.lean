import Derived.Test.YtebeefkibbbkdaaSm1
/-
  The disk, plainly: a file is what is durable and the changes behind it; so is the directory. No program in sight.
-/
namespace Go.Proofs.Ytebeefkibbbkdaa
open Go.RowKit Go.Maps

/-- A file's change: bytes behind, or the first n alone. -/
abbrev FC := List UInt8 ⊕ Nat
def fdo (s : List UInt8) : FC → List UInt8
  | .inl b => s ++ b
  | .inr n => s.take n
/-- The directory's change: a name for a new file; a name for another; a name less. -/
abbrev DC := (ByteArray × Nat) ⊕ (ByteArray × ByteArray) ⊕ ByteArray
def ddo (s : List KE) : DC → List KE
  | .inl (n, f) => putL n f s
  | .inr (.inl (a, b)) => delL a (putL b ((getL a s).getD 0) s)
  | .inr (.inr n) => delL n s
structure Fl where
  safe : List UInt8
  chs : List FC
def Fl.seen (x : Fl) : List UInt8 := x.chs.foldl fdo x.safe
def Fl.new : Fl := ⟨[], []⟩
def okF : List UInt8 → List FC → Prop
  | _, [] => True
  | s, c :: r => (∀ n, c = .inr n → n ≤ s.length) ∧ okF (fdo s c) r
def okD : List KE → List DC → Prop
  | _, [] => True
  | s, c :: r => (∀ a b, c = .inr (.inl (a, b)) → a ≠ b ∧ ∃ f, getL a s = some f) ∧ okD (ddo s c) r
theorem okF_snoc : ∀ {l : List FC} {s : List UInt8} {c : FC}, okF s (l ++ [c]) ↔ okF s l ∧ (∀ n, c = .inr n → n ≤ (l.foldl fdo s).length)
  | [], s, c => by simp [okF]
  | x :: l, s, c => by
    simp only [List.cons_append, okF, List.foldl_cons]
    rw [okF_snoc (l := l)]
    exact and_assoc.symm
theorem okD_snoc : ∀ {l : List DC} {s : List KE} {c : DC}, okD s (l ++ [c]) ↔ okD s l ∧ (∀ a b, c = .inr (.inl (a, b)) → a ≠ b ∧ ∃ f, getL a (l.foldl ddo s) = some f)
  | [], s, c => by simp [okD]
  | x :: l, s, c => by
    simp only [List.cons_append, okD, List.foldl_cons]
    rw [okD_snoc (l := l)]
    exact and_assoc.symm
theorem okF_take : ∀ {l : List FC} {s : List UInt8} (n : Nat), okF s l → okF s (l.take n)
  | [], _, _, h => by simpa using h
  | _ :: _, _, 0, _ => trivial
  | _ :: _, _, n + 1, h => ⟨h.1, okF_take n h.2⟩
theorem okD_take : ∀ {l : List DC} {s : List KE} (n : Nat), okD s l → okD s (l.take n)
  | [], _, _, h => by simpa using h
  | _ :: _, _, 0, _ => trivial
  | _ :: _, _, n + 1, h => ⟨h.1, okD_take n h.2⟩
theorem okF_at : ∀ {l : List FC} {s : List UInt8} {i : Nat}, okF s l → ∀ (hi : i < l.length) (n : Nat), l[i] = .inr n → n ≤ ((l.take i).foldl fdo s).length
  | [], _, i, _, hi, _, _ => by simp at hi
  | c :: l, s, 0, h, _, n, e => h.1 n e
  | c :: l, s, i + 1, h, hi, n, e => okF_at (l := l) (i := i) h.2 (by simpa using hi) n (by simpa using e)
theorem okD_at : ∀ {l : List DC} {s : List KE} {i : Nat}, okD s l → ∀ (hi : i < l.length) (a b : ByteArray), l[i] = .inr (.inl (a, b)) → a ≠ b ∧ ∃ f, getL a ((l.take i).foldl ddo s) = some f
  | [], _, i, _, hi, _, _, _ => by simp at hi
  | c :: l, s, 0, h, _, a, b, e => h.1 a b e
  | c :: l, s, i + 1, h, hi, a, b, e => okD_at (l := l) (i := i) h.2 (by simpa using hi) a b (by simpa using e)
theorem Sorted.ddo {s : List KE} (h : Sorted s) (c : DC) : Sorted (ddo s c) := by
  match c with
  | .inl (n, f) => exact h.put n f
  | .inr (.inl (a, b)) => exact (h.put b _).del a
  | .inr (.inr n) => exact h.del n
theorem Sorted.fold {l : List DC} : ∀ {s : List KE}, Sorted s → Sorted (l.foldl Go.Proofs.Ytebeefkibbbkdaa.ddo s) := by
  induction l with
  | nil => exact fun h => h
  | cons c l ih => exact fun h => ih (h.ddo c)

structure Dk where
  files : List Fl
  safe : List KE
  dchs : List DC
  quota : Int
  used : Int
  fuse : Int
  dead : Bool
  ops : Int
def Dk.seen (s : Dk) : List KE := s.dchs.foldl ddo s.safe
def Dk.fl (s : Dk) (k : Nat) : Fl := s.files.getD k Fl.new
/-- A byte of a name. -/
def nameB (c : UInt8) : Bool := (97 ≤ c.toNat && c.toNat ≤ 122) || (48 ≤ c.toNat && c.toNat ≤ 57) || c.toNat == 46 || c.toNat == 45 || c.toNat == 95
def goodN (n : ByteArray) : Bool := decide (1 ≤ n.size) && decide (n.size ≤ 32) && !(n.data.toList.head? == some 46) && !(n.data.toList.head? == some 45) && !(n.data.toList.head? == some 95) && n.data.toList.all nameB
theorem goodN_size {n : ByteArray} (h : goodN n = true) : 1 ≤ n.size ∧ n.size ≤ 32 := by
  unfold goodN at h
  simp only [Bool.and_eq_true, decide_eq_true_eq] at h
  exact ⟨h.1.1.1.1.1, h.1.1.1.1.2⟩

/-- What a name is answered: 0, or why there is no file of it. -/
def atE (n : ByteArray) (s : Dk) : Int := if s.dead then 34 else if goodN n = false then 30 else if getL n s.seen = none then 31 else 0
/-- An operation is to be done: the fuse. -/
def spendS (s : Dk) : Dk := if s.fuse = 0 then { s with dead := true } else { s with fuse := if s.fuse > 0 then s.fuse - 1 else s.fuse, ops := s.ops + 1 }
def spendE (s : Dk) : Int := if s.fuse = 0 then 34 else 0
def Dk.setF (s : Dk) (k : Nat) (x : Fl) : Dk := { s with files := s.files.set k x }
end Go.Proofs.Ytebeefkibbbkdaa
