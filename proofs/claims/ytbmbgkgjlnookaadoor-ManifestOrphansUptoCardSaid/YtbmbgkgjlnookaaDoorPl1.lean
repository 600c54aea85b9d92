import Derived.Test.YtbmbgkgjlnookaaDoorRows
import Derived.Lib.SplitLaws
import Derived.Lib.AtoiAll
import Derived.Lib.ItoaNum
import Derived.Lib.Strings
/- ManifestNames: plain laws of names (no program). -/
namespace Go.Proofs.YtbmbgkgjlnookaaDoor
open Go.Lib

/-- A file's name, as numbers: its kind (0 to 4), topic, segment; whether .tmp stands behind. -/
structure FN where
  k : Int
  id : Int
  seg : Int
  t : Bool
  deriving DecidableEq
def FN.zero : FN := ⟨0, 0, 0, false⟩
def dec (n : Int) : List UInt8 := decDigits n.toNat
def okId (n : Int) : Prop := 0 ≤ n ∧ n < 1073741824
def okSeg (n : Int) : Prop := 1 ≤ n ∧ n < 1073741824
instance (n : Int) : Decidable (okId n) := by unfold okId; infer_instance
instance (n : Int) : Decidable (okSeg n) := by unfold okSeg; infer_instance
def segB : List UInt8 := [115, 101, 103]
def hintB : List UInt8 := [104, 105, 110, 116]
def manB : List UInt8 := [109, 97, 110]
def catB : List UInt8 := [99, 97, 116, 97, 108, 111, 103]
def tmpB : List UInt8 := [46, 116, 109, 112]
/-- The name without .tmp. -/
def baseN (n : FN) : List UInt8 :=
  if n.k = 1 ∧ okId n.id ∧ okSeg n.seg then 116 :: (dec n.id ++ 46 :: (dec n.seg ++ 46 :: segB))
  else if n.k = 2 ∧ okId n.id ∧ okSeg n.seg then 116 :: (dec n.id ++ 46 :: (dec n.seg ++ 46 :: hintB))
  else if n.k = 3 ∧ okId n.id ∧ n.seg = 0 then 116 :: (dec n.id ++ 46 :: manB)
  else if n.k = 4 ∧ n.id = 0 ∧ n.seg = 0 then catB
  else []
def nameN (n : FN) : List UInt8 := if baseN n = [] then [] else if n.t then baseN n ++ tmpB else baseN n
theorem dec_digit : ∀ (u : Nat), ∀ b ∈ decDigits u, 48 ≤ b.toNat ∧ b.toNat ≤ 57 := by
  intro u
  induction u using Nat.strongRecOn with
  | _ u ih =>
    intro b hb
    rw [decDigits] at hb
    split at hb
    · rename_i h
      rw [List.mem_singleton] at hb
      subst hb
      rw [UInt8.toNat_ofNat']
      omega
    · rename_i h
      rcases List.mem_append.1 hb with h1 | h1
      · exact ih (u / 10) (by omega) b h1
      · rw [List.mem_singleton] at h1
        subst h1
        rw [UInt8.toNat_ofNat']
        omega
theorem dec_ne (u : Nat) : decDigits u ≠ [] := by
  rw [decDigits]
  split <;> simp
theorem dot_dec (u : Nat) : (46 : UInt8) ∉ decDigits u := fun h => by
  have := dec_digit u 46 h
  simp at this
/-- The bytes cut at the dots. -/
def spl : List UInt8 → List (List UInt8)
  | [] => [[]]
  | b :: l => if b = 46 then [] :: spl l else match spl l with
    | [] => [[b]]
    | x :: r => (b :: x) :: r
theorem spl_free : ∀ (a : List UInt8), (46 : UInt8) ∉ a → spl a = [a]
  | [], _ => rfl
  | b :: a, h => by
    have h1 : b ≠ 46 := fun e => h (by rw [e]; exact List.mem_cons_self ..)
    rw [spl, if_neg h1, spl_free a fun hm => h (List.mem_cons_of_mem _ hm)]
theorem spl_dot : ∀ (a b : List UInt8), (46 : UInt8) ∉ a → spl (a ++ 46 :: b) = a :: spl b
  | [], b, _ => by simp [spl]
  | x :: a, b, h => by
    have h1 : x ≠ 46 := fun e => h (by rw [e]; exact List.mem_cons_self ..)
    rw [List.cons_append, spl, if_neg h1, spl_dot a b fun hm => h (List.mem_cons_of_mem _ hm)]
theorem index_dot_none : ∀ (a : List UInt8), (46 : UInt8) ∉ a → index a [46] = -1
  | [], _ => rfl
  | b :: a, h => by
    have h1 : b ≠ 46 := fun e => h (by rw [e]; exact List.mem_cons_self ..)
    have h2 := index_dot_none a fun hm => h (List.mem_cons_of_mem _ hm)
    have h3 : ([46] : List UInt8).isPrefixOf (b :: a) = false := by simp [List.isPrefixOf]; exact fun e => h1 e.symm
    rw [index, h3, h2]; rfl
theorem index_dot : ∀ (a b : List UInt8), (46 : UInt8) ∉ a → index (a ++ 46 :: b) [46] = a.length
  | [], b, _ => by simp [index, List.isPrefixOf]
  | x :: a, b, h => by
    have h1 : x ≠ 46 := fun e => h (by rw [e]; exact List.mem_cons_self ..)
    have h2 := index_dot a b fun hm => h (List.mem_cons_of_mem _ hm)
    have h3 : ([46] : List UInt8).isPrefixOf (x :: (a ++ 46 :: b)) = false := by simp [List.isPrefixOf]; exact fun e => h1 e.symm
    rw [List.cons_append, index, h3, h2]
    simp
/-- strings.Split at a dot is spl. -/
theorem split_spl : ∀ (k : Nat) (s : List UInt8), s.count 46 = k → splitK [46] 0 k s = spl s
  | 0, s, h => by
    rw [spl_free s (List.count_eq_zero.1 h)]; rfl
  | k + 1, s, h => by
    have hm : (46 : UInt8) ∈ s := List.count_pos_iff.1 (by omega)
    obtain ⟨a, b, e, ha⟩ := List.eq_append_cons_of_mem hm
    subst e
    rw [splitK, index_dot a b ha]
    rw [if_neg (by simp), spl_dot a b ha]
    have h1 : b.count 46 = k := by
      rw [List.count_append, List.count_eq_zero.2 ha, List.count_cons_self] at h
      omega
    have h2 : (a ++ 46 :: b).drop ((a.length : Int).toNat + ([46] : List UInt8).length) = b := by
      simp
    rw [h2, split_spl k b h1]
    simp
end Go.Proofs.YtbmbgkgjlnookaaDoor
