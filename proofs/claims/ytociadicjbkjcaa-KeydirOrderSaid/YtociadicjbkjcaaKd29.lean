import Derived.Test.YtociadicjbkjcaaKd28
/- What lies between a prefix and the least text above all that begin with it: just what begins with it. -/
namespace Go.Proofs.Ytociadicjbkjcaa
open Go.RowKit Go.Maps

def preB (p : ByteArray) (x : KE) : Bool := p.data.toList.isPrefixOf x.1.data.toList
theorem pre_all : ∀ (m : Nat) (k : List UInt8), (cmpB k (List.replicate m 255) ≠ -1 ↔ (List.replicate m 255).isPrefixOf k = true)
  | 0, k => by
    cases k with
    | nil => simp [cmpB]
    | cons x k => simp [cmpB]
  | m + 1, [] => by simp [List.replicate_succ, cmpB]
  | m + 1, x :: k => by
    rw [List.replicate_succ]
    simp only [cmpB, List.isPrefixOf]
    have hx := x.toNat_lt
    by_cases h : x.toNat < 255
    · have hne : x ≠ 255 := by intro e; rw [e] at h; exact absurd h (by decide)
      have hb : ((255 : UInt8) == x) = false := by rw [beq_eq_false_iff_ne]; exact fun e => hne e.symm
      rw [if_pos (by show x.toNat < 255; exact h), hb]
      simp
    · have he : x = 255 := (u255 x).1 (by omega)
      subst he
      rw [if_neg (by decide), if_neg (by decide)]
      simpa using pre_all m k
theorem pre_some : ∀ (q : List UInt8) (c : UInt8) (m : Nat) (k : List UInt8), c ≠ 255 →
    ((cmpB k (q ++ c :: List.replicate m 255) ≠ -1 ∧ cmpB k (q ++ [c + 1]) = -1) ↔ (q ++ c :: List.replicate m 255).isPrefixOf k = true)
  | [], c, m, [], _ => by simp [cmpB]
  | [], c, m, x :: k, hc => by
    have hc2 : c.toNat < 255 := by
      have h1 := c.toNat_lt
      have h2 : c.toNat ≠ 255 := fun e => hc ((u255 c).1 e)
      omega
    have hc1 : (c + 1).toNat = c.toNat + 1 := by
      rw [UInt8.toNat_add]
      show (c.toNat + 1) % 256 = _
      omega
    simp only [List.nil_append, cmpB, List.isPrefixOf, hc1]
    by_cases h : x.toNat < c.toNat
    · have hb : (c == x) = false := by rw [beq_eq_false_iff_ne]; intro e; rw [e] at h; omega
      rw [if_pos h, hb]
      simp
    · by_cases h2 : c.toNat < x.toNat
      · have hb : (c == x) = false := by rw [beq_eq_false_iff_ne]; intro e; rw [e] at h2; omega
        rw [if_neg h, if_pos h2, hb, if_neg (by omega)]
        by_cases h3 : c.toNat + 1 < x.toNat
        · rw [if_pos h3]; simp
        · rw [if_neg h3]
          cases k with
          | nil => simp [cmpB]
          | cons y k => simp [cmpB]
      · have he : c = x := UInt8.toNat_inj.1 (by omega)
        subst he
        rw [if_neg h, if_neg h, if_pos (by omega)]
        simpa using pre_all m k
  | y :: q, c, m, [], _ => by simp [cmpB]
  | y :: q, c, m, x :: k, hc => by
    simp only [List.cons_append, cmpB, List.isPrefixOf]
    by_cases h : x.toNat < y.toNat
    · have hb : (y == x) = false := by rw [beq_eq_false_iff_ne]; intro e; rw [e] at h; omega
      rw [if_pos h, hb]
      simp
    · by_cases h2 : y.toNat < x.toNat
      · have hb : (y == x) = false := by rw [beq_eq_false_iff_ne]; intro e; rw [e] at h2; omega
        rw [if_neg h, if_pos h2, hb, if_neg h, if_pos h2]
        simp
      · have he : y = x := UInt8.toNat_inj.1 (by omega)
        subst he
        rw [if_neg h, if_neg h, if_neg h, if_neg h]
        simpa using pre_some q c m k hc
/-- What After answers, as Prefix uses it. -/
def PrR (p : ByteArray) (e : Ending) : Prop := ∃ (hi : ByteArray) (ok : Bool), e = .returned (.tuple #[.string hi, .bool ok]) ∧ hi.size ≤ p.size ∧ (ok = false → hi = ⟨#[]⟩) ∧ ∀ xs, sel p hi xs = xs.filter (preB p)
theorem AftR.pr {p : ByteArray} {e : Ending} (h : AftR p e) : PrR p e := by
  rcases h with ⟨h1, h2⟩ | ⟨q, c, m, hi, h1, h2, h3, h4⟩
  · refine ⟨_, _, h1, Nat.zero_le _, fun _ => rfl, fun xs => ?_⟩
    have hp : p.data.toList = List.replicate p.data.toList.length 255 := List.eq_replicate_iff.2 ⟨rfl, h2⟩
    unfold sel
    congr 1
    funext x
    unfold inR preB kc
    rw [Bool.eq_iff_iff, hp, ← pre_all]
    simp
    intro _
    exact .inl rfl
  · have hl : p.data.toList.length = p.size := by simp
    have hl2 : hi.data.toList.length = hi.size := by simp
    have e1 := congrArg List.length h2
    have e2 := congrArg List.length h4
    simp only [List.length_append, List.length_cons, List.length_nil, List.length_replicate] at e1 e2
    refine ⟨_, _, h1, by omega, fun h => (by cases h), fun xs => ?_⟩
    unfold sel
    congr 1
    funext x
    unfold inR preB kc
    rw [Bool.eq_iff_iff, h2, ← pre_some q c m _ h3, h4]
    have hz : hi.size ≠ 0 := by omega
    simp [hz]
theorem after_pr (p : ByteArray) (w : World) (hz : p.size ≤ maxLen) :
    Calls Try.prog 45 #[.string p] w fun e w' => PrR p e ∧ Below w.heap.size w w' := (after_any p w hz).mono fun _ _ h => ⟨h.1.pr, h.2⟩
end Go.Proofs.Ytociadicjbkjcaa
