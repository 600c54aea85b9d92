import Derived.Test.YtociadicjbkjcaaKd36
import Derived.Sort.QuietTacIn
/- A region that draws its order and only reads, inside a round of a range over a function. No program in sight. -/
namespace Go.Proofs.Ytociadicjbkjcaa
open Go.RowKit

section
variable {P : Program} {ops : Array Oper} {md : Region.Mode} {m l : Nat} {Q : Exit → Act → World → Prop}
theorem oper_round {o : Oper} {a : Act} {w : World} {K : Act → World → Prop} (hd : ∀ c, o.op ≠ .defer c) (h : o.wpIn Wf m P a w K Q) : o.wpIn (Wf.inRound l) m P a w K Q := by
  obtain ⟨h1, h2⟩ := h
  refine ⟨h1, ?_⟩
  rw [Oper.semAt_plain _ _ _ hd] at h2 ⊢
  exact h2
theorem wpOpIn_round {i : Nat} {a : Act} {w : World} {K K' : Act → World → Prop} (hd : ∀ (i : Nat) (o : Oper), ops[i]? = some o → ∀ c, o.op ≠ Op.defer c) (hK : ∀ a w, K a w → K' a w) (h : wpOpIn Wf m P ops Q i K a w) : wpOpIn (Wf.inRound l) m P ops Q i K' a w := by
  have h' := wpOpIn_mono hK h
  unfold wpOpIn at h' ⊢
  split
  · rename_i ho
    simp only [ho] at h'
    exact h'
  · rename_i o ho
    simp only [ho] at h'
    split
    · rename_i hw
      simp only [hw, if_true] at h'
      exact oper_round (hd i o ho) h'
    · rename_i hw
      simp only [hw] at h'
      exact h'
theorem wpAnyIn_round (hd : ∀ (i : Nat) (o : Oper), ops[i]? = some o → ∀ c, o.op ≠ Op.defer c) : ∀ (f : Nat) (done : Array Bool) (a : Act) (w : World), wpAnyIn Wf m P md ops Q f done a w → wpAnyIn (Wf.inRound l) m P md ops Q f done a w
  | 0, _, _, _, h => h
  | f + 1, _, _, _, h => ⟨h.1, fun j hj => wpOpIn_round hd (fun a' w' q => wpAnyIn_round hd f _ a' w' q) (h.2 j hj)⟩
theorem wpIn_region_round {id : Nat} {a : Act} {w : World} {li : List Oper} (hd : li.all (fun o => match o.op with | .defer _ => false | _ => true) = true) (hm : P.follows .mixedOrders = true) (hB : Region.lexB .any li.toArray = true)
    (h : wpQuietIn Wf m P li.toArray (fun w' => ∃ n, w' = w.drewN n) (fun a' => ∀ w', (∃ n, w' = w.drewN n) → Q .normal a' w') li a) : (Code.region id li.toArray true).wpIn (Wf.inRound l) m P Q a w := by
  have hd' : ∀ (i : Nat) (o : Oper), li.toArray[i]? = some o → ∀ c, o.op ≠ Op.defer c := fun i o ho c hc => by
    have hm := List.all_eq_true.1 hd o (by rw [List.getElem?_toArray] at ho; exact List.mem_of_getElem? ho)
    rw [hc] at hm
    cases hm
  simp only [Region.lexB, Bool.and_eq_true] at hB
  refine wpIn_region_any hm (wpAnyIn_round hd' _ _ _ _ (wpAnyIn_of_quiet (C := fun w' => ∃ n, w' = w.drewN n) (Q := fun a' => ∀ w', (∃ n, w' = w.drewN n) → Q .normal a' w') rfl (fun _ w' hw' h => h w' hw') _ _ _ _ ⟨1, rfl⟩ ?_))
  have := wpAnyQIn_lex (F := Wf) (n := m) (C := fun w' => ∃ n, w' = w.drewN n) (md := .any) hB.1 li 0 (Array.replicate li.toArray.size false) a (by simp) (by simpa using hB.2) h
  simpa using this
end
end Go.Proofs.Ytociadicjbkjcaa
