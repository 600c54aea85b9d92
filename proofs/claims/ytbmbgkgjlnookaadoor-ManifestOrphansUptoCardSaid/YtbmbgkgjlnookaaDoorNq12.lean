import Derived.Test.YtbmbgkgjlnookaaDoorNq11
/- ManifestNames: manifest.Parse is parseP. -/
namespace Go.Proofs.YtbmbgkgjlnookaaDoor
open Go.Shelf Go.RowKit

theorem parseM_any (s : List UInt8) (w : World) (E : Env w) (hs : s.length ≤ 1048576) :
    Calls Tryd.prog 7 #[.string ⟨s.toArray⟩] w fun e w' => e = .returned (FN.v (parseP s)) ∧ Below w.heap.size w w' := by
  obtain ⟨r, t, hcut⟩ : ∃ r t, cutT s = (r, t) := ⟨_, _, rfl⟩
  have hr : r.length ≤ 1048576 := by have := cut_len s; rw [hcut] at this; simp only at this; omega
  by_cases hcat : r = [99, 97, 116, 97, 108, 111, 103]
  · have hp : parseP s = ⟨4, 0, 0, t⟩ := by unfold parseP; rw [hcut, if_pos (show (r, t).1 = catB from hcat)]
    rw [hp]
    exact parseM_cat s r t w hs hcut hcat
  have hp0 : parseP s = if s = [] ∨ nameN (candP s) ≠ s then FN.zero else candP s := by unfold parseP; rw [hcut, if_neg (show ¬ (r, t).1 = catB from hcat)]
  by_cases hne : s = []
  · rw [if_pos (.inl hne)] at hp0
    rw [hp0]
    have hr0 : r = [] := by
      subst hne
      have : cutT [] = ([], false) := rfl
      rw [this] at hcut
      injection hcut with h1 _
      exact h1.symm
    exact parseM_1e s [] r t w E hs hr hne hcut hcat (by rw [hr0]; rfl) (by simp)
  have hpk : ∀ n : FN, candP s = n → FN.v (parseP s) = pickV (nameN n) s (FN.v n) := by
    intro n hn
    rw [hp0, hn]
    unfold pickV
    by_cases h : nameN n = s
    · rw [if_pos h, if_neg (by rintro (e | e); exact hne e; exact e h)]
    · rw [if_neg h, if_pos (.inr h)]
  have hcd : candP s = ⟨if (spl r).length = 2 ∧ (spl r).getD 1 [] = manB then 3 else if (spl r).length = 3 ∧ (spl r).getD 2 [] = segB then 1 else if (spl r).length = 3 ∧ (spl r).getD 2 [] = hintB then 2 else 0,
    atoiV (Lib.trimPrefix ((spl r).getD 0 []) [116]), if (spl r).length = 3 then atoiV ((spl r).getD 1 []) else 0, t⟩ := by unfold candP; rw [hcut]
  have hl := fun x hx => Nat.le_trans (spl_len r x hx) hr
  match hsp : spl r with
  | [] => exact absurd hsp (spl_ne r)
  | [x] =>
    rw [hsp] at hcd hl
    have hc : candP s = ⟨0, atoiV (Lib.trimPrefix x [116]), 0, t⟩ := by rw [hcd]; simp
    rw [hpk _ hc]
    exact parseM_1 s x r t w E hs hr hne hcut hcat hsp (hl x (by simp))
  | [x, y] =>
    rw [hsp] at hcd hl
    by_cases hy : y = [109, 97, 110]
    · have hy2 : y = manB := hy
      have hc : candP s = ⟨3, atoiV (Lib.trimPrefix x [116]), 0, t⟩ := by rw [hcd]; simp [hy2]
      rw [hpk _ hc]
      exact parseM_2m s x y r t w E hs hr hne hcut hcat hsp (hl x (by simp)) hy
    · have hy2 : ¬ y = manB := hy
      have hc : candP s = ⟨0, atoiV (Lib.trimPrefix x [116]), 0, t⟩ := by rw [hcd]; simp [hy2]
      rw [hpk _ hc]
      exact parseM_2o s x y r t w E hs hr hne hcut hcat hsp (hl x (by simp)) hy
  | [x, y, z] =>
    rw [hsp] at hcd hl
    by_cases h0 : z = [115, 101, 103]
    · have hy2 : z = segB := h0
      have hc : candP s = ⟨1, atoiV (Lib.trimPrefix x [116]), atoiV y, t⟩ := by rw [hcd]; simp [hy2]
      rw [hpk _ hc]
      exact parseM_3s s x y z r t w E hs hr hne hcut hcat hsp (hl x (by simp)) (hl y (by simp)) h0
    · have hy2 : ¬ z = segB := h0
      by_cases h1 : z = [104, 105, 110, 116]
      · have hy3 : z = hintB := h1
        have hy4 : ¬ hintB = segB := by decide
        have hc : candP s = ⟨2, atoiV (Lib.trimPrefix x [116]), atoiV y, t⟩ := by rw [hcd]; simp [hy3, hy4]
        rw [hpk _ hc]
        exact parseM_3h s x y z r t w E hs hr hne hcut hcat hsp (hl x (by simp)) (hl y (by simp)) h0 h1
      · have hy3 : ¬ z = hintB := h1
        have hc : candP s = ⟨0, atoiV (Lib.trimPrefix x [116]), atoiV y, t⟩ := by rw [hcd]; simp [hy2, hy3]
        rw [hpk _ hc]
        exact parseM_3o s x y z r t w E hs hr hne hcut hcat hsp (hl x (by simp)) (hl y (by simp)) h0 h1
  | x :: y :: z :: u :: l =>
    rw [hsp] at hcd hl
    have hc : candP s = ⟨0, atoiV (Lib.trimPrefix x [116]), 0, t⟩ := by
      rw [hcd]
      simp only [List.length_cons, List.getD_cons_zero]
      simp
    rw [hpk _ hc]
    refine parseM_4 s x r t w E (l.length + 4) _ (by omega) ?_ hs hr hne hcut hcat (by rw [hsp]; simp) rfl (hl x (by simp))
    rw [hsp]
    simp
end Go.Proofs.YtbmbgkgjlnookaaDoor
