import Derived.Test.YtomkieennkobcaaSt1
/- A settled disk: what a crash leaves; the disk that Load makes of its image. -/
namespace Go.Proofs.Ytomkieennkobcaa
open Go.RowKit Go.Maps

structure Settled (s : Dk) : Prop where
  d : s.dchs = []
  f : ∀ p ∈ s.safe, (s.fl p.2).chs = []
section
variable {s : Dk} {N : Nat}
theorem Settled.seen (h : Settled s) : s.seen = s.safe := by unfold Dk.seen; rw [h.d]; rfl
theorem torn_clean {x : Fl} (h : x.chs = []) (ps : List Int) : tornS x ps = (x.seen, ps.tail) := by
  unfold tornS Fl.seen
  rw [h]
  simp
theorem torn_settled : ∀ (l : List KE) (ps : List Int), (∀ p ∈ l, (s.fl p.2).chs = []) → (tornAll s l ps).1 = l.map fun p => (p.1, (s.fl p.2).seen)
  | [], _, _ => rfl
  | p :: r, ps, h => by
    have h1 := torn_clean (h p List.mem_cons_self) ps
    show ((p.1, (tornS (s.fl p.2) ps).1) :: (tornAll s r (tornS (s.fl p.2) ps).2).1) = _
    rw [h1, torn_settled r _ fun q hq => h q (List.mem_cons_of_mem _ hq)]
    rfl
theorem Settled.crash (h : Settled s) (ps : List Int) : crashL s ps = imageL s := by
  unfold crashL imageL
  have hl : leftL s ps = s.safe := by unfold leftL; rw [h.d, List.take_nil]; rfl
  rw [hl, h.seen, torn_settled _ _ h.f]
/-- Each name that is told is synced. -/
theorem sync_step (hi : s.Inv N) (hl : s.Lives) {p : KE} (hp : p ∈ s.seen) : syncE p.1 s = 0 ∧ (syncS p.1 s).seen = s.seen ∧ ((syncS p.1 s).fl p.2).chs = [] ∧ (∀ k, (s.fl k).chs = [] → ((syncS p.1 s).fl k).chs = []) ∧ (syncS p.1 s).quota = s.quota := by
  have hg : getL p.1 s.seen = some p.2 := (get_mem hi.sorted).2 hp
  have hat : atE p.1 s = 0 := atE_zero.2 ⟨hl.2, hi.seen_names p hp, p.2, hg⟩
  have hat' : ¬ atE p.1 s ≠ 0 := fun e => e hat
  have hk := hi.seen_ids p hp
  have hS : syncS p.1 s = (spendS s).setF p.2 ⟨(s.fl p.2).seen, []⟩ := by unfold syncS; rw [if_neg hat', if_neg (sp_lives hl).2.2, getL_num hg]
  have hfl : ∀ j, (syncS p.1 s).fl j = if j = p.2 then ⟨(s.fl p.2).seen, []⟩ else s.fl j := fun j => by
    rw [hS, setF_fl (spendS s) p.2 j _ (by rw [(spend_fields s).1]; exact hk), spend_fl]
  refine ⟨by unfold syncE; rw [if_neg hat']; exact (sp_lives hl).2.1, by rw [hS]; exact spend_seen s, by rw [hfl, if_pos rfl], fun k hk2 => ?_, by rw [hS]; exact (spend_fields s).2.2.2.1⟩
  rw [hfl]
  by_cases hj : k = p.2
  · rw [if_pos hj]
  · rw [if_neg hj]; exact hk2
theorem syncDir_step (hl : s.Lives) (hc : ∀ p ∈ s.seen, (s.fl p.2).chs = []) : syncDirE s = 0 ∧ Settled (syncDirS s) ∧ (syncDirS s).seen = s.seen ∧ (syncDirS s).quota = s.quota := by
  have hd : ¬ s.dead = true := by rw [hl.2]; decide
  have hS : syncDirS s = { spendS s with safe := s.seen, dchs := [] } := by unfold syncDirS; rw [if_neg hd, if_neg (sp_lives hl).2.2]
  have hE : syncDirE s = 0 := by unfold syncDirE; rw [if_neg hd]; exact (sp_lives hl).2.1
  refine ⟨hE, ⟨by rw [hS], fun p hp => ?_⟩, by rw [hS]; rfl, by rw [hS]; exact (spend_fields s).2.2.2.1⟩
  rw [hS] at hp
  have : (syncDirS s).fl p.2 = s.fl p.2 := by rw [hS]; exact spend_fl s p.2
  rw [this]
  exact hc p hp
theorem lives_sync {n : ByteArray} (h : s.Lives) : (syncS n s).Lives := by
  have := ch_lives (st := ⟨4, n, n, 0, 0, none, [], 0, none, [], 0⟩) h
  exact this
theorem lives_syncDir (h : s.Lives) : (syncDirS s).Lives := by
  have := ch_lives (st := ⟨5, ByteArray.empty, ByteArray.empty, 0, 0, none, [], 0, none, [], 0⟩) h
  exact this
/-! How many names, and the quota. -/
def Dk.Few (s : Dk) : Prop := s.seen.length ≤ 65536
theorem act_quota {st : SC} (h : s.Lives) : (actS st s).quota = s.quota := by
  unfold actS
  rw [spend_live h]
  by_cases h1 : st.kind = 1
  · simp only [h1, if_true]
  · simp only [h1, if_false]
    by_cases h2 : st.kind = 2
    · simp only [h2, if_true]; rfl
    · simp only [h2, if_false]
      by_cases h3 : st.kind = 3
      · simp only [h3, if_true]; rfl
      · simp only [h3, if_false]
        by_cases h4 : st.kind = 4
        · simp only [h4, if_true]; rfl
        · simp only [h4, if_false]
          by_cases h5 : st.kind = 5
          · simp only [h5, if_true]
          · simp only [h5, if_false]
            by_cases h6 : st.kind = 6
            · simp only [h6, if_true]
            · simp only [h6, if_false]
theorem ch_quota {st : SC} (h : s.Lives) : (chS st s).quota = s.quota := by
  rw [chS_form]
  by_cases h0 : perr st s = 0
  · have h0' : ¬ perr st s ≠ 0 := fun e => e h0
    rw [if_neg h0', if_neg (sp_lives h).2.2]
    exact act_quota h
  · rw [if_pos h0]
theorem del_le (k : ByteArray) {l : List KE} (hs : Sorted l) : (delL k l).length ≤ l.length := by
  cases hg : getL k l with
  | none => rw [del_same' hs hg]; exact Nat.le_refl _
  | some e =>
    have := (del_perm hs ((get_mem hs).1 hg)).length_eq
    rw [List.length_cons] at this
    omega
theorem ch_few {st : SC} (hi : s.Inv N) (h : s.Lives) (hf : s.Few) : (chS st s).Few := by
  rw [chS_form]
  by_cases h0 : perr st s = 0
  case neg => rw [if_pos h0]; exact hf
  case pos =>
    have h0' : ¬ perr st s ≠ 0 := fun e => e h0
    rw [if_neg h0', if_neg (sp_lives h).2.2]
    unfold actS
    rw [spend_live h]
    have hsn : ∀ c : DC, ∀ s' : Dk, s'.safe = s.safe → s'.dchs = s.dchs ++ [c] → s'.seen = ddo s.seen c := fun c s' e1 e2 => by unfold Dk.seen; rw [e1, e2, List.foldl_append]; rfl
    by_cases h1 : st.kind = 1
    · simp only [h1, if_true]
      unfold Dk.Few
      refine Nat.le_trans (Nat.le_of_eq (congrArg List.length (hsn (.inl (st.nm, s.files.length)) _ rfl rfl))) ?_
      have : ¬ 65536 ≤ s.seen.length := fun e => by
        unfold perr at h0
        rw [if_pos h1] at h0
        by_cases a : atE st.nm s = 0
        · simp [a] at h0
        · by_cases b : atE st.nm s = 31
          · simp [b, e] at h0
          · simp [a, b] at h0
      have := put_len st.nm s.files.length s.seen
      show (putL _ _ _).length ≤ _
      omega
    · simp only [h1, if_false]
      by_cases h2 : st.kind = 2
      · simp only [h2, if_true]; exact hf
      · simp only [h2, if_false]
        by_cases h3 : st.kind = 3
        · simp only [h3, if_true]; exact hf
        · simp only [h3, if_false]
          by_cases h4 : st.kind = 4
          · simp only [h4, if_true]; exact hf
          · simp only [h4, if_false]
            by_cases h5 : st.kind = 5
            · simp only [h5, if_true]; exact hf
            · simp only [h5, if_false]
              by_cases h6 : st.kind = 6
              · simp only [h6, if_true]
                unfold Dk.Few
                refine Nat.le_trans (Nat.le_of_eq (congrArg List.length (hsn (.inr (.inl (st.nm, st.to))) _ rfl rfl))) ?_
                show (delL st.nm (putL st.to _ s.seen)).length ≤ _
                unfold perr at h0
                rw [if_neg h1, if_neg h2, if_neg h3, if_neg h4, if_neg h5, if_pos h6, if_neg (by rw [h.2]; decide)] at h0
                by_cases b : goodN st.nm = false ∨ goodN st.to = false
                · rw [if_pos b] at h0; cases h0
                · rw [if_neg b] at h0
                  by_cases c : st.nm = st.to
                  · rw [if_pos c] at h0; cases h0
                  · rw [if_neg c] at h0
                    obtain ⟨_, _, k, hg⟩ := atE_zero.1 h0
                    have hl1 := (ren_perm (e := (getL st.nm s.seen).getD 0) hi.sorted c).length_eq
                    have hl2 := (del_perm hi.sorted ((get_mem hi.sorted).1 hg)).length_eq
                    have hl3 := del_le st.to (hi.sorted.del st.nm)
                    unfold Dk.Few at hf
                    rw [hl1, List.length_cons]
                    rw [List.length_cons] at hl2
                    omega
              · simp only [h6, if_false]
                unfold Dk.Few
                refine Nat.le_trans (Nat.le_of_eq (congrArg List.length (hsn (.inr (.inr st.nm)) _ rfl rfl))) ?_
                have := del_le st.nm hi.sorted
                unfold Dk.Few at hf
                show (delL _ _).length ≤ _
                omega
end
end Go.Proofs.Ytomkieennkobcaa
