import Derived.Test.YtomkieennkobcaaSm30
/- What SimfsQuota asks of a step: plain laws. -/
namespace Go.Proofs.Ytomkieennkobcaa
open Go.RowKit Go.Maps

theorem sum_image {s : Dk} : sumL (imageL s) = s.tot := by
  unfold sumL imageL Dk.tot
  rw [List.map_map]
  rfl
theorem at_not33 (n : ByteArray) (s : Dk) : atE n s ≠ 33 := by
  unfold atE
  split
  · decide
  · split
    · decide
    · split <;> decide
theorem sp_not33 (s : Dk) : spendE s ≠ 33 := by
  unfold spendE
  split <;> decide
theorem ch_not33 {st : SC} {s : Dk} (h : st.kind ≠ 2) : chE st s ≠ 33 := by
  have h1 := at_not33 st.nm s
  have h2 := sp_not33 s
  unfold chE
  rw [if_neg h]
  split
  · unfold createE
    split
    · decide
    · split
      · exact h1
      · split
        · decide
        · exact h2
  · split
    · unfold truncE
      split
      · exact h1
      · split
        · decide
        · exact h2
    · split
      · unfold syncE
        split
        · exact h1
        · exact h2
      · split
        · unfold syncDirE
          split
          · decide
          · exact h2
        · split
          · unfold renameE
            split
            · decide
            · split
              · decide
              · split
                · decide
                · split
                  · exact h1
                  · exact h2
          · unfold removeE
            split
            · exact h1
            · exact h2
theorem lenOf_pos (s : Dk) (n : ByteArray) : 0 ≤ lenOf s n := by
  unfold lenOf
  split <;> omega
theorem sp_used (s : Dk) : (spendS s).used = s.used := (spend_fields s).2.2.2.2
theorem ch_used {st : SC} {s : Dk} (h : st.kind ≠ 2) : (chS st s).used ≤ s.used := by
  have hs := sp_used s
  unfold chS
  rw [if_neg h]
  split
  · unfold createS
    split
    · exact Int.le_refl _
    · split
      · exact Int.le_refl _
      · split
        · exact Int.le_refl _
        · split
          · rw [hs]; exact Int.le_refl _
          · show (spendS s).used ≤ _; rw [hs]; exact Int.le_refl _
  · split
    · unfold truncS
      split
      · exact Int.le_refl _
      · split
        · exact Int.le_refl _
        · split
          · rw [hs]; exact Int.le_refl _
          · show s.used - _ ≤ _
            omega
    · split
      · unfold syncS
        split
        · exact Int.le_refl _
        · split
          · rw [hs]; exact Int.le_refl _
          · show (spendS s).used ≤ _; rw [hs]; exact Int.le_refl _
      · split
        · unfold syncDirS
          split
          · exact Int.le_refl _
          · split
            · rw [hs]; exact Int.le_refl _
            · show (spendS s).used ≤ _; rw [hs]; exact Int.le_refl _
        · split
          · unfold renameS
            split
            · exact Int.le_refl _
            · split
              · exact Int.le_refl _
              · split
                · exact Int.le_refl _
                · split
                  · exact Int.le_refl _
                  · split
                    · rw [hs]; exact Int.le_refl _
                    · have := lenOf_pos s st.to
                      show s.used - _ ≤ _
                      omega
          · unfold removeS
            split
            · exact Int.le_refl _
            · split
              · rw [hs]; exact Int.le_refl _
              · have := lenOf_pos s st.nm
                show s.used - _ ≤ _
                omega
/-- A disk whose fuse never blows. -/
def Dk.Lives (s : Dk) : Prop := s.fuse = -1 ∧ s.dead = false
theorem sp_lives {s : Dk} (h : s.Lives) : (spendS s).Lives ∧ spendE s = 0 ∧ ¬ s.fuse = 0 := by
  have h0 : ¬ s.fuse = 0 := by rw [h.1]; decide
  refine ⟨?_, if_neg h0, h0⟩
  unfold spendS
  rw [if_neg h0]
  exact ⟨by show (if s.fuse > 0 then s.fuse - 1 else s.fuse) = -1; rw [h.1]; rfl, h.2⟩
theorem ch_lives {st : SC} {s : Dk} (h : s.Lives) : (chS st s).Lives := by
  have hs := (sp_lives h).1
  have h0 := (sp_lives h).2.2
  unfold chS
  split
  · unfold createS
    split
    · exact h
    · split
      · exact h
      · split
        · exact h
        · first | exact hs | (rw [if_neg h0]; exact hs)
  · split
    · unfold appendS
      split
      · exact h
      · split
        · exact h
        · first | exact hs | (rw [if_neg h0]; exact hs)
    · split
      · unfold truncS
        split
        · exact h
        · split
          · exact h
          · first | exact hs | (rw [if_neg h0]; exact hs)
      · split
        · unfold syncS
          split
          · exact h
          · first | exact hs | (rw [if_neg h0]; exact hs)
        · split
          · unfold syncDirS
            split
            · exact h
            · first | exact hs | (rw [if_neg h0]; exact hs)
          · split
            · unfold renameS
              split
              · exact h
              · split
                · exact h
                · split
                  · exact h
                  · split
                    · exact h
                    · first | exact hs | (rw [if_neg h0]; exact hs)
            · unfold removeS
              split
              · exact h
              · first | exact hs | (rw [if_neg h0]; exact hs)
theorem begun_lives (q : Int) : (Dk.begun q).Lives := by
  unfold Dk.begun
  split <;> exact ⟨rfl, rfl⟩
/-! An append. -/
section
variable {s : Dk} {n : ByteArray} {bs : List UInt8} {N : Nat}
theorem app_no (h : atE n s ≠ 0) : appendE n bs s = atE n s ∧ appendS n bs s = s := ⟨if_pos h, if_pos h⟩
theorem app_over (h : atE n s = 0) (ho : 0 < bs.length ∧ s.quota - s.used < bs.length) : appendE n bs s = 33 ∧ appendS n bs s = s := by
  have h1 : ¬ atE n s ≠ 0 := by rw [h]; decide
  unfold appendE appendS
  exact ⟨by rw [if_neg h1, if_pos ho], by rw [if_neg h1, if_pos ho]⟩
theorem app_yes (hL : s.Lives) (hI : s.Inv N) (h : atE n s = 0) (ho : ¬ (0 < bs.length ∧ s.quota - s.used < bs.length)) :
    appendE n bs s = 0 ∧ (appendS n bs s).used = s.used + bs.length ∧ atE n (appendS n bs s) = 0 ∧ sizeV n (appendS n bs s) = sizeV n s + bs.length := by
  have h0 := (sp_lives hL).2.2
  have hE : appendE n bs s = 0 := by
    unfold appendE
    rw [if_neg (by rw [h]; decide), if_neg ho]
    exact (sp_lives hL).2.1
  have hS : appendS n bs s = { (spendS s).addC (s.num n) (.inl bs) with used := s.used + bs.length } := by
    unfold appendS
    rw [if_neg (by rw [h]; decide), if_neg ho, if_neg h0]
  obtain ⟨hd, hgn, k, hg⟩ := atE_zero.1 h
  have hk := hI.seen_ids _ ((get_mem hI.sorted).1 hg)
  have hseen : (appendS n bs s).seen = s.seen := by rw [hS]; exact spend_seen s
  have hdead : (appendS n bs s).dead = s.dead := by rw [hS]; show (spendS s).dead = _; rw [(sp_lives hL).1.2, hL.2]
  have hat : atE n (appendS n bs s) = 0 := by
    rw [← h]
    unfold atE
    rw [hdead, hseen]
  refine ⟨hE, by rw [hS], hat, ?_⟩
  unfold sizeV
  rw [if_neg (by rw [hat]; decide), if_neg (by rw [h]; decide)]
  have hnum : (appendS n bs s).num n = k := by unfold Dk.num; rw [hseen, hg]; rfl
  rw [hnum, getL_num hg]
  have hfl : (appendS n bs s).fl k = ⟨(s.fl k).safe, (s.fl k).chs ++ [.inl bs]⟩ := by
    rw [hS, getL_num hg]
    have := setF_fl (spendS s) k k ⟨((spendS s).fl k).safe, ((spendS s).fl k).chs ++ [.inl bs]⟩ (by rw [(spend_fields s).1]; exact hk)
    rw [if_pos rfl] at this
    rw [← spend_fl s k]
    exact this
  rw [hfl, seen_add]
  show ((((s.fl k).seen ++ bs).length : Nat) : Int) = _
  rw [List.length_append]
  omega
end
theorem used_image {s : Dk} {N : Nat} (h : s.Inv N) : s.used = (sumL (imageL s) : Nat) ∧ sumL (imageL s) ≤ 1073741824 := by
  rw [sum_image]
  have h1 := h.us
  have h2 := h.ub
  exact ⟨h1, by omega⟩
theorem quota_lives {q : Int} {s : Dk} (h : s.Lives) : (setQuotaS q s).Lives := by
  unfold setQuotaS
  split
  · exact h
  · exact h
theorem Dk.Inv.setQuota {q : Int} {s : Dk} {N : Nat} (h : s.Inv N) : (setQuotaS q s).Inv N := by
  unfold setQuotaS
  split
  · rename_i hq
    exact Dk.Inv.same (s' := { s with quota := q }) h rfl rfl rfl rfl (Nat.le_refl N) ⟨hq, h.rg.u, h.rg.f, h.rg.o⟩
  · exact h
theorem at_quota (q : Int) (s : Dk) : setQuotaE q = 0 → (setQuotaS q s).quota = q := by
  unfold setQuotaE setQuotaS
  split
  · intro _; rfl
  · intro h; cases h
end Go.Proofs.Ytomkieennkobcaa
