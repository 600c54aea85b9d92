import Derived.Test.YtnecafhakkjbpaaSmi
/- Disks that live; how much there is: plain laws. -/
namespace Go.Proofs.Ytnecafhakkjbpaa
open Go.RowKit Go.Maps

theorem sum_image {s : Dk} : sumL (imageL s) = s.tot := by
  unfold sumL imageL Dk.tot
  rw [List.map_map]
  rfl
theorem at_not33 (n : ByteArray) (s : Dk) : atE n s ≠ 33 := by
  unfold atE
  split
  · decide
  · split
    · decide
    · split <;> decide
theorem sp_not33 (s : Dk) : spendE s ≠ 33 := by
  unfold spendE
  split <;> decide
theorem lenOf_pos (s : Dk) (n : ByteArray) : 0 ≤ lenOf s n := by
  unfold lenOf
  split <;> omega
theorem sp_used (s : Dk) : (spendS s).used = s.used := (spend_fields s).2.2.2.2
/-- A disk whose fuse never blows. -/
def Dk.Lives (s : Dk) : Prop := s.fuse = -1 ∧ s.dead = false
theorem sp_lives {s : Dk} (h : s.Lives) : (spendS s).Lives ∧ spendE s = 0 ∧ ¬ s.fuse = 0 := by
  have h0 : ¬ s.fuse = 0 := by rw [h.1]; decide
  refine ⟨?_, if_neg h0, h0⟩
  unfold spendS
  rw [if_neg h0]
  exact ⟨by show (if s.fuse > 0 then s.fuse - 1 else s.fuse) = -1; rw [h.1]; rfl, h.2⟩
/-! An append. -/
section
variable {s : Dk} {n : ByteArray} {bs : List UInt8} {N : Nat}
theorem app_no (h : atE n s ≠ 0) : appendE n bs s = atE n s ∧ appendS n bs s = s := ⟨if_pos h, if_pos h⟩
theorem app_over (h : atE n s = 0) (ho : 0 < bs.length ∧ s.quota - s.used < bs.length) : appendE n bs s = 33 ∧ appendS n bs s = s := by
  have h1 : ¬ atE n s ≠ 0 := by rw [h]; decide
  unfold appendE appendS
  exact ⟨by rw [if_neg h1, if_pos ho], by rw [if_neg h1, if_pos ho]⟩
theorem app_yes (hL : s.Lives) (hI : s.Inv N) (h : atE n s = 0) (ho : ¬ (0 < bs.length ∧ s.quota - s.used < bs.length)) :
    appendE n bs s = 0 ∧ (appendS n bs s).used = s.used + bs.length ∧ atE n (appendS n bs s) = 0 ∧ sizeV n (appendS n bs s) = sizeV n s + bs.length := by
  have h0 := (sp_lives hL).2.2
  have hE : appendE n bs s = 0 := by
    unfold appendE
    rw [if_neg (by rw [h]; decide), if_neg ho]
    exact (sp_lives hL).2.1
  have hS : appendS n bs s = { (spendS s).addC (s.num n) (.inl bs) with used := s.used + bs.length } := by
    unfold appendS
    rw [if_neg (by rw [h]; decide), if_neg ho, if_neg h0]
  obtain ⟨hd, hgn, k, hg⟩ := atE_zero.1 h
  have hk := hI.seen_ids _ ((get_mem hI.sorted).1 hg)
  have hseen : (appendS n bs s).seen = s.seen := by rw [hS]; exact spend_seen s
  have hdead : (appendS n bs s).dead = s.dead := by rw [hS]; show (spendS s).dead = _; rw [(sp_lives hL).1.2, hL.2]
  have hat : atE n (appendS n bs s) = 0 := by
    rw [← h]
    unfold atE
    rw [hdead, hseen]
  refine ⟨hE, by rw [hS], hat, ?_⟩
  unfold sizeV
  rw [if_neg (by rw [hat]; decide), if_neg (by rw [h]; decide)]
  have hnum : (appendS n bs s).num n = k := by unfold Dk.num; rw [hseen, hg]; rfl
  rw [hnum, getL_num hg]
  have hfl : (appendS n bs s).fl k = ⟨(s.fl k).safe, (s.fl k).chs ++ [.inl bs]⟩ := by
    rw [hS, getL_num hg]
    have := setF_fl (spendS s) k k ⟨((spendS s).fl k).safe, ((spendS s).fl k).chs ++ [.inl bs]⟩ (by rw [(spend_fields s).1]; exact hk)
    rw [if_pos rfl] at this
    rw [← spend_fl s k]
    exact this
  rw [hfl, seen_add]
  show ((((s.fl k).seen ++ bs).length : Nat) : Int) = _
  rw [List.length_append]
  omega
end
theorem used_image {s : Dk} {N : Nat} (h : s.Inv N) : s.used = (sumL (imageL s) : Nat) ∧ sumL (imageL s) ≤ 1073741824 := by
  rw [sum_image]
  have h1 := h.us
  have h2 := h.ub
  exact ⟨h1, by omega⟩
theorem quota_lives {q : Int} {s : Dk} (h : s.Lives) : (setQuotaS q s).Lives := by
  unfold setQuotaS
  split
  · exact h
  · exact h
theorem Dk.Inv.setQuota {q : Int} {s : Dk} {N : Nat} (h : s.Inv N) : (setQuotaS q s).Inv N := by
  unfold setQuotaS
  split
  · rename_i hq
    exact Dk.Inv.same (s' := { s with quota := q }) h rfl rfl rfl rfl (Nat.le_refl N) ⟨hq, h.rg.u, h.rg.f, h.rg.o⟩
  · exact h
theorem at_quota (q : Int) (s : Dk) : setQuotaE q = 0 → (setQuotaS q s).quota = q := by
  unfold setQuotaE setQuotaS
  split
  · intro _; rfl
  · intro h; cases h
theorem lv_setQuota {W w : World} {S : Nat → Prop} {d N : Nat} {s : Dk} (q : Int) (h : Lv W w S d s N) : Calls Try.prog 61 #[.pointer (some ⟨d, 0, none⟩), .int .i64 q] w fun e w' => e = .returned (.int .i64 (setQuotaE q)) ∧ Lv.Then W w w' S d (setQuotaS q s) N :=
  (setQuota_any S d s q w h.1).mono fun _ _ ⟨h1, h2⟩ => ⟨h1, h.did h2 h.2.2.2.setQuota⟩
theorem lv_image {W w : World} {S : Nat → Prop} {d N : Nat} {s : Dk} (h : Lv W w S d s N) (hN : N ≤ 999999999999) : Calls Try.prog 23 #[.pointer (some ⟨d, 0, none⟩)] w fun e w' => ∃ us b cap, e = .returned (.slice b (imageL s).length cap) ∧ FLs w' w.heap.size (imageL s) us (.slice b (imageL s).length cap) ∧ Below w.heap.size w w' :=
  image_any S d N s w h.1 h.2.2.2.ok h.2.2.2.sz.wide hN
theorem tell_Q {w : World} {S : Nat → Prop} {d : Nat} {s : Dk} {y : Int} (h : Disk w S d s) (hy : s.quota = y) : Calls Try.prog 51 #[.pointer (some ⟨d, 0, none⟩)] w fun e w' => e = .returned (.int .i64 y) ∧ w' = w := by
  subst hy
  exact tell_Quota S d s w h
theorem Lv.up {W w : World} {S : Nat → Prop} {d N M : Nat} {s : Dk} (h : Lv W w S d s N) (hM : N ≤ M) : Lv W w S d s M := ⟨h.1, h.2.1, h.2.2.1, h.2.2.2.mono hM⟩
theorem image_len {s : Dk} {N : Nat} (h : s.Inv N) : (imageL s).length ≤ N := by
  have h1 := fold_len s.dchs s.safe
  have h2 := h.sz.d
  unfold imageL
  rw [List.length_map]
  unfold Dk.seen
  omega
section
variable {W w : World} {S : Nat → Prop} {d N : Nat} {s : Dk}
theorem app_quota (n : ByteArray) (bs : List UInt8) (s : Dk) : (appendS n bs s).quota = s.quota := by
  have h := (spend_fields s).2.2.2.1
  unfold appendS
  split
  · rfl
  · split
    · rfl
    · split
      · exact h
      · exact h
theorem size_pos (h : s.Inv N) (n : ByteArray) : 0 ≤ sizeV n s ∧ sizeV n s ≤ 1073741824 := by
  unfold sizeV
  split
  · omega
  · rename_i h0
    obtain ⟨_, _, k, hg⟩ := atE_zero.1 (Classical.not_not.1 h0)
    rw [getL_num hg]
    have := h.len_le hg
    have := h.ub
    omega
end
/-! How much a crash leaves. -/
theorem crash_len {s : Dk} {N : Nat} (h : s.Inv N) (ps : List Int) : (crashL s ps).length ≤ N := by
  unfold crashL
  rw [tornAll_len]
  unfold leftL
  have h1 := fold_len (s.dchs.take (modn (pickV ps) (s.dchs.length + 1))) s.safe
  have h2 := h.sz.d
  rw [List.length_take] at h1
  omega
theorem torn_len {x : Fl} {m : Nat} (h : Short x m) (ps : List Int) : (tornS x ps).1.length ≤ m := by
  unfold tornS
  split
  · rename_i c hc
    obtain ⟨hi, hc'⟩ := List.getElem?_eq_some_iff.1 hc
    have h1 := h.step hi
    rw [hc'] at h1
    simp only [fdo, List.length_append] at h1
    simp only [List.length_append, List.length_take]
    omega
  · exact h _
theorem tornAll_small {s : Dk} {m : Nat} (h : ∀ k, Short (s.fl k) m) : ∀ (l : List KE) (ps : List Int), ∀ p ∈ (tornAll s l ps).1, p.2.length ≤ m
  | [], _, p, hp => by cases hp
  | (n, k) :: r, ps, p, hp => by
    rcases List.mem_cons.1 hp with rfl | hp
    · exact torn_len (h k) ps
    · exact tornAll_small h r _ p hp
theorem short_fl {s : Dk} {N : Nat} (h : s.Inv N) (k : Nat) : Short (s.fl k) 1073741824 := by
  by_cases hk : k < s.files.length
  · exact h.sz.m _ (fl_mem hk)
  · have e : s.fl k = Fl.new := by unfold Dk.fl; rw [List.getD_eq_getElem?_getD, List.getElem?_eq_none (by omega)]; rfl
    rw [e]
    intro i
    simp [Fl.new]
theorem crash_small {s : Dk} {N : Nat} (h : s.Inv N) (ps : List Int) : ∀ p ∈ crashL s ps, p.2.length ≤ 140737488351232 := fun p hp => Nat.le_trans (tornAll_small (short_fl h) _ _ p hp) (by decide)
theorem image_small {s : Dk} {N : Nat} (h : s.Inv N) : ∀ p ∈ imageL s, p.2.length ≤ 140737488351232 := fun p hp => by
  obtain ⟨q, _, rfl⟩ := List.mem_map.1 hp
  have := short_fl h q.2 (s.fl q.2).chs.length
  rw [List.take_length] at this
  exact Nat.le_trans this (by decide)
end Go.Proofs.Ytnecafhakkjbpaa
