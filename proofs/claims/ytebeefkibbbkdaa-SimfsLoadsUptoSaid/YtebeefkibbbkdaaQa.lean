import Derived.Test.YtebeefkibbbkdaaSm27
import Derived.Test.YtebeefkibbbkdaaSm22
/- Images that are read. -/
namespace Go.Proofs.Ytebeefkibbbkdaa
open Go.RowKit Go.Maps

theorem flat2 : ∀ (l : List ((ByteArray × List UInt8) × Value)) (i : Nat) (p : (ByteArray × List UInt8) × Value), l[i]? = some p → (l.flatMap fcell)[i * 2]? = some (.string p.1.1) ∧ (l.flatMap fcell)[i * 2 + 1]? = some p.2
  | [], i, p, h => by simp at h
  | q :: r, 0, p, h => by
    simp at h
    subst h
    exact ⟨rfl, rfl⟩
  | q :: r, i + 1, p, h => by
    have h1 := flat2 r i p (by simpa using h)
    have hl : (fcell q).length = 2 := rfl
    rw [List.flatMap_cons, List.getElem?_append_right (by omega), List.getElem?_append_right (by omega), hl, show (i + 1) * 2 - 2 = i * 2 by omega, show (i + 1) * 2 + 1 - 2 = i * 2 + 1 by omega]
    exact h1
/-- An image, read at A: all below B. -/
def IM (w : World) (B : Nat) (A : Option Addr) (l : List (ByteArray × List UInt8)) : Prop := ∀ (i : Nat) (p : ByteArray × List UInt8), l[i]? = some p → ∃ (ad : Addr) (x : Option Addr) (c : Nat), A = some ad ∧ ad.block < B ∧ w.cell? (ad.add (i * 2)) = some (.string p.1) ∧ w.cell? ⟨(ad.add (i * 2)).block, (ad.add (i * 2)).off + 1, none⟩ = some (.slice x p.2.length c) ∧ Rd w B x (bv p.2)
theorem IM.below {w w' : World} {B : Nat} {A : Option Addr} {l : List (ByteArray × List UInt8)} (h : IM w B A l) (hb : Below B w w') : IM w' B A l := by
  intro i p hp
  obtain ⟨ad, x, c, h1, h2, h3, h4, h5⟩ := h i p hp
  exact ⟨ad, x, c, h1, h2, by rw [hb.cell (by rw [add_block]; exact h2)]; exact h3, by rw [hb.cell (by show (ad.add (i * 2)).block < B; rw [add_block]; exact h2)]; exact h4, h5.below hb⟩
theorem IM.mono {w : World} {B B' : Nat} {A : Option Addr} {l : List (ByteArray × List UInt8)} (h : IM w B A l) (hb : B ≤ B') : IM w B' A l := by
  intro i p hp
  obtain ⟨ad, x, c, h1, h2, h3, h4, h5⟩ := h i p hp
  exact ⟨ad, x, c, h1, by omega, h3, h4, h5.mono hb⟩
theorem IM.next {w w' : World} {A : Option Addr} {l : List (ByteArray × List UInt8)} (h : IM w w.heap.size A l) (hb : Below w.heap.size w w') : IM w' w'.heap.size A l := (h.below hb).mono hb.size
theorem IM.drewN {w : World} {B : Nat} {A : Option Addr} {l : List (ByteArray × List UInt8)} (h : IM w B A l) (k : Nat) : IM (w.drewN k) B A l := h.below (below_drewN (Below.refl _ _) k)
theorem FLs.im {w : World} {base : Nat} {fs : List (ByteArray × List UInt8)} {us : List Value} {b : Option Addr} {n cap : Nat} (h : FLs w base fs us (.slice b n cap)) : IM w w.heap.size b fs := by
  intro i p hp
  obtain ⟨h1, h2, h3⟩ := h
  have hi : i < fs.length := (List.getElem?_eq_some_iff.1 hp).1
  obtain ⟨u, hu⟩ : ∃ u, us[i]? = some u := ⟨_, List.getElem?_eq_getElem (by rw [h1]; exact hi)⟩
  obtain ⟨x, c, rfl, hr⟩ := h3 i p u hp hu
  have hz : (fs.zip us)[i]? = some (p, .slice x p.2.length c) := by rw [List.getElem?_zip_eq_some]; exact ⟨hp, hu⟩
  obtain ⟨g1, g2⟩ := flat2 _ _ _ hz
  have hn : 0 < fs.length := by omega
  have hrd : Rd w w.heap.size b ((fs.zip us).flatMap fcell) := by
    obtain ⟨g, cap', e, _, _, ho⟩ := Own.of_row h2 hn
    injection e with e1 _ _
    subst e1
    exact Own.rd_pre (ts := []) (by rw [List.append_nil]; exact ho)
  obtain ⟨ad, rfl, hb, c0⟩ := hrd _ _ g1
  obtain ⟨ad', e, _, c1⟩ := hrd _ _ g2
  cases e
  rw [← add_add'] at c1
  exact ⟨ad, x, c, rfl, hb, c0, c1, row_rd hr⟩
def sumL (l : List (ByteArray × List UInt8)) : Nat := (l.map fun p => p.2.length).sum
theorem sumL_snoc (l : List (ByteArray × List UInt8)) (p : ByteArray × List UInt8) : sumL (l ++ [p]) = sumL l + p.2.length := by simp [sumL]
theorem sumL_take (l : List (ByteArray × List UInt8)) (k : Nat) : sumL (l.take k) ≤ sumL l := by
  have e : sumL l = sumL (l.take k) + sumL (l.drop k) := by
    conv => lhs; rw [← List.take_append_drop k l]
    unfold sumL
    rw [List.map_append, List.sum_append]
  omega
end Go.Proofs.Ytebeefkibbbkdaa
/- Disks that live; how much there is: plain laws. -/
namespace Go.Proofs.Ytebeefkibbbkdaa
open Go.RowKit Go.Maps

theorem sum_image {s : Dk} : sumL (imageL s) = s.tot := by
  unfold sumL imageL Dk.tot
  rw [List.map_map]
  rfl
theorem at_not33 (n : ByteArray) (s : Dk) : atE n s ≠ 33 := by
  unfold atE
  split
  · decide
  · split
    · decide
    · split <;> decide
theorem sp_not33 (s : Dk) : spendE s ≠ 33 := by
  unfold spendE
  split <;> decide
theorem lenOf_pos (s : Dk) (n : ByteArray) : 0 ≤ lenOf s n := by
  unfold lenOf
  split <;> omega
theorem sp_used (s : Dk) : (spendS s).used = s.used := (spend_fields s).2.2.2.2
/-- A disk whose fuse never blows. -/
def Dk.Lives (s : Dk) : Prop := s.fuse = -1 ∧ s.dead = false
theorem sp_lives {s : Dk} (h : s.Lives) : (spendS s).Lives ∧ spendE s = 0 ∧ ¬ s.fuse = 0 := by
  have h0 : ¬ s.fuse = 0 := by rw [h.1]; decide
  refine ⟨?_, if_neg h0, h0⟩
  unfold spendS
  rw [if_neg h0]
  exact ⟨by show (if s.fuse > 0 then s.fuse - 1 else s.fuse) = -1; rw [h.1]; rfl, h.2⟩
/-! An append. -/
section
variable {s : Dk} {n : ByteArray} {bs : List UInt8} {N : Nat}
theorem app_no (h : atE n s ≠ 0) : appendE n bs s = atE n s ∧ appendS n bs s = s := ⟨if_pos h, if_pos h⟩
theorem app_over (h : atE n s = 0) (ho : 0 < bs.length ∧ s.quota - s.used < bs.length) : appendE n bs s = 33 ∧ appendS n bs s = s := by
  have h1 : ¬ atE n s ≠ 0 := by rw [h]; decide
  unfold appendE appendS
  exact ⟨by rw [if_neg h1, if_pos ho], by rw [if_neg h1, if_pos ho]⟩
theorem app_yes (hL : s.Lives) (hI : s.Inv N) (h : atE n s = 0) (ho : ¬ (0 < bs.length ∧ s.quota - s.used < bs.length)) :
    appendE n bs s = 0 ∧ (appendS n bs s).used = s.used + bs.length ∧ atE n (appendS n bs s) = 0 ∧ sizeV n (appendS n bs s) = sizeV n s + bs.length := by
  have h0 := (sp_lives hL).2.2
  have hE : appendE n bs s = 0 := by
    unfold appendE
    rw [if_neg (by rw [h]; decide), if_neg ho]
    exact (sp_lives hL).2.1
  have hS : appendS n bs s = { (spendS s).addC (s.num n) (.inl bs) with used := s.used + bs.length } := by
    unfold appendS
    rw [if_neg (by rw [h]; decide), if_neg ho, if_neg h0]
  obtain ⟨hd, hgn, k, hg⟩ := atE_zero.1 h
  have hk := hI.seen_ids _ ((get_mem hI.sorted).1 hg)
  have hseen : (appendS n bs s).seen = s.seen := by rw [hS]; exact spend_seen s
  have hdead : (appendS n bs s).dead = s.dead := by rw [hS]; show (spendS s).dead = _; rw [(sp_lives hL).1.2, hL.2]
  have hat : atE n (appendS n bs s) = 0 := by
    rw [← h]
    unfold atE
    rw [hdead, hseen]
  refine ⟨hE, by rw [hS], hat, ?_⟩
  unfold sizeV
  rw [if_neg (by rw [hat]; decide), if_neg (by rw [h]; decide)]
  have hnum : (appendS n bs s).num n = k := by unfold Dk.num; rw [hseen, hg]; rfl
  rw [hnum, getL_num hg]
  have hfl : (appendS n bs s).fl k = ⟨(s.fl k).safe, (s.fl k).chs ++ [.inl bs]⟩ := by
    rw [hS, getL_num hg]
    have := setF_fl (spendS s) k k ⟨((spendS s).fl k).safe, ((spendS s).fl k).chs ++ [.inl bs]⟩ (by rw [(spend_fields s).1]; exact hk)
    rw [if_pos rfl] at this
    rw [← spend_fl s k]
    exact this
  rw [hfl, seen_add]
  show ((((s.fl k).seen ++ bs).length : Nat) : Int) = _
  rw [List.length_append]
  omega
end
theorem used_image {s : Dk} {N : Nat} (h : s.Inv N) : s.used = (sumL (imageL s) : Nat) ∧ sumL (imageL s) ≤ 1073741824 := by
  rw [sum_image]
  have h1 := h.us
  have h2 := h.ub
  exact ⟨h1, by omega⟩
theorem quota_lives {q : Int} {s : Dk} (h : s.Lives) : (setQuotaS q s).Lives := by
  unfold setQuotaS
  split
  · exact h
  · exact h
theorem Dk.Inv.setQuota {q : Int} {s : Dk} {N : Nat} (h : s.Inv N) : (setQuotaS q s).Inv N := by
  unfold setQuotaS
  split
  · rename_i hq
    exact Dk.Inv.same (s' := { s with quota := q }) h rfl rfl rfl rfl (Nat.le_refl N) ⟨hq, h.rg.u, h.rg.f, h.rg.o⟩
  · exact h
theorem at_quota (q : Int) (s : Dk) : setQuotaE q = 0 → (setQuotaS q s).quota = q := by
  unfold setQuotaE setQuotaS
  split
  · intro _; rfl
  · intro h; cases h
theorem lv_setQuota {W w : World} {S : Nat → Prop} {d N : Nat} {s : Dk} (q : Int) (h : Lv W w S d s N) : Calls Try.prog 62 #[.pointer (some ⟨d, 0, none⟩), .int .i64 q] w fun e w' => e = .returned (.int .i64 (setQuotaE q)) ∧ Lv.Then W w w' S d (setQuotaS q s) N :=
  (setQuota_any S d s q w h.1).mono fun _ _ ⟨h1, h2⟩ => ⟨h1, h.did h2 h.2.2.2.setQuota⟩
theorem lv_image {W w : World} {S : Nat → Prop} {d N : Nat} {s : Dk} (h : Lv W w S d s N) (hN : N ≤ 999999999999) : Calls Try.prog 57 #[.pointer (some ⟨d, 0, none⟩)] w fun e w' => ∃ us b cap, e = .returned (.slice b (imageL s).length cap) ∧ FLs w' w.heap.size (imageL s) us (.slice b (imageL s).length cap) ∧ Below w.heap.size w w' :=
  image_any S d N s w h.1 h.2.2.2.ok h.2.2.2.sz.wide hN
theorem tell_Q {w : World} {S : Nat → Prop} {d : Nat} {s : Dk} {y : Int} (h : Disk w S d s) (hy : s.quota = y) : Calls Try.prog 51 #[.pointer (some ⟨d, 0, none⟩)] w fun e w' => e = .returned (.int .i64 y) ∧ w' = w := by
  subst hy
  exact tell_Quota S d s w h
theorem Lv.up {W w : World} {S : Nat → Prop} {d N M : Nat} {s : Dk} (h : Lv W w S d s N) (hM : N ≤ M) : Lv W w S d s M := ⟨h.1, h.2.1, h.2.2.1, h.2.2.2.mono hM⟩
theorem image_len {s : Dk} {N : Nat} (h : s.Inv N) : (imageL s).length ≤ N := by
  have h1 := fold_len s.dchs s.safe
  have h2 := h.sz.d
  unfold imageL
  rw [List.length_map]
  unfold Dk.seen
  omega
section
variable {W w : World} {S : Nat → Prop} {d N : Nat} {s : Dk}
theorem app_quota (n : ByteArray) (bs : List UInt8) (s : Dk) : (appendS n bs s).quota = s.quota := by
  have h := (spend_fields s).2.2.2.1
  unfold appendS
  split
  · rfl
  · split
    · rfl
    · split
      · exact h
      · exact h
theorem size_pos (h : s.Inv N) (n : ByteArray) : 0 ≤ sizeV n s ∧ sizeV n s ≤ 1073741824 := by
  unfold sizeV
  split
  · omega
  · rename_i h0
    obtain ⟨_, _, k, hg⟩ := atE_zero.1 (Classical.not_not.1 h0)
    rw [getL_num hg]
    have := h.len_le hg
    have := h.ub
    omega
end
/-! How much a crash leaves. -/
theorem crash_len {s : Dk} {N : Nat} (h : s.Inv N) (ps : List Int) : (crashL s ps).length ≤ N := by
  unfold crashL
  rw [tornAll_len]
  unfold leftL
  have h1 := fold_len (s.dchs.take (modn (pickV ps) (s.dchs.length + 1))) s.safe
  have h2 := h.sz.d
  rw [List.length_take] at h1
  omega
theorem torn_len {x : Fl} {m : Nat} (h : Short x m) (ps : List Int) : (tornS x ps).1.length ≤ m := by
  unfold tornS
  split
  · rename_i c hc
    obtain ⟨hi, hc'⟩ := List.getElem?_eq_some_iff.1 hc
    have h1 := h.step hi
    rw [hc'] at h1
    simp only [fdo, List.length_append] at h1
    simp only [List.length_append, List.length_take]
    omega
  · exact h _
theorem tornAll_small {s : Dk} {m : Nat} (h : ∀ k, Short (s.fl k) m) : ∀ (l : List KE) (ps : List Int), ∀ p ∈ (tornAll s l ps).1, p.2.length ≤ m
  | [], _, p, hp => by cases hp
  | (n, k) :: r, ps, p, hp => by
    rcases List.mem_cons.1 hp with rfl | hp
    · exact torn_len (h k) ps
    · exact tornAll_small h r _ p hp
theorem short_fl {s : Dk} {N : Nat} (h : s.Inv N) (k : Nat) : Short (s.fl k) 1073741824 := by
  by_cases hk : k < s.files.length
  · exact h.sz.m _ (fl_mem hk)
  · have e : s.fl k = Fl.new := by unfold Dk.fl; rw [List.getD_eq_getElem?_getD, List.getElem?_eq_none (by omega)]; rfl
    rw [e]
    intro i
    simp [Fl.new]
theorem crash_small {s : Dk} {N : Nat} (h : s.Inv N) (ps : List Int) : ∀ p ∈ crashL s ps, p.2.length ≤ 140737488351232 := fun p hp => Nat.le_trans (tornAll_small (short_fl h) _ _ p hp) (by decide)
theorem image_small {s : Dk} {N : Nat} (h : s.Inv N) : ∀ p ∈ imageL s, p.2.length ≤ 140737488351232 := fun p hp => by
  obtain ⟨q, _, rfl⟩ := List.mem_map.1 hp
  have := short_fl h q.2 (s.fl q.2).chs.length
  rw [List.take_length] at this
  exact Nat.le_trans this (by decide)
end Go.Proofs.Ytebeefkibbbkdaa
/- SimfsPast: what was, as plain lists: the moments of a file, of the directory. -/
namespace Go.Proofs.Ytebeefkibbbkdaa
open Go.RowKit Go.Maps

/-- A file's bytes at every moment since its last Sync. -/
def vers (x : Fl) : List (List UInt8) := (List.range (x.chs.length + 1)).map fun i => (x.chs.take i).foldl fdo x.safe
def growC : FC → Int
  | .inl b => (b.length : Int)
  | .inr _ => -1
/-- By how much an append made it longer. -/
def grow (x : Fl) : List Int := -1 :: x.chs.map growC
theorem vers_get (x : Fl) {j : Nat} (h : j ≤ x.chs.length) : (vers x)[j]? = some ((x.chs.take j).foldl fdo x.safe) := by
  unfold vers
  rw [List.getElem?_map, List.getElem?_range (by omega)]
  rfl
theorem vers_len (x : Fl) : (vers x).length = x.chs.length + 1 := by simp [vers]
theorem vers_snoc (x : Fl) (c : FC) : vers ⟨x.safe, x.chs ++ [c]⟩ = vers x ++ [fdo x.seen c] := by
  refine List.ext_getElem? fun i => ?_
  rcases Nat.lt_trichotomy i (x.chs.length + 1) with h | h | h
  · rw [List.getElem?_append_left (by rw [vers_len]; exact h), vers_get _ (show i ≤ (x.chs ++ [c]).length by rw [List.length_append, List.length_singleton]; omega), vers_get _ (by omega)]
    show some (((x.chs ++ [c]).take i).foldl fdo x.safe) = _
    rw [List.take_append_of_le_length (by omega)]
  · subst h
    rw [List.getElem?_append_right (by rw [vers_len]; exact Nat.le_refl _), vers_len, Nat.sub_self, vers_get _ (show x.chs.length + 1 ≤ (x.chs ++ [c]).length by simp)]
    show some (((x.chs ++ [c]).take (x.chs.length + 1)).foldl fdo x.safe) = some (fdo x.seen c)
    rw [List.take_of_length_le (by simp), List.foldl_append]
    rfl
  · rw [List.getElem?_eq_none (by rw [vers_len]; simp; omega), List.getElem?_eq_none (by rw [List.length_append, vers_len]; simp; omega)]
theorem grow_snoc (x : Fl) (c : FC) : grow ⟨x.safe, x.chs ++ [c]⟩ = grow x ++ [growC c] := by simp [grow]
theorem vers_sync (b : List UInt8) : vers ⟨b, []⟩ = [b] ∧ grow ⟨b, []⟩ = [-1] := ⟨rfl, rfl⟩
theorem vers_last (x : Fl) : (vers x)[(vers x).length - 1]? = some x.seen := by
  rw [vers_len, Nat.add_sub_cancel, vers_get x (Nat.le_refl _), List.take_length]
  rfl
theorem grow_get (x : Fl) {j : Nat} {c : FC} (h : x.chs[j]? = some c) : (grow x)[j + 1]? = some (growC c) := by
  show (x.chs.map growC)[j]? = _
  rw [List.getElem?_map, h]
  rfl
/-- Were these the bytes, perhaps with first bytes of the next append? -/
def WasAt (vs : List (List UInt8)) (gs : List Int) (b : List UInt8) (j : Nat) : Prop := ∃ x, vs[j]? = some x ∧ (x = b ∨ ∃ y g, vs[j + 1]? = some y ∧ gs[j + 1]? = some g ∧ 0 ≤ g ∧ x.length < b.length ∧ b.length ≤ y.length ∧ y.take b.length = b)
def Was (vs : List (List UInt8)) (gs : List Int) (b : List UInt8) : Prop := ∃ j, WasAt vs gs b j
theorem seen_was (x : Fl) : Was (vers x) (grow x) x.seen := ⟨_, _, vers_last x, .inl rfl⟩
theorem torn_was (x : Fl) (ps : List Int) : Was (vers x) (grow x) (tornS x ps).1 := by
  have hj : modn (pickV ps) (x.chs.length + 1) ≤ x.chs.length := by have := modn_lt (pickV ps) (show 0 < x.chs.length + 1 by omega); omega
  unfold tornS
  generalize modn (pickV ps) (x.chs.length + 1) = j at hj
  refine ⟨j, (x.chs.take j).foldl fdo x.safe, vers_get x hj, ?_⟩
  cases hc : x.chs[j]? with
  | none => exact .inl rfl
  | some c =>
    cases c with
    | inr n => exact .inl rfl
    | inl b =>
      obtain ⟨hl, _⟩ := List.getElem?_eq_some_iff.1 hc
      suffices H : ∀ t : Nat, ((x.chs.take j).foldl fdo x.safe = (x.chs.take j).foldl fdo x.safe ++ b.take t ∨ ∃ y g, (vers x)[j + 1]? = some y ∧ (grow x)[j + 1]? = some g ∧ 0 ≤ g ∧ ((x.chs.take j).foldl fdo x.safe).length < ((x.chs.take j).foldl fdo x.safe ++ b.take t).length ∧ ((x.chs.take j).foldl fdo x.safe ++ b.take t).length ≤ y.length ∧ y.take ((x.chs.take j).foldl fdo x.safe ++ b.take t).length = (x.chs.take j).foldl fdo x.safe ++ b.take t) from H _
      intro t
      by_cases h0 : b.take t = []
      · left; rw [h0, List.append_nil]
      · right
        have hlen : 0 < (b.take t).length := List.length_pos_iff.2 h0
        have hle : (b.take t).length ≤ b.length := by rw [List.length_take]; omega
        have hv : (vers x)[j + 1]? = some ((x.chs.take j).foldl fdo x.safe ++ b) := by
          rw [vers_get x (by omega), List.take_add_one, hc, List.foldl_append]
          rfl
        refine ⟨_, _, hv, grow_get x hc, by simp [growC], by rw [List.length_append]; omega, by rw [List.length_append, List.length_append]; omega, ?_⟩
        show ((x.chs.take j).foldl fdo x.safe ++ b).take ((x.chs.take j).foldl fdo x.safe ++ b.take t).length = _
        rw [List.length_append, List.take_length_add_append]
        congr 1
        rw [List.length_take]
        rcases Nat.le_total t b.length with h | h
        · rw [Nat.min_eq_left h]
        · rw [Nat.min_eq_right h, List.take_of_length_le h, List.take_length]
/-- The directory at every moment since the last SyncDir. -/
def dirAt (s : Dk) (i : Nat) : List KE := (s.dchs.take i).foldl ddo s.safe
theorem dirAt_last (s : Dk) : dirAt s s.dchs.length = s.seen := by unfold dirAt; rw [List.take_length]; rfl
theorem left_at (s : Dk) (ps : List Int) : leftL s ps = dirAt s (modn (pickV ps) (s.dchs.length + 1)) ∧ modn (pickV ps) (s.dchs.length + 1) ≤ s.dchs.length := by
  have := modn_lt (pickV ps) (show 0 < s.dchs.length + 1 by omega)
  exact ⟨rfl, by omega⟩
theorem tornAll_was (s : Dk) : ∀ (l : List KE) (ps : List Int) (i : Nat) (p : KE), l[i]? = some p → ∃ b, (tornAll s l ps).1[i]? = some (p.1, b) ∧ Was (vers (s.fl p.2)) (grow (s.fl p.2)) b
  | [], _, i, p, h => by simp at h
  | q :: r, ps, 0, p, h => by
    simp at h
    subst h
    exact ⟨_, rfl, torn_was (s.fl q.2) ps⟩
  | q :: r, ps, i + 1, p, h => by
    obtain ⟨b, h1, h2⟩ := tornAll_was s r (tornS (s.fl q.2) ps).2 i p (by simpa using h)
    exact ⟨b, h1, h2⟩
/-- What a statement keeps of a script, beside the disk. -/
structure PR (fs : List (List (List UInt8))) (gs : List (List Int)) (ds : List (List KE)) (s : Dk) : Prop where
  hf : fs = s.files.map vers
  hg : gs = s.files.map grow
  len : ds.length = s.dchs.length + 1
  hd : ∀ (i : Nat) (l : List KE), ds[i]? = some l → l.Perm (dirAt s i)
theorem PR.last {fs : List (List (List UInt8))} {gs : List (List Int)} {ds : List (List KE)} {s : Dk} (h : PR fs gs ds s) {l : List KE} (hl : ds[ds.length - 1]? = some l) : l.Perm s.seen := by
  have := h.hd _ l hl
  rw [h.len, Nat.add_sub_cancel, dirAt_last] at this
  exact this
end Go.Proofs.Ytebeefkibbbkdaa
/- SimfsPast: what is written down stays true; what a crash leaves is known: plain laws. -/
namespace Go.Proofs.Ytebeefkibbbkdaa
open Go.RowKit Go.Maps

abbrev VS := List (List (List UInt8))
abbrev GS := List (List Int)
def leftP (n : ByteArray) (l : List KE) : List KE := l.filter fun p => decide (¬ p.1 = n)
def leadP (n : ByteArray) (l : List KE) : Option Nat := (l.find? fun p => decide (p.1 = n)).map fun p => p.2
section
variable {fs : VS} {gs : GS} {ds : List (List KE)} {s : Dk} {N : Nat} {l : List KE}
theorem left_perm (hs : Sorted s.seen) (h : l.Perm s.seen) (n : ByteArray) : (leftP n l).Perm (delL n s.seen) := by
  have hn : l.Nodup := h.nodup_iff.2 hs.nodup
  refine (List.perm_ext_iff_of_nodup (hn.filter _) (hs.del n).nodup).2 fun x => ?_
  rw [List.mem_filter, mem_del, h.mem_iff]
  simp
theorem lead_is (hs : Sorted s.seen) (h : l.Perm s.seen) (n : ByteArray) : leadP n l = getL n s.seen := by
  unfold leadP
  cases hf : l.find? fun p => decide (p.1 = n) with
  | none =>
    symm
    show getL n s.seen = none
    refine get_none.2 fun x hx e => ?_
    have := List.find?_eq_none.1 hf x (h.mem_iff.2 hx)
    simp [e] at this
  | some p =>
    symm
    have h1 := List.find?_some hf
    have h2 := h.mem_iff.1 (List.mem_of_find?_eq_some hf)
    simp at h1
    refine (get_mem hs).2 ?_
    rw [← h1]
    exact h2
theorem dirAt_old {s' : Dk} {c : DC} (h1 : s'.safe = s.safe) (h2 : s'.dchs = s.dchs ++ [c]) {i : Nat} (hi : i ≤ s.dchs.length) : dirAt s' i = dirAt s i := by
  unfold dirAt
  rw [h1, h2, List.take_append_of_le_length hi]
theorem dirAt_new {s' : Dk} {c : DC} (h1 : s'.safe = s.safe) (h2 : s'.dchs = s.dchs ++ [c]) : dirAt s' (s.dchs.length + 1) = ddo s.seen c := by
  unfold dirAt
  rw [h1, h2, List.take_of_length_le (by simp), List.foldl_append]
  rfl
/-- The directory turns. -/
theorem PR.dir (h : PR fs gs ds s) {s' : Dk} {c : DC} {m : List KE} {fs' : VS} {gs' : GS} (h1 : s'.safe = s.safe) (h2 : s'.dchs = s.dchs ++ [c]) (hf : fs' = s'.files.map vers) (hg : gs' = s'.files.map grow) (hm : m.Perm (ddo s.seen c)) : PR fs' gs' (ds ++ [m]) s' := by
  refine ⟨hf, hg, by rw [List.length_append, h.len, h2, List.length_append]; rfl, fun i l hl => ?_⟩
  rcases Nat.lt_trichotomy i ds.length with hi | hi | hi
  · rw [List.getElem?_append_left hi] at hl
    rw [dirAt_old h1 h2 (by rw [h.len] at hi; omega)]
    exact h.hd i l hl
  · subst hi
    rw [List.getElem?_append_right (Nat.le_refl _), Nat.sub_self] at hl
    simp at hl
    subst hl
    rw [h.len, dirAt_new h1 h2]
    exact hm
  · rw [List.getElem?_eq_none (by simp; omega)] at hl
    cases hl
theorem map_setF {α : Type} (g : Fl → α) (k : Nat) (x : Fl) : (s.setF k x).files.map g = (s.files.map g).set k (g x) := by
  show (s.files.set k x).map g = _
  rw [List.map_set]
/-- A file turns. -/
theorem PR.file (h : PR fs gs ds s) {s' : Dk} {k : Nat} {x : Fl} (h1 : s'.safe = s.safe) (h2 : s'.dchs = s.dchs) (hf : s'.files = s.files.set k x) : PR (fs.set k (vers x)) (gs.set k (grow x)) ds s' := by
  refine ⟨by rw [h.hf, hf, List.map_set], by rw [h.hg, hf, List.map_set], by rw [h2]; exact h.len, fun i l hl => ?_⟩
  have : dirAt s' i = dirAt s i := by unfold dirAt; rw [h1, h2]
  rw [this]
  exact h.hd i l hl
/-- Does the image show the directory l, each file with bytes that it had? -/
def Fits (fs : VS) (gs : GS) (l : List KE) (image : List (ByteArray × List UInt8)) : Prop :=
  l.length = image.length ∧ (∀ (i : Nat) (p : ByteArray × List UInt8), image[i]? = some p → ∃ f vs g, leadP p.1 l = some f ∧ fs[f]? = some vs ∧ gs[f]? = some g ∧ Was vs g p.2) ∧ image.Pairwise fun a b => kc a.1 b.1 = -1
theorem lead_at {d : List KE} (hs : Sorted d) (h : l.Perm d) {p : KE} (hp : p ∈ d) : leadP p.1 l = some p.2 := by
  have := lead_is (s := ⟨[], d, [], 0, 0, 0, false, 0⟩) (l := l) hs h p.1
  rw [this]
  exact (get_mem hs).2 hp
theorem pr_get (h : PR fs gs ds s) {k : Nat} (hk : k < s.files.length) : fs[k]? = some (vers (s.fl k)) ∧ gs[k]? = some (grow (s.fl k)) := by
  have hx : s.files[k]? = some (s.fl k) := fl_get hk
  rw [h.hf, h.hg, List.getElem?_map, List.getElem?_map, hx]
  exact ⟨rfl, rfl⟩
theorem crash_known (h : PR fs gs ds s) (hi : s.Inv N) (ps : List Int) : ∃ (k : Nat) (l : List KE), ds[k]? = some l ∧ Fits fs gs l (crashL s ps) := by
  obtain ⟨e, hle⟩ := left_at s ps
  generalize modn (pickV ps) (s.dchs.length + 1) = k at e hle
  obtain ⟨l, hl⟩ : ∃ l, ds[k]? = some l := ⟨_, List.getElem?_eq_getElem (by rw [h.len]; omega)⟩
  have hp := h.hd k l hl
  have hsd : Sorted (dirAt s k) := Sorted.fold hi.ok.sorted
  have hid : ∀ p ∈ dirAt s k, p.2 < s.files.length := ids_fold hi.ids (fun m f hf => hi.dids m f (List.mem_of_mem_take hf)) hi.ok.sorted (okD_take _ hi.ok.okd)
  refine ⟨k, l, hl, ?_, fun i p hpi => ?_, ?_⟩
  · unfold crashL
    rw [tornAll_len, e, hp.length_eq]
  · unfold crashL at hpi
    rw [e] at hpi
    have hil : i < (dirAt s k).length := by have := (List.getElem?_eq_some_iff.1 hpi).1; rwa [tornAll_len] at this
    obtain ⟨b, g1, g2⟩ := tornAll_was s (dirAt s k) ps.tail i _ (List.getElem?_eq_getElem hil)
    rw [g1] at hpi
    injection hpi with hpi
    subst hpi
    have hm := List.getElem_mem hil
    obtain ⟨v1, v2⟩ := pr_get h (hid _ hm)
    exact ⟨_, _, _, lead_at hsd hp hm, v1, v2, g2⟩
  · unfold crashL
    rw [e, List.pairwise_iff_getElem]
    intro i j hi' hj' hij
    have hil : i < (dirAt s k).length := by rwa [tornAll_len] at hi'
    have hjl : j < (dirAt s k).length := by rwa [tornAll_len] at hj'
    obtain ⟨b, g1, _⟩ := tornAll_was s (dirAt s k) ps.tail i _ (List.getElem?_eq_getElem hil)
    obtain ⟨c, g2, _⟩ := tornAll_was s (dirAt s k) ps.tail j _ (List.getElem?_eq_getElem hjl)
    rw [List.getElem?_eq_getElem hi'] at g1
    rw [List.getElem?_eq_getElem hj'] at g2
    injection g1 with g1
    injection g2 with g2
    rw [g1, g2]
    exact List.pairwise_iff_getElem.1 hsd i j hil hjl hij
theorem image_known (h : PR fs gs ds s) (hi : s.Inv N) : ∃ (k : Nat) (l : List KE), ds[k]? = some l ∧ Fits fs gs l (imageL s) := by
  obtain ⟨l, hl⟩ : ∃ l, ds[s.dchs.length]? = some l := ⟨_, List.getElem?_eq_getElem (by rw [h.len]; omega)⟩
  have hp := h.hd _ l hl
  rw [dirAt_last] at hp
  refine ⟨_, l, hl, ?_, fun i p hpi => ?_, ?_⟩
  · unfold imageL
    rw [List.length_map, hp.length_eq]
  · obtain ⟨q, hq, rfl⟩ := List.mem_map.1 (List.mem_of_getElem? hpi)
    obtain ⟨v1, v2⟩ := pr_get h (hi.seen_ids q hq)
    exact ⟨_, _, _, lead_at hi.sorted hp hq, v1, v2, seen_was _⟩
  · unfold imageL
    rw [List.pairwise_map]
    exact hi.sorted
end
end Go.Proofs.Ytebeefkibbbkdaa
/- Memory of the call's own, each block with a label: rows, versions of a file. -/
namespace Go.Proofs.Ytebeefkibbbkdaa
open Go.RowKit Go.Maps

/-- The row's block has that label. -/
def Lb (L : Nat → Nat) (v : Value) (a : Nat) : Prop := ∀ b, v.ownBlock = some b → L b = a
/-- Versions of a file. -/
def VerM (w : World) (L : Nat → Nat) (a : Nat) (u : Value) (vs : List (List UInt8)) : Prop :=
  ∃ us : List Value, w.ownsRow 0 22 1 u vs.length us ∧ Lb L u a ∧ ∀ (j : Nat) (x : List UInt8) (v : Value), vs[j]? = some x → us[j]? = some v → w.ownsRow 0 5 1 v x.length (bv x) ∧ Lb L v 5
def GrM (w : World) (L : Nat → Nat) (a : Nat) (u : Value) (g : List Int) : Prop := w.ownsRow 0 3 1 u g.length (g.map (Value.int .i64)) ∧ Lb L u a
/-- What a step did to labels and blocks. -/
structure Ex (w w' : World) (L L' : Nat → Nat) : Prop where
  old : ∀ b, L b ≠ 0 → L' b = L b
  new : ∀ b, L' b ≠ 0 → L b ≠ 0 ∨ w.heap.size ≤ b
  chg : Chg (fun b => L b ≠ 0) w w'
open Classical in
noncomputable def relab (L : Nat → Nat) (v : Value) (a : Nat) : Nat → Nat := fun b => if v.ownBlock = some b then a else L b
section
variable {w wx w1 w' : World} {L L' L1 : Nat → Nat} {pp a f n c g : Nat} {vF vG vD u u' x : Value} {uF uG uD us : List Value} {fs : VS} {gs : GS} {ds : List (List KE)}
theorem Ex.trans {a b c : World} {L1 L2 L3 : Nat → Nat} (h : Ex a b L1 L2) (k : Ex b c L2 L3) : Ex a c L1 L3 := by
  have ho : ∀ j, L1 j ≠ 0 → L2 j ≠ 0 := fun j hj => by rw [h.old j hj]; exact hj
  refine ⟨fun j hj => (k.old j (ho j hj)).trans (h.old j hj), fun j hj => ?_, h.chg.trans' k.chg fun j hj hs => ?_⟩
  · rcases k.new j hj with h1 | h1
    · exact h.new j h1
    · exact .inr (Nat.le_trans h.chg.size h1)
  · rcases h.new j hs with h1 | h1
    · exact h1
    · omega
theorem Ex.below (hb : Below w.heap.size w w') (L : Nat → Nat) : Ex w w' L L := ⟨fun _ _ => rfl, fun _ h => .inl h, Chg.of_below hb _⟩
theorem relab_self (v : Value) (a : Nat) (L : Nat → Nat) : Lb (relab L v a) v a := fun b hb => by unfold relab; rw [if_pos hb]
theorem relab_off {v : Value} {b : Nat} (h : v.ownBlock ≠ some b) : relab L v a b = L b := by unfold relab; rw [if_neg h]
/-- The row is where it was, or it is new. -/
def Where (w : World) (L : Nat → Nat) (v : Value) (a : Nat) : Prop := ∀ b, v.ownBlock = some b → L b = a ∨ w.heap.size ≤ b
theorem Where.old {v : Value} (h : Where w L v a) (hlt : ∀ b, L b ≠ 0 → b < w.heap.size) : ∀ b, L b ≠ 0 → relab L v a b = L b := fun b hb => by
  by_cases e : v.ownBlock = some b
  · rcases h b e with h1 | h1
    · unfold relab; rw [if_pos e, h1]
    · have := hlt b hb; omega
  · exact relab_off e
theorem Where.new {v : Value} (h : Where w L v a) (ha : a ≠ 0) : ∀ b, relab L v a b ≠ 0 → L b ≠ 0 ∨ w.heap.size ≤ b := fun b hb => by
  by_cases e : v.ownBlock = some b
  · rcases h b e with h1 | h1
    · left; rw [h1]; exact ha
    · exact .inr h1
  · left; rwa [relab_off e] at hb
theorem Where.lt {v : Value} (hlt : ∀ b, L b ≠ 0 → b < w.heap.size) (hs : w.heap.size ≤ w'.heap.size) (hv : ∀ b, v.ownBlock = some b → b < w'.heap.size) : ∀ b, relab L v a b ≠ 0 → b < w'.heap.size := fun b hb => by
  by_cases e : v.ownBlock = some b
  · exact hv b e
  · rw [relab_off e] at hb
    exact Nat.lt_of_lt_of_le (hlt b hb) hs
theorem Lb.old {v : Value} (h : Lb L v a) (ha : a ≠ 0) (ho : ∀ b, L b ≠ 0 → L' b = L b) : Lb L' v a := fun b hb => by
  have h1 := h b hb
  rw [ho b (by rw [h1]; exact ha), h1]
/-- What was there of label a is there. -/
def Same (w w' : World) (L : Nat → Nat) (a : Nat) : Prop := ∀ b, L b = a → w'.heap[b]? = w.heap[b]?
theorem row_same {e : TypeId} {z n : Nat} {v : Value} {xs : List Value} (h : w.ownsRow 0 e z v n xs) (hl : Lb L v a) (hs : Same w w' L a) : w'.ownsRow 0 e z v n xs := row_block h fun k hk => hs k (hl k hk)
theorem VerM.keep {vs : List (List UInt8)} (h : VerM w L a u vs) (ha : a ≠ 0) (hs : Same w w' L a) (h5 : Same w w' L 5) (ho : ∀ b, L b ≠ 0 → L' b = L b) : VerM w' L' a u vs := by
  obtain ⟨us, h1, h2, h3⟩ := h
  exact ⟨us, row_same h1 h2 hs, h2.old ha ho, fun j x v hx hv => ⟨row_same (h3 j x v hx hv).1 (h3 j x v hx hv).2 h5, (h3 j x v hx hv).2.old (by decide) ho⟩⟩
/-- The world behind a row's turn and the store of its header. -/
theorem same_put {v0 v : Value} {p : Addr} (hc : Chg (fun b => v0.ownBlock = some b) w w1) (hlt : ∀ b, L b ≠ 0 → b < w.heap.size) {i j : Nat} (h0 : Lb L v0 i) (hp : L p.block = j) (ha : a ≠ 0) (h1 : a ≠ i) (h2 : a ≠ j) : Same w (w1.setCell p v) L a := fun b hb => by
  rw [Below.heap_setCell w1 p v b fun e => h2 (by rw [← hb, e, hp])]
  exact hc.block b (hlt b (by rw [hb]; exact ha)) fun e => h1 (by rw [← hb, h0 b e])
theorem ex_put {v0 v : Value} {p : Addr} {i : Nat} (hc : Chg (fun b => v0.ownBlock = some b) w w1) (hlt : ∀ b, L b ≠ 0 → b < w.heap.size) (h0 : Lb L v0 i) (hi : i ≠ 0) (hp : L p.block ≠ 0) (hw : Where w L v i) : Ex w (w1.setCell p v) L (relab L v i) :=
  ⟨hw.old hlt, hw.new hi, (hc.mono fun b _ hb => by rw [h0 b hb]; exact hi).setCell (.inl hp) _⟩
end
end Go.Proofs.Ytebeefkibbbkdaa
