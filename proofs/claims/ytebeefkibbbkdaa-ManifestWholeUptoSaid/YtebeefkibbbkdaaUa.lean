import Derived.Test.YtebeefkibbbkdaaSm27
import Derived.Defers
import Derived.Deep.QuietTactic
import Derived.BigQuiet
/- Images that are read. -/
namespace Go.Proofs.Ytebeefkibbbkdaa
open Go.RowKit Go.Maps

theorem flat2 : ∀ (l : List ((ByteArray × List UInt8) × Value)) (i : Nat) (p : (ByteArray × List UInt8) × Value), l[i]? = some p → (l.flatMap fcell)[i * 2]? = some (.string p.1.1) ∧ (l.flatMap fcell)[i * 2 + 1]? = some p.2
  | [], i, p, h => by simp at h
  | q :: r, 0, p, h => by
    simp at h
    subst h
    exact ⟨rfl, rfl⟩
  | q :: r, i + 1, p, h => by
    have h1 := flat2 r i p (by simpa using h)
    have hl : (fcell q).length = 2 := rfl
    rw [List.flatMap_cons, List.getElem?_append_right (by omega), List.getElem?_append_right (by omega), hl, show (i + 1) * 2 - 2 = i * 2 by omega, show (i + 1) * 2 + 1 - 2 = i * 2 + 1 by omega]
    exact h1
/-- An image, read at A: all below B. -/
def IM (w : World) (B : Nat) (A : Option Addr) (l : List (ByteArray × List UInt8)) : Prop := ∀ (i : Nat) (p : ByteArray × List UInt8), l[i]? = some p → ∃ (ad : Addr) (x : Option Addr) (c : Nat), A = some ad ∧ ad.block < B ∧ w.cell? (ad.add (i * 2)) = some (.string p.1) ∧ w.cell? ⟨(ad.add (i * 2)).block, (ad.add (i * 2)).off + 1, none⟩ = some (.slice x p.2.length c) ∧ Rd w B x (bv p.2)
theorem IM.below {w w' : World} {B : Nat} {A : Option Addr} {l : List (ByteArray × List UInt8)} (h : IM w B A l) (hb : Below B w w') : IM w' B A l := by
  intro i p hp
  obtain ⟨ad, x, c, h1, h2, h3, h4, h5⟩ := h i p hp
  exact ⟨ad, x, c, h1, h2, by rw [hb.cell (by rw [add_block]; exact h2)]; exact h3, by rw [hb.cell (by show (ad.add (i * 2)).block < B; rw [add_block]; exact h2)]; exact h4, h5.below hb⟩
theorem IM.mono {w : World} {B B' : Nat} {A : Option Addr} {l : List (ByteArray × List UInt8)} (h : IM w B A l) (hb : B ≤ B') : IM w B' A l := by
  intro i p hp
  obtain ⟨ad, x, c, h1, h2, h3, h4, h5⟩ := h i p hp
  exact ⟨ad, x, c, h1, by omega, h3, h4, h5.mono hb⟩
theorem IM.next {w w' : World} {A : Option Addr} {l : List (ByteArray × List UInt8)} (h : IM w w.heap.size A l) (hb : Below w.heap.size w w') : IM w' w'.heap.size A l := (h.below hb).mono hb.size
theorem IM.drewN {w : World} {B : Nat} {A : Option Addr} {l : List (ByteArray × List UInt8)} (h : IM w B A l) (k : Nat) : IM (w.drewN k) B A l := h.below (below_drewN (Below.refl _ _) k)
theorem FLs.im {w : World} {base : Nat} {fs : List (ByteArray × List UInt8)} {us : List Value} {b : Option Addr} {n cap : Nat} (h : FLs w base fs us (.slice b n cap)) : IM w w.heap.size b fs := by
  intro i p hp
  obtain ⟨h1, h2, h3⟩ := h
  have hi : i < fs.length := (List.getElem?_eq_some_iff.1 hp).1
  obtain ⟨u, hu⟩ : ∃ u, us[i]? = some u := ⟨_, List.getElem?_eq_getElem (by rw [h1]; exact hi)⟩
  obtain ⟨x, c, rfl, hr⟩ := h3 i p u hp hu
  have hz : (fs.zip us)[i]? = some (p, .slice x p.2.length c) := by rw [List.getElem?_zip_eq_some]; exact ⟨hp, hu⟩
  obtain ⟨g1, g2⟩ := flat2 _ _ _ hz
  have hn : 0 < fs.length := by omega
  have hrd : Rd w w.heap.size b ((fs.zip us).flatMap fcell) := by
    obtain ⟨g, cap', e, _, _, ho⟩ := Own.of_row h2 hn
    injection e with e1 _ _
    subst e1
    exact Own.rd_pre (ts := []) (by rw [List.append_nil]; exact ho)
  obtain ⟨ad, rfl, hb, c0⟩ := hrd _ _ g1
  obtain ⟨ad', e, _, c1⟩ := hrd _ _ g2
  cases e
  rw [← add_add'] at c1
  exact ⟨ad, x, c, rfl, hb, c0, c1, row_rd hr⟩
def sumL (l : List (ByteArray × List UInt8)) : Nat := (l.map fun p => p.2.length).sum
theorem sumL_snoc (l : List (ByteArray × List UInt8)) (p : ByteArray × List UInt8) : sumL (l ++ [p]) = sumL l + p.2.length := by simp [sumL]
theorem sumL_take (l : List (ByteArray × List UInt8)) (k : Nat) : sumL (l.take k) ≤ sumL l := by
  have e : sumL l = sumL (l.take k) + sumL (l.drop k) := by
    conv => lhs; rw [← List.take_append_drop k l]
    unfold sumL
    rw [List.map_append, List.sum_append]
  omega
end Go.Proofs.Ytebeefkibbbkdaa
/- Disks that live; how much there is: plain laws. -/
namespace Go.Proofs.Ytebeefkibbbkdaa
open Go.RowKit Go.Maps

theorem sum_image {s : Dk} : sumL (imageL s) = s.tot := by
  unfold sumL imageL Dk.tot
  rw [List.map_map]
  rfl
theorem at_not33 (n : ByteArray) (s : Dk) : atE n s ≠ 33 := by
  unfold atE
  split
  · decide
  · split
    · decide
    · split <;> decide
theorem sp_not33 (s : Dk) : spendE s ≠ 33 := by
  unfold spendE
  split <;> decide
theorem lenOf_pos (s : Dk) (n : ByteArray) : 0 ≤ lenOf s n := by
  unfold lenOf
  split <;> omega
theorem sp_used (s : Dk) : (spendS s).used = s.used := (spend_fields s).2.2.2.2
/-- A disk whose fuse never blows. -/
def Dk.Lives (s : Dk) : Prop := s.fuse = -1 ∧ s.dead = false
theorem sp_lives {s : Dk} (h : s.Lives) : (spendS s).Lives ∧ spendE s = 0 ∧ ¬ s.fuse = 0 := by
  have h0 : ¬ s.fuse = 0 := by rw [h.1]; decide
  refine ⟨?_, if_neg h0, h0⟩
  unfold spendS
  rw [if_neg h0]
  exact ⟨by show (if s.fuse > 0 then s.fuse - 1 else s.fuse) = -1; rw [h.1]; rfl, h.2⟩
/-! An append. -/
section
variable {s : Dk} {n : ByteArray} {bs : List UInt8} {N : Nat}
theorem app_no (h : atE n s ≠ 0) : appendE n bs s = atE n s ∧ appendS n bs s = s := ⟨if_pos h, if_pos h⟩
theorem app_over (h : atE n s = 0) (ho : 0 < bs.length ∧ s.quota - s.used < bs.length) : appendE n bs s = 33 ∧ appendS n bs s = s := by
  have h1 : ¬ atE n s ≠ 0 := by rw [h]; decide
  unfold appendE appendS
  exact ⟨by rw [if_neg h1, if_pos ho], by rw [if_neg h1, if_pos ho]⟩
theorem app_yes (hL : s.Lives) (hI : s.Inv N) (h : atE n s = 0) (ho : ¬ (0 < bs.length ∧ s.quota - s.used < bs.length)) :
    appendE n bs s = 0 ∧ (appendS n bs s).used = s.used + bs.length ∧ atE n (appendS n bs s) = 0 ∧ sizeV n (appendS n bs s) = sizeV n s + bs.length := by
  have h0 := (sp_lives hL).2.2
  have hE : appendE n bs s = 0 := by
    unfold appendE
    rw [if_neg (by rw [h]; decide), if_neg ho]
    exact (sp_lives hL).2.1
  have hS : appendS n bs s = { (spendS s).addC (s.num n) (.inl bs) with used := s.used + bs.length } := by
    unfold appendS
    rw [if_neg (by rw [h]; decide), if_neg ho, if_neg h0]
  obtain ⟨hd, hgn, k, hg⟩ := atE_zero.1 h
  have hk := hI.seen_ids _ ((get_mem hI.sorted).1 hg)
  have hseen : (appendS n bs s).seen = s.seen := by rw [hS]; exact spend_seen s
  have hdead : (appendS n bs s).dead = s.dead := by rw [hS]; show (spendS s).dead = _; rw [(sp_lives hL).1.2, hL.2]
  have hat : atE n (appendS n bs s) = 0 := by
    rw [← h]
    unfold atE
    rw [hdead, hseen]
  refine ⟨hE, by rw [hS], hat, ?_⟩
  unfold sizeV
  rw [if_neg (by rw [hat]; decide), if_neg (by rw [h]; decide)]
  have hnum : (appendS n bs s).num n = k := by unfold Dk.num; rw [hseen, hg]; rfl
  rw [hnum, getL_num hg]
  have hfl : (appendS n bs s).fl k = ⟨(s.fl k).safe, (s.fl k).chs ++ [.inl bs]⟩ := by
    rw [hS, getL_num hg]
    have := setF_fl (spendS s) k k ⟨((spendS s).fl k).safe, ((spendS s).fl k).chs ++ [.inl bs]⟩ (by rw [(spend_fields s).1]; exact hk)
    rw [if_pos rfl] at this
    rw [← spend_fl s k]
    exact this
  rw [hfl, seen_add]
  show ((((s.fl k).seen ++ bs).length : Nat) : Int) = _
  rw [List.length_append]
  omega
end
theorem used_image {s : Dk} {N : Nat} (h : s.Inv N) : s.used = (sumL (imageL s) : Nat) ∧ sumL (imageL s) ≤ 1073741824 := by
  rw [sum_image]
  have h1 := h.us
  have h2 := h.ub
  exact ⟨h1, by omega⟩
theorem quota_lives {q : Int} {s : Dk} (h : s.Lives) : (setQuotaS q s).Lives := by
  unfold setQuotaS
  split
  · exact h
  · exact h
theorem Dk.Inv.setQuota {q : Int} {s : Dk} {N : Nat} (h : s.Inv N) : (setQuotaS q s).Inv N := by
  unfold setQuotaS
  split
  · rename_i hq
    exact Dk.Inv.same (s' := { s with quota := q }) h rfl rfl rfl rfl (Nat.le_refl N) ⟨hq, h.rg.u, h.rg.f, h.rg.o⟩
  · exact h
theorem at_quota (q : Int) (s : Dk) : setQuotaE q = 0 → (setQuotaS q s).quota = q := by
  unfold setQuotaE setQuotaS
  split
  · intro _; rfl
  · intro h; cases h
theorem lv_setQuota {W w : World} {S : Nat → Prop} {d N : Nat} {s : Dk} (q : Int) (h : Lv W w S d s N) : Calls Try.prog 62 #[.pointer (some ⟨d, 0, none⟩), .int .i64 q] w fun e w' => e = .returned (.int .i64 (setQuotaE q)) ∧ Lv.Then W w w' S d (setQuotaS q s) N :=
  (setQuota_any S d s q w h.1).mono fun _ _ ⟨h1, h2⟩ => ⟨h1, h.did h2 h.2.2.2.setQuota⟩
theorem lv_image {W w : World} {S : Nat → Prop} {d N : Nat} {s : Dk} (h : Lv W w S d s N) (hN : N ≤ 999999999999) : Calls Try.prog 57 #[.pointer (some ⟨d, 0, none⟩)] w fun e w' => ∃ us b cap, e = .returned (.slice b (imageL s).length cap) ∧ FLs w' w.heap.size (imageL s) us (.slice b (imageL s).length cap) ∧ Below w.heap.size w w' :=
  image_any S d N s w h.1 h.2.2.2.ok h.2.2.2.sz.wide hN
theorem tell_Q {w : World} {S : Nat → Prop} {d : Nat} {s : Dk} {y : Int} (h : Disk w S d s) (hy : s.quota = y) : Calls Try.prog 51 #[.pointer (some ⟨d, 0, none⟩)] w fun e w' => e = .returned (.int .i64 y) ∧ w' = w := by
  subst hy
  exact tell_Quota S d s w h
theorem Lv.up {W w : World} {S : Nat → Prop} {d N M : Nat} {s : Dk} (h : Lv W w S d s N) (hM : N ≤ M) : Lv W w S d s M := ⟨h.1, h.2.1, h.2.2.1, h.2.2.2.mono hM⟩
theorem image_len {s : Dk} {N : Nat} (h : s.Inv N) : (imageL s).length ≤ N := by
  have h1 := fold_len s.dchs s.safe
  have h2 := h.sz.d
  unfold imageL
  rw [List.length_map]
  unfold Dk.seen
  omega
section
variable {W w : World} {S : Nat → Prop} {d N : Nat} {s : Dk}
theorem app_quota (n : ByteArray) (bs : List UInt8) (s : Dk) : (appendS n bs s).quota = s.quota := by
  have h := (spend_fields s).2.2.2.1
  unfold appendS
  split
  · rfl
  · split
    · rfl
    · split
      · exact h
      · exact h
theorem size_pos (h : s.Inv N) (n : ByteArray) : 0 ≤ sizeV n s ∧ sizeV n s ≤ 1073741824 := by
  unfold sizeV
  split
  · omega
  · rename_i h0
    obtain ⟨_, _, k, hg⟩ := atE_zero.1 (Classical.not_not.1 h0)
    rw [getL_num hg]
    have := h.len_le hg
    have := h.ub
    omega
end
/-! How much a crash leaves. -/
theorem crash_len {s : Dk} {N : Nat} (h : s.Inv N) (ps : List Int) : (crashL s ps).length ≤ N := by
  unfold crashL
  rw [tornAll_len]
  unfold leftL
  have h1 := fold_len (s.dchs.take (modn (pickV ps) (s.dchs.length + 1))) s.safe
  have h2 := h.sz.d
  rw [List.length_take] at h1
  omega
theorem torn_len {x : Fl} {m : Nat} (h : Short x m) (ps : List Int) : (tornS x ps).1.length ≤ m := by
  unfold tornS
  split
  · rename_i c hc
    obtain ⟨hi, hc'⟩ := List.getElem?_eq_some_iff.1 hc
    have h1 := h.step hi
    rw [hc'] at h1
    simp only [fdo, List.length_append] at h1
    simp only [List.length_append, List.length_take]
    omega
  · exact h _
theorem tornAll_small {s : Dk} {m : Nat} (h : ∀ k, Short (s.fl k) m) : ∀ (l : List KE) (ps : List Int), ∀ p ∈ (tornAll s l ps).1, p.2.length ≤ m
  | [], _, p, hp => by cases hp
  | (n, k) :: r, ps, p, hp => by
    rcases List.mem_cons.1 hp with rfl | hp
    · exact torn_len (h k) ps
    · exact tornAll_small h r _ p hp
theorem short_fl {s : Dk} {N : Nat} (h : s.Inv N) (k : Nat) : Short (s.fl k) 1073741824 := by
  by_cases hk : k < s.files.length
  · exact h.sz.m _ (fl_mem hk)
  · have e : s.fl k = Fl.new := by unfold Dk.fl; rw [List.getD_eq_getElem?_getD, List.getElem?_eq_none (by omega)]; rfl
    rw [e]
    intro i
    simp [Fl.new]
theorem crash_small {s : Dk} {N : Nat} (h : s.Inv N) (ps : List Int) : ∀ p ∈ crashL s ps, p.2.length ≤ 140737488351232 := fun p hp => Nat.le_trans (tornAll_small (short_fl h) _ _ p hp) (by decide)
theorem image_small {s : Dk} {N : Nat} (h : s.Inv N) : ∀ p ∈ imageL s, p.2.length ≤ 140737488351232 := fun p hp => by
  obtain ⟨q, _, rfl⟩ := List.mem_map.1 hp
  have := short_fl h q.2 (s.fl q.2).chs.length
  rw [List.take_length] at this
  exact Nat.le_trans this (by decide)
end Go.Proofs.Ytebeefkibbbkdaa
/- SimfsPast: what was, as plain lists: the moments of a file, of the directory. -/
namespace Go.Proofs.Ytebeefkibbbkdaa
open Go.RowKit Go.Maps

/-- A file's bytes at every moment since its last Sync. -/
def vers (x : Fl) : List (List UInt8) := (List.range (x.chs.length + 1)).map fun i => (x.chs.take i).foldl fdo x.safe
def growC : FC → Int
  | .inl b => (b.length : Int)
  | .inr _ => -1
/-- By how much an append made it longer. -/
def grow (x : Fl) : List Int := -1 :: x.chs.map growC
theorem vers_get (x : Fl) {j : Nat} (h : j ≤ x.chs.length) : (vers x)[j]? = some ((x.chs.take j).foldl fdo x.safe) := by
  unfold vers
  rw [List.getElem?_map, List.getElem?_range (by omega)]
  rfl
theorem vers_len (x : Fl) : (vers x).length = x.chs.length + 1 := by simp [vers]
theorem vers_snoc (x : Fl) (c : FC) : vers ⟨x.safe, x.chs ++ [c]⟩ = vers x ++ [fdo x.seen c] := by
  refine List.ext_getElem? fun i => ?_
  rcases Nat.lt_trichotomy i (x.chs.length + 1) with h | h | h
  · rw [List.getElem?_append_left (by rw [vers_len]; exact h), vers_get _ (show i ≤ (x.chs ++ [c]).length by rw [List.length_append, List.length_singleton]; omega), vers_get _ (by omega)]
    show some (((x.chs ++ [c]).take i).foldl fdo x.safe) = _
    rw [List.take_append_of_le_length (by omega)]
  · subst h
    rw [List.getElem?_append_right (by rw [vers_len]; exact Nat.le_refl _), vers_len, Nat.sub_self, vers_get _ (show x.chs.length + 1 ≤ (x.chs ++ [c]).length by simp)]
    show some (((x.chs ++ [c]).take (x.chs.length + 1)).foldl fdo x.safe) = some (fdo x.seen c)
    rw [List.take_of_length_le (by simp), List.foldl_append]
    rfl
  · rw [List.getElem?_eq_none (by rw [vers_len]; simp; omega), List.getElem?_eq_none (by rw [List.length_append, vers_len]; simp; omega)]
theorem grow_snoc (x : Fl) (c : FC) : grow ⟨x.safe, x.chs ++ [c]⟩ = grow x ++ [growC c] := by simp [grow]
theorem vers_sync (b : List UInt8) : vers ⟨b, []⟩ = [b] ∧ grow ⟨b, []⟩ = [-1] := ⟨rfl, rfl⟩
theorem vers_last (x : Fl) : (vers x)[(vers x).length - 1]? = some x.seen := by
  rw [vers_len, Nat.add_sub_cancel, vers_get x (Nat.le_refl _), List.take_length]
  rfl
theorem grow_get (x : Fl) {j : Nat} {c : FC} (h : x.chs[j]? = some c) : (grow x)[j + 1]? = some (growC c) := by
  show (x.chs.map growC)[j]? = _
  rw [List.getElem?_map, h]
  rfl
/-- Were these the bytes, perhaps with first bytes of the next append? -/
def WasAt (vs : List (List UInt8)) (gs : List Int) (b : List UInt8) (j : Nat) : Prop := ∃ x, vs[j]? = some x ∧ (x = b ∨ ∃ y g, vs[j + 1]? = some y ∧ gs[j + 1]? = some g ∧ 0 ≤ g ∧ x.length < b.length ∧ b.length ≤ y.length ∧ y.take b.length = b)
def Was (vs : List (List UInt8)) (gs : List Int) (b : List UInt8) : Prop := ∃ j, WasAt vs gs b j
theorem seen_was (x : Fl) : Was (vers x) (grow x) x.seen := ⟨_, _, vers_last x, .inl rfl⟩
theorem torn_was (x : Fl) (ps : List Int) : Was (vers x) (grow x) (tornS x ps).1 := by
  have hj : modn (pickV ps) (x.chs.length + 1) ≤ x.chs.length := by have := modn_lt (pickV ps) (show 0 < x.chs.length + 1 by omega); omega
  unfold tornS
  generalize modn (pickV ps) (x.chs.length + 1) = j at hj
  refine ⟨j, (x.chs.take j).foldl fdo x.safe, vers_get x hj, ?_⟩
  cases hc : x.chs[j]? with
  | none => exact .inl rfl
  | some c =>
    cases c with
    | inr n => exact .inl rfl
    | inl b =>
      obtain ⟨hl, _⟩ := List.getElem?_eq_some_iff.1 hc
      suffices H : ∀ t : Nat, ((x.chs.take j).foldl fdo x.safe = (x.chs.take j).foldl fdo x.safe ++ b.take t ∨ ∃ y g, (vers x)[j + 1]? = some y ∧ (grow x)[j + 1]? = some g ∧ 0 ≤ g ∧ ((x.chs.take j).foldl fdo x.safe).length < ((x.chs.take j).foldl fdo x.safe ++ b.take t).length ∧ ((x.chs.take j).foldl fdo x.safe ++ b.take t).length ≤ y.length ∧ y.take ((x.chs.take j).foldl fdo x.safe ++ b.take t).length = (x.chs.take j).foldl fdo x.safe ++ b.take t) from H _
      intro t
      by_cases h0 : b.take t = []
      · left; rw [h0, List.append_nil]
      · right
        have hlen : 0 < (b.take t).length := List.length_pos_iff.2 h0
        have hle : (b.take t).length ≤ b.length := by rw [List.length_take]; omega
        have hv : (vers x)[j + 1]? = some ((x.chs.take j).foldl fdo x.safe ++ b) := by
          rw [vers_get x (by omega), List.take_add_one, hc, List.foldl_append]
          rfl
        refine ⟨_, _, hv, grow_get x hc, by simp [growC], by rw [List.length_append]; omega, by rw [List.length_append, List.length_append]; omega, ?_⟩
        show ((x.chs.take j).foldl fdo x.safe ++ b).take ((x.chs.take j).foldl fdo x.safe ++ b.take t).length = _
        rw [List.length_append, List.take_length_add_append]
        congr 1
        rw [List.length_take]
        rcases Nat.le_total t b.length with h | h
        · rw [Nat.min_eq_left h]
        · rw [Nat.min_eq_right h, List.take_of_length_le h, List.take_length]
/-- The directory at every moment since the last SyncDir. -/
def dirAt (s : Dk) (i : Nat) : List KE := (s.dchs.take i).foldl ddo s.safe
theorem dirAt_last (s : Dk) : dirAt s s.dchs.length = s.seen := by unfold dirAt; rw [List.take_length]; rfl
theorem left_at (s : Dk) (ps : List Int) : leftL s ps = dirAt s (modn (pickV ps) (s.dchs.length + 1)) ∧ modn (pickV ps) (s.dchs.length + 1) ≤ s.dchs.length := by
  have := modn_lt (pickV ps) (show 0 < s.dchs.length + 1 by omega)
  exact ⟨rfl, by omega⟩
theorem tornAll_was (s : Dk) : ∀ (l : List KE) (ps : List Int) (i : Nat) (p : KE), l[i]? = some p → ∃ b, (tornAll s l ps).1[i]? = some (p.1, b) ∧ Was (vers (s.fl p.2)) (grow (s.fl p.2)) b
  | [], _, i, p, h => by simp at h
  | q :: r, ps, 0, p, h => by
    simp at h
    subst h
    exact ⟨_, rfl, torn_was (s.fl q.2) ps⟩
  | q :: r, ps, i + 1, p, h => by
    obtain ⟨b, h1, h2⟩ := tornAll_was s r (tornS (s.fl q.2) ps).2 i p (by simpa using h)
    exact ⟨b, h1, h2⟩
/-- What a statement keeps of a script, beside the disk. -/
structure PR (fs : List (List (List UInt8))) (gs : List (List Int)) (ds : List (List KE)) (s : Dk) : Prop where
  hf : fs = s.files.map vers
  hg : gs = s.files.map grow
  len : ds.length = s.dchs.length + 1
  hd : ∀ (i : Nat) (l : List KE), ds[i]? = some l → l.Perm (dirAt s i)
theorem PR.last {fs : List (List (List UInt8))} {gs : List (List Int)} {ds : List (List KE)} {s : Dk} (h : PR fs gs ds s) {l : List KE} (hl : ds[ds.length - 1]? = some l) : l.Perm s.seen := by
  have := h.hd _ l hl
  rw [h.len, Nat.add_sub_cancel, dirAt_last] at this
  exact this
end Go.Proofs.Ytebeefkibbbkdaa
/- SimfsPast: what is written down stays true; what a crash leaves is known: plain laws. -/
namespace Go.Proofs.Ytebeefkibbbkdaa
open Go.RowKit Go.Maps

abbrev VS := List (List (List UInt8))
abbrev GS := List (List Int)
def leftP (n : ByteArray) (l : List KE) : List KE := l.filter fun p => decide (¬ p.1 = n)
def leadP (n : ByteArray) (l : List KE) : Option Nat := (l.find? fun p => decide (p.1 = n)).map fun p => p.2
section
variable {fs : VS} {gs : GS} {ds : List (List KE)} {s : Dk} {N : Nat} {l : List KE}
theorem left_perm (hs : Sorted s.seen) (h : l.Perm s.seen) (n : ByteArray) : (leftP n l).Perm (delL n s.seen) := by
  have hn : l.Nodup := h.nodup_iff.2 hs.nodup
  refine (List.perm_ext_iff_of_nodup (hn.filter _) (hs.del n).nodup).2 fun x => ?_
  rw [List.mem_filter, mem_del, h.mem_iff]
  simp
theorem lead_is (hs : Sorted s.seen) (h : l.Perm s.seen) (n : ByteArray) : leadP n l = getL n s.seen := by
  unfold leadP
  cases hf : l.find? fun p => decide (p.1 = n) with
  | none =>
    symm
    show getL n s.seen = none
    refine get_none.2 fun x hx e => ?_
    have := List.find?_eq_none.1 hf x (h.mem_iff.2 hx)
    simp [e] at this
  | some p =>
    symm
    have h1 := List.find?_some hf
    have h2 := h.mem_iff.1 (List.mem_of_find?_eq_some hf)
    simp at h1
    refine (get_mem hs).2 ?_
    rw [← h1]
    exact h2
theorem dirAt_old {s' : Dk} {c : DC} (h1 : s'.safe = s.safe) (h2 : s'.dchs = s.dchs ++ [c]) {i : Nat} (hi : i ≤ s.dchs.length) : dirAt s' i = dirAt s i := by
  unfold dirAt
  rw [h1, h2, List.take_append_of_le_length hi]
theorem dirAt_new {s' : Dk} {c : DC} (h1 : s'.safe = s.safe) (h2 : s'.dchs = s.dchs ++ [c]) : dirAt s' (s.dchs.length + 1) = ddo s.seen c := by
  unfold dirAt
  rw [h1, h2, List.take_of_length_le (by simp), List.foldl_append]
  rfl
/-- The directory turns. -/
theorem PR.dir (h : PR fs gs ds s) {s' : Dk} {c : DC} {m : List KE} {fs' : VS} {gs' : GS} (h1 : s'.safe = s.safe) (h2 : s'.dchs = s.dchs ++ [c]) (hf : fs' = s'.files.map vers) (hg : gs' = s'.files.map grow) (hm : m.Perm (ddo s.seen c)) : PR fs' gs' (ds ++ [m]) s' := by
  refine ⟨hf, hg, by rw [List.length_append, h.len, h2, List.length_append]; rfl, fun i l hl => ?_⟩
  rcases Nat.lt_trichotomy i ds.length with hi | hi | hi
  · rw [List.getElem?_append_left hi] at hl
    rw [dirAt_old h1 h2 (by rw [h.len] at hi; omega)]
    exact h.hd i l hl
  · subst hi
    rw [List.getElem?_append_right (Nat.le_refl _), Nat.sub_self] at hl
    simp at hl
    subst hl
    rw [h.len, dirAt_new h1 h2]
    exact hm
  · rw [List.getElem?_eq_none (by simp; omega)] at hl
    cases hl
theorem map_setF {α : Type} (g : Fl → α) (k : Nat) (x : Fl) : (s.setF k x).files.map g = (s.files.map g).set k (g x) := by
  show (s.files.set k x).map g = _
  rw [List.map_set]
/-- A file turns. -/
theorem PR.file (h : PR fs gs ds s) {s' : Dk} {k : Nat} {x : Fl} (h1 : s'.safe = s.safe) (h2 : s'.dchs = s.dchs) (hf : s'.files = s.files.set k x) : PR (fs.set k (vers x)) (gs.set k (grow x)) ds s' := by
  refine ⟨by rw [h.hf, hf, List.map_set], by rw [h.hg, hf, List.map_set], by rw [h2]; exact h.len, fun i l hl => ?_⟩
  have : dirAt s' i = dirAt s i := by unfold dirAt; rw [h1, h2]
  rw [this]
  exact h.hd i l hl
/-- Does the image show the directory l, each file with bytes that it had? -/
def Fits (fs : VS) (gs : GS) (l : List KE) (image : List (ByteArray × List UInt8)) : Prop :=
  l.length = image.length ∧ (∀ (i : Nat) (p : ByteArray × List UInt8), image[i]? = some p → ∃ f vs g, leadP p.1 l = some f ∧ fs[f]? = some vs ∧ gs[f]? = some g ∧ Was vs g p.2) ∧ image.Pairwise fun a b => kc a.1 b.1 = -1
theorem lead_at {d : List KE} (hs : Sorted d) (h : l.Perm d) {p : KE} (hp : p ∈ d) : leadP p.1 l = some p.2 := by
  have := lead_is (s := ⟨[], d, [], 0, 0, 0, false, 0⟩) (l := l) hs h p.1
  rw [this]
  exact (get_mem hs).2 hp
theorem pr_get (h : PR fs gs ds s) {k : Nat} (hk : k < s.files.length) : fs[k]? = some (vers (s.fl k)) ∧ gs[k]? = some (grow (s.fl k)) := by
  have hx : s.files[k]? = some (s.fl k) := fl_get hk
  rw [h.hf, h.hg, List.getElem?_map, List.getElem?_map, hx]
  exact ⟨rfl, rfl⟩
theorem crash_known (h : PR fs gs ds s) (hi : s.Inv N) (ps : List Int) : ∃ (k : Nat) (l : List KE), ds[k]? = some l ∧ Fits fs gs l (crashL s ps) := by
  obtain ⟨e, hle⟩ := left_at s ps
  generalize modn (pickV ps) (s.dchs.length + 1) = k at e hle
  obtain ⟨l, hl⟩ : ∃ l, ds[k]? = some l := ⟨_, List.getElem?_eq_getElem (by rw [h.len]; omega)⟩
  have hp := h.hd k l hl
  have hsd : Sorted (dirAt s k) := Sorted.fold hi.ok.sorted
  have hid : ∀ p ∈ dirAt s k, p.2 < s.files.length := ids_fold hi.ids (fun m f hf => hi.dids m f (List.mem_of_mem_take hf)) hi.ok.sorted (okD_take _ hi.ok.okd)
  refine ⟨k, l, hl, ?_, fun i p hpi => ?_, ?_⟩
  · unfold crashL
    rw [tornAll_len, e, hp.length_eq]
  · unfold crashL at hpi
    rw [e] at hpi
    have hil : i < (dirAt s k).length := by have := (List.getElem?_eq_some_iff.1 hpi).1; rwa [tornAll_len] at this
    obtain ⟨b, g1, g2⟩ := tornAll_was s (dirAt s k) ps.tail i _ (List.getElem?_eq_getElem hil)
    rw [g1] at hpi
    injection hpi with hpi
    subst hpi
    have hm := List.getElem_mem hil
    obtain ⟨v1, v2⟩ := pr_get h (hid _ hm)
    exact ⟨_, _, _, lead_at hsd hp hm, v1, v2, g2⟩
  · unfold crashL
    rw [e, List.pairwise_iff_getElem]
    intro i j hi' hj' hij
    have hil : i < (dirAt s k).length := by rwa [tornAll_len] at hi'
    have hjl : j < (dirAt s k).length := by rwa [tornAll_len] at hj'
    obtain ⟨b, g1, _⟩ := tornAll_was s (dirAt s k) ps.tail i _ (List.getElem?_eq_getElem hil)
    obtain ⟨c, g2, _⟩ := tornAll_was s (dirAt s k) ps.tail j _ (List.getElem?_eq_getElem hjl)
    rw [List.getElem?_eq_getElem hi'] at g1
    rw [List.getElem?_eq_getElem hj'] at g2
    injection g1 with g1
    injection g2 with g2
    rw [g1, g2]
    exact List.pairwise_iff_getElem.1 hsd i j hil hjl hij
theorem image_known (h : PR fs gs ds s) (hi : s.Inv N) : ∃ (k : Nat) (l : List KE), ds[k]? = some l ∧ Fits fs gs l (imageL s) := by
  obtain ⟨l, hl⟩ : ∃ l, ds[s.dchs.length]? = some l := ⟨_, List.getElem?_eq_getElem (by rw [h.len]; omega)⟩
  have hp := h.hd _ l hl
  rw [dirAt_last] at hp
  refine ⟨_, l, hl, ?_, fun i p hpi => ?_, ?_⟩
  · unfold imageL
    rw [List.length_map, hp.length_eq]
  · obtain ⟨q, hq, rfl⟩ := List.mem_map.1 (List.mem_of_getElem? hpi)
    obtain ⟨v1, v2⟩ := pr_get h (hi.seen_ids q hq)
    exact ⟨_, _, _, lead_at hi.sorted hp hq, v1, v2, seen_was _⟩
  · unfold imageL
    rw [List.pairwise_map]
    exact hi.sorted
end
end Go.Proofs.Ytebeefkibbbkdaa
/- A store into a map by its two operations: the entry is made, then filled. -/
namespace Go.Proofs.Ytebeefkibbbkdaa
open Go.RowKit Go.Maps
open Go.ChangeMaps Go.MapKept
open Go.WideElems (Fit)

theorem own_block {H : Type} {P : Program} {k : TypeId} {R : Value → Option (DataW H × List MemPlace)} {w w' : World} {b n : Nat} {D : DataW H} (h : w.ownsMap P k R b n D) (hb : w'.heap[b]? = w.heap[b]?) : w'.ownsMap P k R b n D := by
  obtain ⟨es, clock, h1, h2⟩ := h
  exact ⟨es, clock, by rw [hb]; exact h1, h2⟩
theorem idx_push {es : Array MapEntry} {c : Nat} {e : MapEntry} (h : ∀ x ∈ es.toList, x.born < c) (he : e.born = c) : (es.push e).findIdx? (fun x => (x.born : Int) == (c : Int)) = some es.size := by
  rw [Array.findIdx?_push]
  have hn : es.findIdx? (fun x => (x.born : Int) == (c : Int)) = none := by
    rw [Array.findIdx?_eq_none_iff]
    intro x hx
    have := h x (by simpa using hx)
    simp
    omega
  rw [hn]
  simp [he]
theorem own_entry {H : Type} {P : Program} {k : TypeId} {R : Value → Option (DataW H × List MemPlace)} {w : World} {b n : Nat} {D : DataW H} {t e : TypeId} (h : w.ownsMap P k R b n D) (K : Keyed P k) (ht : P.underlying t = some (.map k e)) (hn : n < maxLen) {z : Value} (hz : ∀ W : World, (zeroValue e).run P W = .ok z W)
    {key val : Value} {kl : Lit} {d : DataW H} {ps : List MemPlace} (hkey : keyOf P k key = some kl) (hv : R val = some (d, ps)) (ha : ∀ zd, D.atKey kl zd = zd) (hd : ∃ d1 d2 : DataW H, d1 ≠ d2) :
    ∃ (st : Int) (w1 : World), (Instr.mapEntry t (.map (some b)) key).run P w = .ok (.tuple #[z, .int .i64 st]) w1 ∧ w.grownBy w1 (some b) ∧
      ∀ w2 : World, w2.heap[b]? = w1.heap[b]? → ∃ w3, (Instr.entryStore t (.map (some b)) (.int .i64 st) val).run P w2 = .ok () w3 ∧ w3.ownsMap P k R b (n + 1) (D.put kl d) ∧ w2.grownBy w3 (some b) := by
  obtain ⟨w', hrun, hown, hg⟩ := h.update K ht hn hkey hv
  obtain ⟨es, clock, hb, F, hs, rfl⟩ := h
  rcases K.find w hkey es.toList (fun x hx => by obtain ⟨y, hy⟩ := F.reads x hx; exact ⟨y.1, Go.WideElems.rd_key hy⟩) with ⟨h1, h2⟩ | ⟨j, e0, h1, h2, h3⟩
  · have hb1 : (setBlock w b (.map (es.push ⟨key, z, clock⟩) (clock + 1))).heap[b]? = some (.map (es.push ⟨key, z, clock⟩) (clock + 1)) := heap_setBlock_same hb _
    have hup : (Instr.mapUpdate t (.map (some b)) key val).run P w = .ok () (setBlock w b (.map (es.push ⟨key, val, clock⟩) (clock + 1))) := by
      simp [Instr.mapUpdate, run_underlying ht, MapKept.run_getObj_map hb, K.check w false hkey, h1, MapKept.run_setObj_map _ hb, Result.andThen, setBlock]
    rw [hup] at hrun
    injection hrun with _ hw
    refine ⟨clock, setBlock w b (.map (es.push ⟨key, z, clock⟩) (clock + 1)), ?_, ⟨rfl, rfl, rfl, by simp [setBlock], fun i _ hi => heap_setBlock_other hb _ (fun e => hi (by rw [e]))⟩, fun w2 hw2 => ?_⟩
    · simp [Instr.mapEntry, run_underlying ht, MapKept.run_getObj_map hb, K.check w false hkey, h1, hz, MapKept.run_setObj_map _ hb, Result.andThen, setBlock, goInt]
    · have hb2 : w2.heap[b]? = some (.map (es.push ⟨key, z, clock⟩) (clock + 1)) := by rw [hw2]; exact hb1
      refine ⟨setBlock w2 b (.map (es.push ⟨key, val, clock⟩) (clock + 1)), ?_, own_block hown ?_, ⟨rfl, rfl, rfl, by simp [setBlock], fun i _ hi => heap_setBlock_other hb2 _ (fun e => hi (by rw [e]))⟩⟩
      · have hf := idx_push (e := ⟨key, z, clock⟩) F.stamped.1 rfl
        have hm : (es.push ⟨key, z, clock⟩).modify es.size (fun e => { e with val := val }) = es.push ⟨key, val, clock⟩ := by
          apply Array.ext
          · simp
          · intro i hi1 hi2
            simp only [Array.getElem_modify, Array.getElem_push]
            by_cases hi : i < es.size
            · have : ¬ es.size = i := by omega
              simp [hi, this]
            · have : es.size = i := by simp at hi2; omega
              simp [this]
        simp [Instr.entryStore, MapKept.run_getObj_map hb2, asInt, asIntOf, hf, hm, MapKept.run_setObj_map _ hb2, Result.andThen, setBlock]
      · rw [heap_setBlock_same hb2, ← hw, heap_setBlock_same hb]
  · exfalso
    obtain ⟨d1, d2, hne⟩ := hd
    rcases Maps.fit_look (z := z) false K ht (hz w) hb F hkey with ⟨_, h4, _⟩ | ⟨_, y, _, _, _, _, hat, _⟩
    · exact h4 e0 (List.mem_of_getElem? h2) h3
    · exact hne (by rw [← ha d1, ← ha d2, hat d1, hat d2])
end Go.Proofs.Ytebeefkibbbkdaa
/- Load: what one file of an image makes of a disk. -/
namespace Go.Proofs.Ytebeefkibbbkdaa
open Go.RowKit Go.Maps

theorem MD.entry {w : World} {b f : Nat} {l : List KE} (h : MD w b l) {k : ByteArray} (hg : getL k l = none) (hk : k.size ≤ 32) (hl : l.length < 1000000000000) :
    ∃ (st : Int) (w1 : World), (Instr.mapEntry 67 (.map (some b)) (.string k)).run Try.prog w = .ok (.tuple #[.pointer none, .int .i64 st]) w1 ∧ w.grownBy w1 (some b) ∧
      ∀ w2 : World, w2.heap[b]? = w1.heap[b]? → ∃ w3, (Instr.entryStore 67 (.map (some b)) (.int .i64 st) (.pointer (some ⟨f, 0, none⟩))).run Try.prog w2 = .ok () w3 ∧ MD w3 b (putL k f l) ∧ w2.grownBy w3 (some b) := by
  obtain ⟨h1, h2, D, hF⟩ := id h
  have hkey := WideMaps.keyOf_string_mk Try.underlying9 (s := k) (by unfold maxLen; omega)
  have hh : Maps.has D (.string k.data.toList) = false := by
    rw [Bool.eq_false_iff]
    intro hh
    obtain ⟨p, hp, e⟩ := (hF.has_ _).1 hh
    exact get_none.1 hg p hp (bytes_eq e)
  obtain ⟨st, w1, r1, g1, hst⟩ := own_entry hF.own kstr Try.underlying67 (by rw [hF.size h1]; unfold maxLen; omega) (fun W => Try.zeroValue81 W) hkey (ptrR_mk f) (fun zd => atKey_of_not_has hh zd) ⟨.nil, .held 0, by intro e; cases e⟩
  refine ⟨st, w1, r1, g1, fun w2 hw2 => ?_⟩
  obtain ⟨w3, r3, o3, g3⟩ := hst w2 hw2
  exact ⟨w3, r3, h.put' hF hk o3, g3⟩
theorem DM.load {w w' : World} {L : Nat → Nat} {d ms mf k : Nat} {fb : List Nat} {s : Dk} {vc : Value} {n : ByteArray} (h : DM w L d fb s ms mf vc) (hd : s.dchs = []) (hk : k < s.files.length)
    (hms : MD w' ms (putL n (fb.getD k 0) (s.safe.map (bk fb)))) (hmf : MD w' mf (putL n (fb.getD k 0) (s.safe.map (bk fb)))) (hc : Chg (fun b => b = ms ∨ b = mf) w w') : DM w' L d fb { s with safe := putL n k s.safe } ms mf vc := by
  have hn : ∀ b, b < w.heap.size → L b ≠ 2 → L b ≠ 3 → w'.heap[b]? = w.heap[b]? := fun b hb h2 h3 => hc.block b hb fun e => by
    rcases e with rfl | rfl
    · exact h2 h.lms
    · exact h3 h.lmf
  have hsn : ({ s with safe := putL n k s.safe } : Dk).seen = putL n k s.safe := by unfold Dk.seen; rw [hd]; rfl
  refine ⟨(hn d h.box.lt (by rw [h.ld]; omega) (by rw [h.ld]; omega)).trans h.box, h.ld, h.lms, h.lmf, ?_, ?_, row_block h.rc fun b hb => hn b (h.rc.lt b hb).2 (by rw [h.lc b hb]; omega) (by rw [h.lc b hb]; omega), h.lc, h.fl, fun j x hx => ?_, fun b hb => Nat.lt_of_lt_of_le (h.lab b hb) hc.size, fun p hp => ?_, h.dids⟩
  · rw [hsn, put_map]; exact hms
  · show MD w' mf ((putL n k s.safe).map (bk fb))
    rw [put_map]; exact hmf
  · obtain ⟨vs, vf, vcc, us, hF⟩ := h.files j x hx
    exact ⟨vs, vf, vcc, us, hF.keep hc.size (fun b hb h1 _ => hn b hb (by omega) (by omega)) (fun _ _ => rfl)⟩
  · rcases mem_put.1 hp with rfl | hp
    · exact hk
    · exact h.ids p hp.1
theorem set_last {α : Type} (l : List α) (x y : α) : (l ++ [x]).set l.length y = l ++ [y] := by simp
/-- A new file with bytes, twice in rows of their own. -/
theorem DM.filled {w w1 w2 : World} {L : Nat → Nat} {d ms mf m : Nat} {fb : List Nat} {s : Dk} {vc v1 v2 : Value} {bs : List UInt8} (h : DM w L d fb s ms mf vc) (hok : s.Ok) (hm : bs.length = m)
    (hb1 : Below (w.alloc (.cells newF 94)).heap.size (w.alloc (.cells newF 94)) w1) (hb2 : Below w1.heap.size w1 w2) (hr1 : w1.ownsRow (w.alloc (.cells newF 94)).heap.size 5 1 v1 m (bv bs)) (hr2 : w2.ownsRow w1.heap.size 5 1 v2 m (bv bs)) :
    ∃ L', DM ((w2.setCell ⟨w.heap.size, 0, none⟩ v1).setCell ⟨w.heap.size, 1, none⟩ v2) L' d (fb ++ [w.heap.size]) { s with files := s.files ++ [⟨bs, []⟩] } ms mf vc ∧ (∀ b, b < w.heap.size → L' b = L b) ∧ ∀ b, L' b ≠ 0 → L b ≠ 0 ∨ w.heap.size ≤ b := by
  subst hm
  have hN := h.new hok
  have hz0 : (w.alloc (.cells newF 94)).heap.size = w.heap.size + 1 := by simp
  have hz1 := hb1.size
  have hz2 := hb2.size
  have hv1 : ∀ b, v1.ownBlock = some b → w.heap.size + 1 ≤ b ∧ b < w1.heap.size := fun b hb => by have := hr1.lt b hb; omega
  have hv2 : ∀ b, v2.ownBlock = some b → w1.heap.size ≤ b ∧ b < w2.heap.size := fun b hb => hr2.lt b hb
  refine ⟨fun b => if v1.ownBlock = some b then 8 * s.files.length + 9 else if v2.ownBlock = some b then 8 * s.files.length + 10 else if b = w.heap.size then 8 * s.files.length + 8 else L b, ?_, fun b hb => ?_, fun b hb => ?_⟩
  · have hc : Chg (fun b => b = w.heap.size) (w.alloc (.cells newF 94)) ((w2.setCell ⟨w.heap.size, 0, none⟩ v1).setCell ⟨w.heap.size, 1, none⟩ v2) :=
      ((Chg.of_below (hb1.trans (hb2.mono hz1)) (fun b => b = w.heap.size)).setCell (p := ⟨w.heap.size, 0, none⟩) (.inl rfl) v1).setCell (p := ⟨w.heap.size, 1, none⟩) (.inl rfl) v2
    have hbox : Box w2 w.heap.size 94 newF := ((Box.new w 94 newF).next hb1).next hb2
    have hbox2 : Box ((w2.setCell ⟨w.heap.size, 0, none⟩ v1).setCell ⟨w.heap.size, 1, none⟩ v2) w.heap.size 94 #[v1, v2, .slice none 0 0] := by simpa using (hbox.set_ 0 v1).set_ 1 v2
    have hr1' : ((w2.setCell ⟨w.heap.size, 0, none⟩ v1).setCell ⟨w.heap.size, 1, none⟩ v2).ownsRow (w.alloc (.cells newF 94)).heap.size 5 1 v1 bs.length (bv bs) :=
      row_far (row_far (row_next hr1 hb2) (fun k hk => by have := hv1 k hk; show k ≠ w.heap.size; omega) v1) (fun k hk => by have := hv1 k hk; show k ≠ w.heap.size; omega) v2
    have hr2' : ((w2.setCell ⟨w.heap.size, 0, none⟩ v1).setCell ⟨w.heap.size, 1, none⟩ v2).ownsRow w1.heap.size 5 1 v2 bs.length (bv bs) :=
      row_far (row_far hr2 (fun k hk => by have := hv2 k hk; show k ≠ w.heap.size; omega) v1) (fun k hk => by have := hv2 k hk; show k ≠ w.heap.size; omega) v2
    have hF := hN.file (k := s.files.length) (x' := ⟨bs, []⟩) (vs := v1) (vf := v2) (vcc := .slice none 0 0) (us := []) (by simp [Dk.newf])
      (L' := fun b => if v1.ownBlock = some b then 8 * s.files.length + 9 else if v2.ownBlock = some b then 8 * s.files.length + 10 else if b = w.heap.size then 8 * s.files.length + 8 else L b)
      (w' := (w2.setCell ⟨w.heap.size, 0, none⟩ v1).setCell ⟨w.heap.size, 1, none⟩ v2)
      (fun b hb => by
        have n1 : ¬ v1.ownBlock = some b := fun e => by have := hv1 b e; omega
        have n2 : ¬ v2.ownBlock = some b := fun e => by have := hv2 b e; omega
        simp only [n1, n2, if_false])
      (fun b hb hne => by
        by_cases n1 : v1.ownBlock = some b
        · have := hv1 b n1; simp; omega
        · by_cases n2 : v2.ownBlock = some b
          · have := hv2 b n2; simp; omega
          · simp only [n1, n2, if_false] at hne
            by_cases n3 : b = w.heap.size
            · omega
            · rw [if_neg n3] at hne
              have := h.lab b hne
              omega)
      (fun b hb => by
        by_cases n1 : v1.ownBlock = some b
        · right; simp only [n1, if_true]; omega
        · by_cases n2 : v2.ownBlock = some b
          · right; simp only [n1, n2, if_false, if_true]; omega
          · left
            have n3 : ¬ b = w.heap.size := by omega
            simp only [n1, n2, n3, if_false]
            rcases Nat.eq_zero_or_pos (L b) with h0 | h0
            · exact h0
            · have := h.lab b (by omega); omega)
      (by
        have e : (fb ++ [w.heap.size]).getD s.files.length 0 = w.heap.size := by rw [← h.fl]; simp
        rw [e]
        refine ⟨hbox2, ?_, row_le hr1' (Nat.zero_le _), fun b hb => by simp only [hb, if_true], row_le hr2' (Nat.zero_le _), fun b hb => ?_, nil_own _ _ _ _, fun b hb => (by cases hb), rfl, fun i c u hi => (by simp at hi)⟩
        · have n1 : ¬ v1.ownBlock = some w.heap.size := fun e => by have := hv1 _ e; omega
          have n2 : ¬ v2.ownBlock = some w.heap.size := fun e => by have := hv2 _ e; omega
          simp only [n1, n2, if_false, if_true]
        · have n1 : ¬ v1.ownBlock = some b := fun e => by have := hv1 _ e; have := hv2 _ hb; omega
          simp only [n1, hb, if_false, if_true])
      (hc.mono fun b _ e => by subst e; simp)
    have e : s.newf.setF s.files.length ⟨bs, []⟩ = { s with files := s.files ++ [⟨bs, []⟩] } := by
      show ({ s with files := (s.files ++ [Fl.new]).set s.files.length ⟨bs, []⟩ } : Dk) = _
      rw [set_last]
    rw [e] at hF
    exact hF
  · have n1 : ¬ v1.ownBlock = some b := fun e => by have := hv1 b e; omega
    have n2 : ¬ v2.ownBlock = some b := fun e => by have := hv2 b e; omega
    have n3 : ¬ b = w.heap.size := by omega
    simp only [n1, n2, n3, if_false]
  · by_cases n1 : v1.ownBlock = some b
    · right; have := hv1 b n1; omega
    · by_cases n2 : v2.ownBlock = some b
      · right; have := hv2 b n2; omega
      · by_cases n3 : b = w.heap.size
        · right; omega
        · left
          simp only [n1, n2, n3, if_false] at hb
          exact hb
end Go.Proofs.Ytebeefkibbbkdaa
/- The disk that Load makes of an image: plain laws. -/
namespace Go.Proofs.Ytebeefkibbbkdaa
open Go.RowKit Go.Maps

abbrev FE := ByteArray × List UInt8
def ldStep (s : Dk) (p : FE) : Dk := { s with files := s.files ++ [⟨p.2, []⟩], safe := putL p.1 s.files.length s.safe, used := s.used + p.2.length }
def ldS (q : Int) (fs : List FE) : Dk := fs.foldl ldStep (Dk.fresh q)
theorem ldS_snoc (q : Int) (fs : List FE) (p : FE) : ldS q (fs ++ [p]) = ldStep (ldS q fs) p := by unfold ldS; rw [List.foldl_append]; rfl
/-- Names rise. -/
def Asc (fs : List FE) : Prop := fs.Pairwise fun a b => kc a.1 b.1 = -1
def ldL : List FE → Nat → List KE
  | [], _ => []
  | p :: r, k => (p.1, k) :: ldL r (k + 1)
theorem ldL_snoc : ∀ (fs : List FE) (p : FE) (k : Nat), ldL (fs ++ [p]) k = ldL fs k ++ [(p.1, k + fs.length)]
  | [], p, k => rfl
  | x :: r, p, k => by
    show (x.1, k) :: ldL (r ++ [p]) (k + 1) = _
    rw [ldL_snoc r p (k + 1)]
    show _ = (x.1, k) :: (ldL r (k + 1) ++ [(p.1, k + (r.length + 1))])
    rw [show k + 1 + r.length = k + (r.length + 1) by omega]
theorem ldL_mem : ∀ (fs : List FE) (k : Nat) (x : KE), x ∈ ldL fs k → (∃ p ∈ fs, p.1 = x.1) ∧ k ≤ x.2 ∧ x.2 < k + fs.length
  | [], _, x, h => by cases h
  | p :: r, k, x, h => by
    rcases List.mem_cons.1 h with rfl | h
    · exact ⟨⟨p, List.mem_cons_self, rfl⟩, Nat.le_refl _, by simp⟩
    · obtain ⟨⟨y, hy, e⟩, h1, h2⟩ := ldL_mem r (k + 1) x h
      exact ⟨⟨y, List.mem_cons_of_mem _ hy, e⟩, Nat.le_of_succ_le h1, Nat.lt_of_lt_of_eq h2 (by rw [List.length_cons]; omega)⟩
theorem ldL_len : ∀ (fs : List FE) (k : Nat), (ldL fs k).length = fs.length
  | [], _ => rfl
  | p :: r, k => by show (ldL r (k + 1)).length + 1 = _; rw [ldL_len r]; rfl
theorem ldL_sorted : ∀ {fs : List FE} (k : Nat), Asc fs → Sorted (ldL fs k)
  | [], _, _ => List.Pairwise.nil
  | p :: r, k, h => by
    obtain ⟨h1, h2⟩ := List.pairwise_cons.1 h
    refine List.pairwise_cons.2 ⟨fun x hx => ?_, ldL_sorted (k + 1) h2⟩
    obtain ⟨⟨y, hy, e⟩, _⟩ := ldL_mem r (k + 1) x hx
    rw [← e]
    exact h1 y hy
theorem ldL_ids : ∀ (fs : List FE) (k : Nat), ((ldL fs k).map fun p : KE => p.2).Nodup
  | [], _ => List.nodup_nil
  | p :: r, k => by
    refine List.nodup_cons.2 ⟨fun hm => ?_, ldL_ids r (k + 1)⟩
    obtain ⟨x, hx, e⟩ := List.mem_map.1 hm
    have := (ldL_mem r (k + 1) x hx).2
    simp only at e
    rw [e] at this
    exact Nat.not_succ_le_self _ this.1
theorem put_last {l : List KE} {n : ByteArray} {k : Nat} (hs : Sorted l) (h : ∀ x ∈ l, kc x.1 n = -1) : putL n k l = l ++ [(n, k)] := by
  have h2 : Sorted (l ++ [(n, k)]) := by
    refine List.pairwise_append.2 ⟨hs, List.pairwise_singleton _ _, fun a ha b hb => ?_⟩
    obtain rfl : b = (n, k) := by simpa using hb
    exact h a ha
  refine (hs.put n k).ext h2 fun x => ?_
  rw [mem_put, List.mem_append, List.mem_singleton]
  constructor
  · rintro (h3 | h3)
    · exact .inr h3
    · exact .inl h3.1
  · rintro (h3 | h3)
    · refine .inr ⟨h3, fun e => ?_⟩
      have := h x h3
      rw [e, kc_self] at this
      exact absurd this (by decide)
    · exact .inl h3
theorem asc_take {fs : List FE} (h : Asc fs) (i : Nat) : Asc (fs.take i) := List.Pairwise.sublist (List.take_sublist _ _) h
theorem ld_facts (q : Int) : ∀ (fs : List FE), Asc fs → (ldS q fs).safe = ldL fs 0 ∧ (ldS q fs).files = fs.map (fun p => (⟨p.2, []⟩ : Fl)) ∧ (ldS q fs).dchs = [] ∧ (ldS q fs).used = (sumL fs : Nat) ∧ (ldS q fs).quota = q ∧ (ldS q fs).fuse = -1 ∧ (ldS q fs).dead = false ∧ (ldS q fs).ops = 0 := by
  intro fs
  generalize hn : fs.length = n
  induction n generalizing fs with
  | zero =>
    intro _
    obtain rfl := List.length_eq_zero_iff.1 hn
    exact ⟨rfl, rfl, rfl, rfl, rfl, rfl, rfl, rfl⟩
  | succ n ih =>
    intro ha
    obtain ⟨r, p, rfl⟩ : ∃ r p, fs = r ++ [p] := ⟨fs.dropLast, fs.getLast (by intro e; subst e; cases hn), (List.dropLast_concat_getLast _).symm⟩
    obtain ⟨ha1, _, ha2⟩ := List.pairwise_append.1 ha
    obtain ⟨h1, h2, h3, h4, h5, h6, h7, h8⟩ := ih r (by simpa using hn) ha1
    rw [ldS_snoc]
    have hfl : (ldS q r).files.length = r.length := by rw [h2, List.length_map]
    refine ⟨?_, ?_, h3, ?_, h5, h6, h7, h8⟩
    · show putL p.1 (ldS q r).files.length (ldS q r).safe = _
      rw [h1, hfl, ldL_snoc, put_last (ldL_sorted 0 ha1) (fun x hx => ?_)]
      · simp
      · obtain ⟨⟨y, hy, e⟩, _⟩ := ldL_mem r 0 x hx
        rw [← e]
        exact ha2 y hy p (by simp)
    · show (ldS q r).files ++ [_] = _
      rw [h2, List.map_append]
      rfl
    · show (ldS q r).used + _ = _
      rw [h4, sumL_snoc]
      omega
theorem ldL_image : ∀ (fs : List FE) (k : Nat) (g : Nat → List UInt8), (∀ j p, fs[j]? = some p → g (k + j) = p.2) → (ldL fs k).map (fun x : KE => (x.1, g x.2)) = fs
  | [], _, _, _ => rfl
  | p :: r, k, g, h => by
    show (p.1, g k) :: (ldL r (k + 1)).map _ = _
    rw [ldL_image r (k + 1) g fun j x hx => by rw [show k + 1 + j = k + (j + 1) by omega]; exact h (j + 1) x (by simpa using hx)]
    have := h 0 p rfl
    rw [Nat.add_zero] at this
    rw [this]
theorem ld_image (q : Int) (fs : List FE) (ha : Asc fs) : imageL (ldS q fs) = fs := by
  obtain ⟨h1, h2, h3, _⟩ := ld_facts q fs ha
  unfold imageL
  have hs : (ldS q fs).seen = ldL fs 0 := by unfold Dk.seen; rw [h3, h1]; rfl
  rw [hs]
  refine ldL_image fs 0 (fun k => ((ldS q fs).fl k).seen) fun j p hp => ?_
  have : (ldS q fs).fl (0 + j) = ⟨p.2, []⟩ := by
    unfold Dk.fl
    rw [h2, Nat.zero_add, List.getD_eq_getElem?_getD, List.getElem?_map, hp]
    rfl
  rw [this]
  rfl
/-- What an image must be for Load. -/
structure LdOk (q : Int) (fs : List FE) : Prop where
  q : 0 ≤ q ∧ q ≤ 1073741824
  asc : Asc fs
  names : ∀ p ∈ fs, goodN p.1 = true
  few : fs.length ≤ 65536
  sum : sumL fs ≤ 1073741824
theorem sumL_mem {fs : List FE} {p : FE} (h : p ∈ fs) : p.2.length ≤ sumL fs := by
  obtain ⟨i, hi, rfl⟩ := List.getElem_of_mem h
  have e := List.take_append_drop i fs
  have h1 : sumL fs = sumL (fs.take i) + sumL (fs.drop i) := by
    conv => lhs; rw [← e]
    unfold sumL
    rw [List.map_append, List.sum_append]
  rw [List.drop_eq_getElem_cons hi] at h1
  simp only [sumL, List.map_cons, List.sum_cons] at h1 ⊢
  omega
theorem ld_inv {q : Int} {fs : List FE} (h : LdOk q fs) {N : Nat} (hN : fs.length ≤ N) : (ldS q fs).Inv N := by
  obtain ⟨h1, h2, h3, h4, h5, h6, h7, h8⟩ := ld_facts q fs h.asc
  have hseen : (ldS q fs).seen = ldL fs 0 := by unfold Dk.seen; rw [h3, h1]; rfl
  have hlen : (ldS q fs).files.length = fs.length := by rw [h2, List.length_map]
  refine ⟨⟨by rw [h1]; exact ldL_sorted 0 h.asc, by rw [h3]; trivial, fun p hp => ?_, fun c hc => (by rw [h3] at hc; cases hc), fun x hx => ?_⟩, ⟨by rw [h1, h3, ldL_len]; simpa using hN, fun x hx => ?_, fun x hx => ?_⟩, ⟨by rw [h5]; exact h.q, ⟨by rw [h4]; omega, by rw [h4]; have := h.sum; omega⟩, by rw [h6]; decide, by rw [h8]; omega⟩, ?_, by rw [h4]; have := h.sum; omega, by rw [hseen]; exact ldL_ids fs 0, fun p hp => ?_, fun n f hf => by rw [h3] at hf; cases hf⟩
  · rw [h1] at hp
    obtain ⟨⟨y, hy, e⟩, _⟩ := ldL_mem fs 0 p hp
    rw [← e]; exact h.names y hy
  · rw [h2] at hx
    obtain ⟨y, _, rfl⟩ := List.mem_map.1 hx
    trivial
  · rw [h2] at hx
    obtain ⟨y, _, rfl⟩ := List.mem_map.1 hx
    exact Nat.zero_le _
  · rw [h2] at hx
    obtain ⟨y, hy, rfl⟩ := List.mem_map.1 hx
    intro i
    have h1 := sumL_mem hy
    have h2 := h.sum
    simp
    omega
  · rw [h4, ← sum_image, ld_image q fs h.asc]
  · rw [h1] at hp
    rw [hlen]
    exact Nat.lt_of_lt_of_eq (ldL_mem fs 0 p hp).2.2 (Nat.zero_add _)
end Go.Proofs.Ytebeefkibbbkdaa
/- manifest.Replace: what it does to a disk; the functions that it makes. -/
namespace Go.Proofs.Ytebeefkibbbkdaa
open Go.RowKit Go.Maps

/-- The steps of a replacement, by their numbers. -/
def opE (nm tm : ByteArray) (b : List UInt8) : Nat → Dk → Int
  | 0 => createE tm
  | 1 => appendE tm b
  | 2 => syncE tm
  | 3 => renameE tm nm
  | _ => syncDirE
def opS (nm tm : ByteArray) (b : List UInt8) : Nat → Dk → Dk
  | 0 => createS tm
  | 1 => appendS tm b
  | 2 => syncS tm
  | 3 => renameS tm nm
  | _ => syncDirS
/-- Five steps, the file beside taken away where one fails with power. -/
def runK (nm tm : ByteArray) (b : List UInt8) : Nat → Nat → Dk → Int × Dk
  | 0, _, s => (0, s)
  | f + 1, k, s => if opE nm tm b k s = 0 then runK nm tm b f (k + 1) (opS nm tm b k s)
    else if 0 < k ∧ opE nm tm b k s ≠ 34 then (opE nm tm b k s, removeS tm (opS nm tm b k s)) else (opE nm tm b k s, opS nm tm b k s)
def replT (nm tm : ByteArray) (b : List UInt8) (s : Dk) : Int × Dk :=
  if atE nm s ≠ 0 ∧ atE nm s ≠ 31 then (atE nm s, s)
  else if atE tm s = 0 then (if removeE tm s = 0 then runK nm tm b 5 0 (removeS tm s) else (removeE tm s, removeS tm s))
  else if atE tm s = 31 then runK nm tm b 5 0 s
  else (atE tm s, s)
section
variable {W w w' : World} {S S' : Nat → Prop} {d N n c : Nat} {s : Dk} {nm tm : ByteArray} {A : Option Addr} {bs : List UInt8} {u : FrameMode} {B0 B1 B2 B3 B4 B5 : Nat}
theorem Out.then_ (h : Out w S A bs) (hc : Chg S w w') (hs : ∀ b, S' b → S b ∨ w.heap.size ≤ b) : Out w' S' A bs := by
  refine ⟨fun j u hj => ?_, fun ad e hne hS => ?_⟩
  · obtain ⟨ad, e, hb, hcl⟩ := h.1 j u hj
    have hne : bs ≠ [] := fun e => by subst e; simp [bv] at hj
    refine ⟨ad, e, Nat.lt_of_lt_of_le hb hc.size, ?_⟩
    rw [← hcl]
    exact cell_heap (by rw [add_block]; exact hc.block _ hb (h.2 ad e hne))
  · rcases hs _ hS with h1 | h1
    · exact h.2 ad e hne h1
    · obtain ⟨x, r, rfl⟩ : ∃ x r, bs = x :: r := by cases bs; exact absurd rfl hne; exact ⟨_, _, rfl⟩
      obtain ⟨ad', e', hb, _⟩ := h.1 0 _ rfl
      rw [e] at e'
      injection e' with e'
      subst e'
      omega
theorem Out.next (h : Out w S A bs) (hb : Below w.heap.size w w') : Out w' S A bs := h.then_ (Chg.of_below hb S) fun _ h => .inl h
set_option maxRecDepth 100000 in
set_option maxHeartbeats 2000000 in
theorem cl2 (h : Lv W w S d s N) (hN : N ≤ 999999999999) (hz : tm.size ≤ maxLen) (h0 : w.cell? ⟨B0, 0, none⟩ = some (.pointer (some ⟨d, 0, none⟩))) (h4 : w.cell? ⟨B4, 0, none⟩ = some (.string tm)) :
    Calls Try.prog 28 #[.pointer (some ⟨B0, 0, none⟩), .pointer (some ⟨B4, 0, none⟩)] w fun e w' => e = .returned (.int .i64 (createE tm s)) ∧ Lv.Then W w w' S d (createS tm s) (N + 1) := by
  go_enter Try.func28, Try.ntmps28
  go_wp2_with (first | (go_at_call 29; refine (lv_create tm h hN hz).mono ?_; rintro e w1 ⟨rfl, h1⟩; have H1 := Lib.hid h1; clear h1))
  go_ret
  exact ⟨rfl, H1.out⟩
set_option maxRecDepth 100000 in
set_option maxHeartbeats 2000000 in
theorem cl3 (h : Lv W w S d s N) (hN : N ≤ 999999999999) (hz : tm.size ≤ maxLen) (hA : Out w S A bs) (hn : bs.length = n) (hm : n ≤ 140737488355328) (h0 : w.cell? ⟨B0, 0, none⟩ = some (.pointer (some ⟨d, 0, none⟩))) (h4 : w.cell? ⟨B4, 0, none⟩ = some (.string tm)) (h2 : w.cell? ⟨B2, 0, none⟩ = some (.slice A n c)) :
    Calls Try.prog 30 #[.pointer (some ⟨B0, 0, none⟩), .pointer (some ⟨B4, 0, none⟩), .pointer (some ⟨B2, 0, none⟩)] w fun e w' => e = .returned (.int .i64 (appendE tm bs s)) ∧ Lv.Then W w w' S d (appendS tm bs s) (N + 1) := by
  go_enter Try.func30, Try.ntmps30
  go_wp2_with (first | (go_at_call 31; refine (lv_append tm A n c bs h hN hz hA hn hm).mono ?_; rintro e w1 ⟨rfl, h1⟩; have H1 := Lib.hid h1; clear h1))
  go_ret
  exact ⟨rfl, H1.out⟩
set_option maxRecDepth 100000 in
set_option maxHeartbeats 2000000 in
theorem cl4 (h : Lv W w S d s N) (hN : N ≤ 999999999999) (hz : tm.size ≤ maxLen) (h0 : w.cell? ⟨B0, 0, none⟩ = some (.pointer (some ⟨d, 0, none⟩))) (h4 : w.cell? ⟨B4, 0, none⟩ = some (.string tm)) :
    Calls Try.prog 32 #[.pointer (some ⟨B0, 0, none⟩), .pointer (some ⟨B4, 0, none⟩)] w fun e w' => e = .returned (.int .i64 (syncE tm s)) ∧ Lv.Then W w w' S d (syncS tm s) (N + 1) := by
  go_enter Try.func32, Try.ntmps32
  go_wp2_with (first | (go_at_call 33; refine (lv_sync tm h hN hz).mono ?_; rintro e w1 ⟨rfl, h1⟩; have H1 := Lib.hid h1; clear h1))
  go_ret
  exact ⟨rfl, H1.out⟩
set_option maxRecDepth 100000 in
set_option maxHeartbeats 2000000 in
theorem cl5 (h : Lv W w S d s N) (hN : N ≤ 999999999999) (hz : tm.size ≤ maxLen) (hz2 : nm.size ≤ maxLen) (h0 : w.cell? ⟨B0, 0, none⟩ = some (.pointer (some ⟨d, 0, none⟩))) (h4 : w.cell? ⟨B4, 0, none⟩ = some (.string tm)) (h1 : w.cell? ⟨B1, 0, none⟩ = some (.string nm)) :
    Calls Try.prog 34 #[.pointer (some ⟨B0, 0, none⟩), .pointer (some ⟨B4, 0, none⟩), .pointer (some ⟨B1, 0, none⟩)] w fun e w' => e = .returned (.int .i64 (renameE tm nm s)) ∧ Lv.Then W w w' S d (renameS tm nm s) (N + 1) := by
  go_enter Try.func34, Try.ntmps34
  go_wp2_with (first | (go_at_call 35; refine (lv_rename tm nm h hN hz hz2).mono ?_; rintro e w1 ⟨rfl, h1⟩; have H1 := Lib.hid h1; clear h1))
  go_ret
  exact ⟨rfl, H1.out⟩
set_option maxRecDepth 100000 in
set_option maxHeartbeats 2000000 in
/-- The deferred one, where nothing is to be taken away. -/
theorem cl1_no (mb : Bool) (ev : Int) (hn : mb = false ∨ ev = 0 ∨ ev = 34) (h5 : w.cell? ⟨B5, 0, none⟩ = some (.bool mb)) (h3 : w.cell? ⟨B3, 0, none⟩ = some (.int .i64 ev)) :
    CallsD Try.prog 27 #[.pointer (some ⟨B5, 0, none⟩), .pointer (some ⟨B3, 0, none⟩), .pointer (some ⟨B0, 0, none⟩), .pointer (some ⟨B4, 0, none⟩)] u w fun e u' w' => u' = u ∧ e = .returned (.tuple #[]) ∧ w' = w := by
  rcases hn with rfl | rfl | rfl
  · go_enter_d Try.func27, Try.ntmps27
    go_wp2
    go_end0
    exact ⟨rfl, rfl⟩
  · cases mb
    all_goals
      go_enter_d Try.func27, Try.ntmps27
      go_wp2
      go_end0
      exact ⟨rfl, rfl⟩
  · cases mb
    all_goals
      go_enter_d Try.func27, Try.ntmps27
      go_wp2
      go_end0
      exact ⟨rfl, rfl⟩
set_option maxRecDepth 100000 in
set_option maxHeartbeats 2000000 in
theorem cl1_yes (ev : Int) (hn : ev ≠ 0 ∧ ev ≠ 34) (h : Lv W w S d s N) (hN : N ≤ 999999999999) (hz : tm.size ≤ maxLen) (h5 : w.cell? ⟨B5, 0, none⟩ = some (.bool true)) (h3 : w.cell? ⟨B3, 0, none⟩ = some (.int .i64 ev)) (h0 : w.cell? ⟨B0, 0, none⟩ = some (.pointer (some ⟨d, 0, none⟩))) (h4 : w.cell? ⟨B4, 0, none⟩ = some (.string tm)) :
    CallsD Try.prog 27 #[.pointer (some ⟨B5, 0, none⟩), .pointer (some ⟨B3, 0, none⟩), .pointer (some ⟨B0, 0, none⟩), .pointer (some ⟨B4, 0, none⟩)] u w fun e u' w' => u' = u ∧ e = .returned (.tuple #[]) ∧ Lv.Then W w w' S d (removeS tm s) (N + 1) := by
  have e0 : (ev != 0) = true := by simpa using hn.1
  have e34 : (ev != 34) = true := by simpa using hn.2
  go_enter_d Try.func27, Try.ntmps27
  go_wp2_with (first | (go_at_call 26; refine (lv_remove tm h hN hz).mono ?_; rintro e w1 ⟨rfl, h1⟩; have H1 := Lib.hid h1; clear h1))
  go_end0
  exact ⟨rfl, H1.out⟩
end
end Go.Proofs.Ytebeefkibbbkdaa
/- Replace on a disk that has one name and the one beside it: what a crash may leave: plain laws. -/
namespace Go.Proofs.Ytebeefkibbbkdaa
open Go.RowKit Go.Maps

/-- The directory knows two names at most; the first leads to bytes of A, all durable. -/
structure Gd (nm tm : ByteArray) (A : List UInt8 → Prop) (must : Prop) (s : Dk) : Prop where
  two : ∀ k, k ≤ s.dchs.length → ∀ p ∈ dirAt s k, p.1 = nm ∨ p.1 = tm
  old : ∀ k, k ≤ s.dchs.length → ∀ p ∈ dirAt s k, p.1 = nm → p.2 < s.files.length ∧ (s.fl p.2).chs = [] ∧ A (s.fl p.2).safe
  must : must → ∀ k, k ≤ s.dchs.length → ∃ p ∈ dirAt s k, p.1 = nm
  sm : ∀ z ∈ s.files, Short z 1048576
section
variable {nm tm : ByteArray} {A A' : List UInt8 → Prop} {must : Prop} {s s' : Dk} {c : DC} {x N : Nat} {y : Fl} {b : List UInt8}
theorem dirAt_same (h1 : s'.safe = s.safe) (h2 : s'.dchs = s.dchs) (k : Nat) : dirAt s' k = dirAt s k := by unfold dirAt; rw [h1, h2]
theorem fl_same (h : s'.files = s.files) (k : Nat) : s'.fl k = s.fl k := by unfold Dk.fl; rw [h]
theorem seen_at (s : Dk) : s.seen = dirAt s s.dchs.length := (dirAt_last s).symm
theorem Gd.same (h : Gd nm tm A must s) (h0 : s'.files = s.files) (h1 : s'.safe = s.safe) (h2 : s'.dchs = s.dchs) : Gd nm tm A must s' := by
  refine ⟨fun k hk => ?_, fun k hk p hp hn => ?_, fun hm k hk => ?_, by rw [h0]; exact h.sm⟩
  · rw [dirAt_same h1 h2]; exact h.two k (by rw [← h2]; exact hk)
  · rw [dirAt_same h1 h2] at hp
    rw [fl_same h0, h0]
    exact h.old k (by rw [← h2]; exact hk) p hp hn
  · rw [dirAt_same h1 h2]; exact h.must hm k (by rw [← h2]; exact hk)
theorem Gd.dir (h : Gd nm tm A must s) (h1 : s'.safe = s.safe) (h2 : s'.dchs = s.dchs ++ [c]) (hlen : s.files.length ≤ s'.files.length) (hfl : ∀ k, k < s.files.length → s'.fl k = s.fl k) (hA : ∀ z, A z → A' z)
    (hnew : ∀ p ∈ ddo s.seen c, (p.1 = nm ∨ p.1 = tm) ∧ (p.1 = nm → p.2 < s'.files.length ∧ (s'.fl p.2).chs = [] ∧ A' (s'.fl p.2).safe)) (hmust : must → ∃ p ∈ ddo s.seen c, p.1 = nm) (hsm : ∀ z ∈ s'.files, Short z 1048576) : Gd nm tm A' must s' := by
  have hl : s'.dchs.length = s.dchs.length + 1 := by rw [h2, List.length_append]; rfl
  refine ⟨fun k hk p hp => ?_, fun k hk p hp hn => ?_, fun hm k hk => ?_, hsm⟩
  · rcases Nat.lt_or_ge s.dchs.length k with hlt | hge
    · obtain rfl : k = s.dchs.length + 1 := by omega
      rw [dirAt_new h1 h2] at hp
      exact (hnew p hp).1
    · rw [dirAt_old h1 h2 hge] at hp
      exact h.two k hge p hp
  · rcases Nat.lt_or_ge s.dchs.length k with hlt | hge
    · obtain rfl : k = s.dchs.length + 1 := by omega
      rw [dirAt_new h1 h2] at hp
      exact (hnew p hp).2 hn
    · rw [dirAt_old h1 h2 hge] at hp
      obtain ⟨g1, g2, g3⟩ := h.old k hge p hp hn
      rw [hfl _ g1]
      exact ⟨Nat.lt_of_lt_of_le g1 hlen, g2, hA _ g3⟩
  · rcases Nat.lt_or_ge s.dchs.length k with hlt | hge
    · obtain rfl : k = s.dchs.length + 1 := by omega
      rw [dirAt_new h1 h2]
      exact hmust hm
    · rw [dirAt_old h1 h2 hge]
      exact h.must hm k hge
theorem Gd.file (h : Gd nm tm A must s) (h1 : s'.safe = s.safe) (h2 : s'.dchs = s.dchs) (hf : s'.files = s.files.set x y) (hx : ∀ k, k ≤ s.dchs.length → ∀ p ∈ dirAt s k, p.1 = nm → p.2 ≠ x) (hy : Short y 1048576) : Gd nm tm A must s' := by
  refine ⟨fun k hk => ?_, fun k hk p hp hn => ?_, fun hm k hk => ?_, fun z hz => by
    rw [hf] at hz
    rcases List.mem_or_eq_of_mem_set hz with h3 | rfl
    · exact h.sm z h3
    · exact hy⟩
  · rw [dirAt_same h1 h2]; exact h.two k (by rw [← h2]; exact hk)
  · rw [dirAt_same h1 h2] at hp
    have hk' : k ≤ s.dchs.length := by rw [← h2]; exact hk
    have hne := hx k hk' p hp hn
    have e : s'.fl p.2 = s.fl p.2 := by
      unfold Dk.fl
      rw [hf, List.getD_eq_getElem?_getD, List.getD_eq_getElem?_getD, List.getElem?_set_ne (fun e => hne e.symm)]
    rw [e, hf, List.length_set]
    exact h.old k hk' p hp hn
  · rw [dirAt_same h1 h2]; exact h.must hm k (by rw [← h2]; exact hk)
theorem clean_was {x : Fl} (hc : x.chs = []) (h : Was (vers x) (grow x) b) : b = x.safe := by
  obtain ⟨j, z, hz, hr⟩ := h
  have hv : vers x = [x.safe] := by unfold vers; rw [hc]; rfl
  rw [hv] at hz hr
  cases j with
  | zero =>
    simp at hz
    subst hz
    rcases hr with rfl | ⟨y, g, hy, _⟩
    · rfl
    · simp at hy
  | succ j => simp at hz
theorem Gd.short (h : Gd nm tm A must s) (k : Nat) : Short (s.fl k) 1048576 := by
  by_cases hk : k < s.files.length
  · exact h.sm _ (fl_mem hk)
  · have e : s.fl k = Fl.new := by unfold Dk.fl; rw [List.getD_eq_getElem?_getD, List.getElem?_eq_none (by omega)]; rfl
    rw [e]
    intro i
    simp [Fl.new]
/-- What a crash leaves. -/
theorem Gd.crash (h : Gd nm tm A must s) (ps : List Int) : (∀ q ∈ crashL s ps, (q.1 = nm ∨ q.1 = tm) ∧ (q.1 = nm → A q.2)) ∧ (must → ∃ q ∈ crashL s ps, q.1 = nm) ∧ ∀ q ∈ crashL s ps, q.2.length ≤ 1048576 := by
  obtain ⟨e, hle⟩ := left_at s ps
  generalize modn (pickV ps) (s.dchs.length + 1) = k at e hle
  unfold crashL
  rw [e]
  refine ⟨fun q hq => ?_, fun hm => ?_, tornAll_small (fun k => h.short k) _ _⟩
  · obtain ⟨i, hi, rfl⟩ := List.getElem_of_mem hq
    have hil : i < (dirAt s k).length := by rwa [tornAll_len] at hi
    obtain ⟨b, g1, g2⟩ := tornAll_was s (dirAt s k) ps.tail i _ (List.getElem?_eq_getElem hil)
    rw [List.getElem?_eq_getElem hi] at g1
    injection g1 with g1
    rw [g1]
    have hm := List.getElem_mem hil
    refine ⟨h.two k hle _ hm, fun hn => ?_⟩
    obtain ⟨_, h2, h3⟩ := h.old k hle _ hm hn
    rw [clean_was h2 g2]
    exact h3
  · obtain ⟨p, hp, hn⟩ := h.must hm k hle
    obtain ⟨i, hil, rfl⟩ := List.getElem_of_mem hp
    obtain ⟨b, g1, _⟩ := tornAll_was s (dirAt s k) ps.tail i _ (List.getElem?_eq_getElem hil)
    exact ⟨_, List.mem_of_getElem? g1, hn⟩
theorem spend_on (h : s.fuse ≠ 0) : (spendS s).dead = s.dead ∧ spendE s = 0 := by
  unfold spendS spendE
  rw [if_neg h, if_neg h]
  exact ⟨rfl, rfl⟩
theorem spend_off (h : s.fuse = 0) : spendE s = 34 := if_pos h
theorem Gd.spend (h : Gd nm tm A must s) : Gd nm tm A must (spendS s) := let ⟨h0, h1, h2, _⟩ := spend_fields s; h.same h0 h1 h2
theorem atE_one (ha : s.dead = false) (hg : goodN tm = true) : atE tm s = if getL tm s.seen = none then 31 else 0 := by
  unfold atE
  rw [ha, hg]
  simp
theorem spend_neg (h : s.fuse < 0) : (spendS s).fuse < 0 := by
  unfold spendS
  rw [if_neg (by omega)]
  show (if s.fuse > 0 then s.fuse - 1 else s.fuse) < 0
  rw [if_neg (by omega)]
  exact h
/-- In the midst of a replacement. -/
structure Mdd (nm tm : ByteArray) (A : List UInt8 → Prop) (must : Prop) (x : Nat) (y : Fl) (q u f0 : Int) (s : Dk) : Prop where
  gd : Gd nm tm A must s
  fu : f0 < 0 → s.fuse < 0
  al : s.dead = false
  so : Sorted s.seen
  tg : getL tm s.seen = some x
  fr : ∀ k, k ≤ s.dchs.length → ∀ p ∈ dirAt s k, p.1 = nm → p.2 ≠ x
  xl : x < s.files.length
  fx : s.fl x = y
  q : s.quota = q
  u : s.used = u
theorem seen_fields (h1 : s'.safe = s.safe) (h2 : s'.dchs = s.dchs) : s'.seen = s.seen := by rw [seen_at, seen_at, dirAt_same h1 h2, h2]
theorem seen_dir (h1 : s'.safe = s.safe) (h2 : s'.dchs = s.dchs ++ [c]) : s'.seen = ddo s.seen c := by
  rw [seen_at, show s'.dchs.length = s.dchs.length + 1 by rw [h2, List.length_append]; rfl, dirAt_new h1 h2]
/-- A step that is refused for want of power. -/
def Off (e : Int) (s s' : Dk) : Prop := e = 34 ∧ s' = spendS s ∧ s.fuse = 0
theorem create_mid {f0 : Int} (hfu : f0 < 0 → s.fuse < 0) (hG : Gd nm tm A must s) (hne : nm ≠ tm) (hal : s.dead = false) (hso : Sorted s.seen) (hg2 : goodN tm = true) (hnt : getL tm s.seen = none) (hfew : s.seen.length < 65536) :
    Off (createE tm s) s (createS tm s) ∨ (createE tm s = 0 ∧ Mdd nm tm A must s.files.length Fl.new s.quota s.used f0 (createS tm s)) := by
  have h31 : atE tm s = 31 := by rw [atE_one hal hg2, if_pos hnt]
  unfold createE createS Off
  rw [h31, if_neg (by decide), if_neg (by decide), if_neg (by omega), if_neg (by decide), if_neg (by decide), if_neg (by omega)]
  by_cases hf : s.fuse = 0
  · left
    rw [if_pos hf]
    exact ⟨spend_off hf, rfl, hf⟩
  · right
    rw [if_neg hf]
    obtain ⟨g0, g1, g2, g3, g4⟩ := spend_fields s
    obtain ⟨g5, g6⟩ := spend_on hf
    obtain ⟨s1, hs1⟩ : ∃ s1 : Dk, { spendS s with files := s.files ++ [Fl.new], dchs := s.dchs ++ [.inl (tm, s.files.length)] } = s1 := ⟨_, rfl⟩
    have e0 : s1.files = s.files ++ [Fl.new] := by rw [← hs1]
    have e1 : s1.safe = s.safe := by rw [← hs1]; exact g1
    have e2 : s1.dchs = s.dchs ++ [.inl (tm, s.files.length)] := by rw [← hs1]
    have e3 : s1.quota = s.quota := by rw [← hs1]; exact g3
    have e4 : s1.used = s.used := by rw [← hs1]; exact g4
    have e5 : s1.dead = false := by rw [← hs1]; exact g5.trans hal
    rw [hs1]
    have hsn : s1.seen = putL tm s.files.length s.seen := seen_dir e1 e2
    have hfl : ∀ k, k < s.files.length → s1.fl k = s.fl k := fun k hk => by
      unfold Dk.fl
      rw [e0, List.getD_eq_getElem?_getD, List.getD_eq_getElem?_getD, List.getElem?_append_left hk]
    refine ⟨g6, hG.dir e1 e2 (by rw [e0, List.length_append]; omega) hfl (fun _ h => h) (fun p hp => ?_) (fun hm => ?_) (fun z hz => by
      rw [e0] at hz
      rcases List.mem_append.1 hz with h3 | h3
      · exact hG.sm z h3
      · simp at h3
        subst h3
        intro i
        simp [Fl.new]), fun h0 => by rw [← hs1]; exact spend_neg (hfu h0), e5, by rw [hsn]; exact hso.put _ _, by rw [hsn, get_put hso, if_pos rfl], fun k hk p hp hn => ?_, by rw [e0, List.length_append]; simp, ?_, e3, e4⟩
    · rcases mem_put.1 hp with rfl | ⟨h1, h2⟩
      · exact ⟨.inr rfl, fun h => absurd h.symm hne⟩
      · rw [seen_at] at h1
        refine ⟨hG.two _ (Nat.le_refl _) p h1, fun hn => ?_⟩
        obtain ⟨k1, k2, k3⟩ := hG.old _ (Nat.le_refl _) p h1 hn
        rw [hfl _ k1]
        exact ⟨by rw [e0, List.length_append]; exact Nat.lt_of_lt_of_le k1 (Nat.le_add_right _ _), k2, k3⟩
    · obtain ⟨p, hp, hn⟩ := hG.must hm _ (Nat.le_refl _)
      refine ⟨p, mem_put.2 (.inr ⟨by rw [seen_at]; exact hp, fun e => hne (hn.symm.trans e)⟩), hn⟩
    · rw [e2, List.length_append] at hk
      rcases Nat.lt_or_ge s.dchs.length k with hlt | hge
      · obtain rfl : k = s.dchs.length + 1 := by simp at hk; omega
        rw [dirAt_new e1 e2] at hp
        rcases mem_put.1 hp with rfl | ⟨h1, h2⟩
        · exact absurd hn.symm hne
        · rw [seen_at] at h1
          exact Nat.ne_of_lt (hG.old _ (Nat.le_refl _) p h1 hn).1
      · rw [dirAt_old e1 e2 hge] at hp
        exact Nat.ne_of_lt (hG.old k hge p hp hn).1
    · unfold Dk.fl
      rw [e0, List.getD_eq_getElem?_getD, List.getElem?_append_right (Nat.le_refl _), Nat.sub_self]
      rfl
/-- A step that turns the file beside. -/
theorem Mdd.turn {q u u' f0 : Int} {y' : Fl} (h : Mdd nm tm A must x y q u f0 s) (hfu : f0 < 0 → s'.fuse < 0) (e0 : s'.files = s.files.set x y') (e1 : s'.safe = s.safe) (e2 : s'.dchs = s.dchs) (e3 : s'.quota = s.quota) (e4 : s'.used = u') (e5 : s'.dead = false) (hy : Short y' 1048576) : Mdd nm tm A must x y' q u' f0 s' := by
  have hsn := seen_fields e1 e2
  refine ⟨h.gd.file e1 e2 e0 h.fr hy, hfu, e5, by rw [hsn]; exact h.so, by rw [hsn]; exact h.tg, fun k hk p hp hn => ?_, by rw [e0, List.length_set]; exact h.xl, ?_, e3.trans h.q, e4⟩
  · rw [dirAt_same e1 e2] at hp
    exact h.fr k (by rw [← e2]; exact hk) p hp hn
  · unfold Dk.fl
    rw [e0, List.getD_eq_getElem?_getD, List.getElem?_set_self h.xl]
    rfl
theorem append_mid {q u f0 : Int} (h : Mdd nm tm A must x y q u f0 s) (hg2 : goodN tm = true) (hroom : u + b.length ≤ q) (hy : Short ⟨y.safe, y.chs ++ [.inl b]⟩ 1048576) :
    Off (appendE tm b s) s (appendS tm b s) ∨ (appendE tm b s = 0 ∧ Mdd nm tm A must x ⟨y.safe, y.chs ++ [.inl b]⟩ q (u + b.length) f0 (appendS tm b s)) := by
  have h0 : atE tm s = 0 := by rw [atE_one h.al hg2, h.tg]; simp
  have hov : ¬ (0 < b.length ∧ s.quota - s.used < b.length) := fun ⟨_, hh⟩ => by rw [h.q, h.u] at hh; omega
  unfold appendE appendS Off
  rw [h0, if_neg (by decide), if_neg hov, if_neg (by decide), if_neg hov]
  by_cases hf : s.fuse = 0
  · left
    rw [if_pos hf]
    exact ⟨spend_off hf, rfl, hf⟩
  · right
    rw [if_neg hf]
    obtain ⟨g0, g1, g2, g3, g4⟩ := spend_fields s
    obtain ⟨g5, g6⟩ := spend_on hf
    refine ⟨g6, h.turn (s' := { (spendS s).addC (s.num tm) (.inl b) with used := s.used + b.length }) (y' := ⟨y.safe, y.chs ++ [.inl b]⟩) (fun h0 => spend_neg (h.fu h0)) ?_ g1 g2 g3 (by show s.used + (b.length : Int) = u + b.length; rw [h.u]) (g5.trans h.al) hy⟩
    show ((spendS s).addC (s.num tm) (.inl b)).files = _
    unfold Dk.addC Dk.setF
    rw [getL_num h.tg]
    show (spendS s).files.set x ⟨((spendS s).fl x).safe, ((spendS s).fl x).chs ++ [.inl b]⟩ = _
    rw [fl_same g0, h.fx, g0]
theorem sync_mid {q u f0 : Int} (h : Mdd nm tm A must x y q u f0 s) (hg2 : goodN tm = true) (hy : Short ⟨y.seen, []⟩ 1048576) :
    Off (syncE tm s) s (syncS tm s) ∨ (syncE tm s = 0 ∧ Mdd nm tm A must x ⟨y.seen, []⟩ q u f0 (syncS tm s)) := by
  have h0 : atE tm s = 0 := by rw [atE_one h.al hg2, h.tg]; simp
  unfold syncE syncS Off
  rw [h0, if_neg (by decide), if_neg (by decide)]
  by_cases hf : s.fuse = 0
  · left
    rw [if_pos hf]
    exact ⟨spend_off hf, rfl, hf⟩
  · right
    rw [if_neg hf]
    obtain ⟨g0, g1, g2, g3, g4⟩ := spend_fields s
    obtain ⟨g5, g6⟩ := spend_on hf
    refine ⟨g6, h.turn (y' := ⟨y.seen, []⟩) (fun h0 => spend_neg (h.fu h0)) ?_ g1 g2 g3 (by show (spendS s).used = _; rw [g4, h.u]) (g5.trans h.al) hy⟩
    show (spendS s).files.set (s.num tm) ⟨(s.fl (s.num tm)).seen, []⟩ = _
    rw [getL_num h.tg, h.fx, g0]
/-- Behind the renaming. -/
structure Ren (nm tm : ByteArray) (A : List UInt8 → Prop) (must : Prop) (b : List UInt8) (f0 : Int) (s : Dk) : Prop where
  fu : f0 < 0 → s.fuse < 0
  gd : Gd nm tm (fun z => A z ∨ z = b) must s
  al : s.dead = false
  one : ∃ x, (nm, x) ∈ s.seen ∧ (∀ p ∈ s.seen, p.1 = nm → p.2 = x) ∧ s.fl x = ⟨b, []⟩ ∧ x < s.files.length
theorem rename_mid {q u f0 : Int} (h : Mdd nm tm A must x ⟨b, []⟩ q u f0 s) (hne : nm ≠ tm) (hg1 : goodN nm = true) (hg2 : goodN tm = true) :
    Off (renameE tm nm s) s (renameS tm nm s) ∨ (renameE tm nm s = 0 ∧ Ren nm tm A must b f0 (renameS tm nm s)) := by
  have h0 : atE tm s = 0 := by rw [atE_one h.al hg2, h.tg]; simp
  unfold renameE renameS Off
  rw [h.al, if_neg (by decide), if_neg (by rw [hg1, hg2]; simp), if_neg (fun e => hne e.symm), h0, if_neg (by decide), if_neg (by decide), if_neg (by rw [hg1, hg2]; simp), if_neg (fun e => hne e.symm), if_neg (by decide)]
  by_cases hf : s.fuse = 0
  · left
    rw [if_pos hf]
    exact ⟨spend_off hf, rfl, hf⟩
  · right
    rw [if_neg hf]
    obtain ⟨g0, g1, g2, g3, g4⟩ := spend_fields s
    obtain ⟨g5, g6⟩ := spend_on hf
    obtain ⟨s1, hs1⟩ : ∃ s1 : Dk, { spendS s with dchs := s.dchs ++ [.inr (.inl (tm, nm))], used := s.used - lenOf s nm } = s1 := ⟨_, rfl⟩
    have e0 : s1.files = s.files := by rw [← hs1]; exact g0
    have e1 : s1.safe = s.safe := by rw [← hs1]; exact g1
    have e2 : s1.dchs = s.dchs ++ [.inr (.inl (tm, nm))] := by rw [← hs1]
    have e5 : s1.dead = false := by rw [← hs1]; exact g5.trans h.al
    rw [hs1]
    have hdd : ddo s.seen (.inr (.inl (tm, nm))) = delL tm (putL nm x s.seen) := by show delL tm (putL nm ((getL tm s.seen).getD 0) s.seen) = _; rw [h.tg]; rfl
    have hsn : s1.seen = delL tm (putL nm x s.seen) := (seen_dir e1 e2).trans hdd
    have hfl := fl_same e0
    have hin : (nm, x) ∈ delL tm (putL nm x s.seen) := mem_del.2 ⟨mem_put.2 (.inl rfl), hne⟩
    have hon : ∀ p ∈ delL tm (putL nm x s.seen), p.1 = nm → p.2 = x := fun p hp hn => by
      rcases mem_put.1 (mem_del.1 hp).1 with rfl | ⟨_, h2⟩
      · rfl
      · exact absurd hn h2
    refine ⟨g6, ⟨fun h0 => by rw [← hs1]; exact spend_neg (h.fu h0), h.gd.dir e1 e2 (by rw [e0]; exact Nat.le_refl _) (fun k _ => hfl k) (fun _ h => .inl h) (fun p hp => ?_) (fun _ => ⟨_, by rw [hdd]; exact hin, rfl⟩) (by rw [e0]; exact h.gd.sm), e5, x, by rw [hsn]; exact hin, by rw [hsn]; exact hon, by rw [hfl]; exact h.fx, by rw [e0]; exact h.xl⟩⟩
    rw [hdd] at hp
    refine ⟨?_, fun hn => ?_⟩
    · rcases mem_put.1 (mem_del.1 hp).1 with rfl | ⟨h1, _⟩
      · exact .inl rfl
      · rw [seen_at] at h1
        exact h.gd.two _ (Nat.le_refl _) p h1
    · rw [hon p hp hn, hfl, e0, h.fx]
      exact ⟨h.xl, rfl, .inr rfl⟩
theorem syncDir_ren {f0 : Int} (h : Ren nm tm A must b f0 s) :
    Off (syncDirE s) s (syncDirS s) ∨ (syncDirE s = 0 ∧ Gd nm tm (fun z => z = b) True (syncDirS s)) := by
  unfold syncDirE syncDirS Off
  rw [h.al, if_neg (by decide), if_neg (by decide)]
  by_cases hf : s.fuse = 0
  · left
    rw [if_pos hf]
    exact ⟨spend_off hf, rfl, hf⟩
  · right
    rw [if_neg hf]
    obtain ⟨g0, g1, g2, g3, g4⟩ := spend_fields s
    obtain ⟨x, h1, h2, h3, h4⟩ := h.one
    obtain ⟨s1, hs1⟩ : ∃ s1 : Dk, { spendS s with safe := s.seen, dchs := [] } = s1 := ⟨_, rfl⟩
    have e0 : s1.files = s.files := by rw [← hs1]; exact g0
    have e1 : s1.safe = s.seen := by rw [← hs1]
    have e2 : s1.dchs = [] := by rw [← hs1]
    rw [hs1]
    have hd : ∀ k, dirAt s1 k = s.seen := fun k => by unfold dirAt; rw [e1, e2]; simp
    refine ⟨(spend_on hf).2, fun k _ p hp => ?_, fun k _ p hp hn => ?_, fun _ k _ => ⟨_, by rw [hd]; exact h1, rfl⟩, by rw [e0]; exact h.gd.sm⟩
    · rw [hd, seen_at] at hp
      exact h.gd.two _ (Nat.le_refl _) p hp
    · rw [hd] at hp
      rw [h2 p hp hn, fl_same e0, e0, h3]
      exact ⟨h4, rfl, rfl⟩
theorem short_one (hb : b.length ≤ 1048576) : Short ⟨Fl.new.safe, Fl.new.chs ++ [.inl b]⟩ 1048576 := by
  intro i
  cases i with
  | zero => simp [Fl.new]
  | succ i => simpa [Fl.new, fdo] using hb
theorem short_done (hb : b.length ≤ 1048576) : Short ⟨(⟨Fl.new.safe, Fl.new.chs ++ [.inl b]⟩ : Fl).seen, []⟩ 1048576 := by
  intro i
  simpa [Fl.new, Fl.seen, fdo] using hb
/-- The five steps. -/
theorem run5_gd (hG : Gd nm tm A must s) (hne : nm ≠ tm) (hal : s.dead = false) (hso : Sorted s.seen) (hg1 : goodN nm = true) (hg2 : goodN tm = true) (hnt : getL tm s.seen = none) (hfew : s.seen.length < 65536) (hroom : s.used + b.length ≤ s.quota) (hb : b.length ≤ 1048576) :
    ((runK nm tm b 5 0 s).1 = 0 ∧ Gd nm tm (fun z => z = b) True (runK nm tm b 5 0 s).2) ∨ ((runK nm tm b 5 0 s).1 = 34 ∧ Gd nm tm (fun z => A z ∨ z = b) must (runK nm tm b 5 0 s).2 ∧ 0 ≤ s.fuse) := by
  have hup : ∀ {t : Dk}, Gd nm tm A must t → Gd nm tm (fun z => A z ∨ z = b) must t := fun h => ⟨h.two, fun k hk p hp hn => let ⟨a1, a2, a3⟩ := h.old k hk p hp hn; ⟨a1, a2, .inl a3⟩, h.must, h.sm⟩
  have hoff : ∀ {f k : Nat} {t : Dk}, Gd nm tm (fun z => A z ∨ z = b) must t → Off (opE nm tm b k t) t (opS nm tm b k t) → (s.fuse < 0 → t.fuse < 0) → (runK nm tm b (f + 1) k t).1 = 34 ∧ Gd nm tm (fun z => A z ∨ z = b) must (runK nm tm b (f + 1) k t).2 ∧ 0 ≤ s.fuse := fun {f k t} hg ⟨h1, h2, h3⟩ hfu => by
    have e : runK nm tm b (f + 1) k t = (opE nm tm b k t, opS nm tm b k t) := (if_neg (by rw [h1]; decide)).trans (if_neg fun hh => hh.2 h1)
    rw [e]
    exact ⟨h1, by rw [h2]; exact hg.spend, Classical.byContradiction fun hn => by have := hfu (by omega); omega⟩
  have hon : ∀ {f k : Nat} {t : Dk}, opE nm tm b k t = 0 → runK nm tm b (f + 1) k t = runK nm tm b f (k + 1) (opS nm tm b k t) := fun h => if_pos h
  rcases create_mid (f0 := s.fuse) (fun h => h) hG hne hal hso hg2 hnt hfew with h1 | ⟨h1, m1⟩
  · exact .inr (hoff (k := 0) (hup hG) h1 (fun h => h))
  · rw [show runK nm tm b 5 0 s = runK nm tm b 4 1 (createS tm s) from hon (k := 0) h1]
    rcases append_mid (b := b) m1 hg2 hroom (short_one hb) with h2 | ⟨h2, m2⟩
    · exact .inr (hoff (k := 1) (hup m1.gd) h2 m1.fu)
    · rw [show runK nm tm b 4 1 (createS tm s) = runK nm tm b 3 2 (appendS tm b (createS tm s)) from hon (k := 1) h2]
      rcases sync_mid m2 hg2 (short_done hb) with h3 | ⟨h3, m3⟩
      · exact .inr (hoff (k := 2) (hup m2.gd) h3 m2.fu)
      · rw [show runK nm tm b 3 2 (appendS tm b (createS tm s)) = runK nm tm b 2 3 (syncS tm (appendS tm b (createS tm s))) from hon (k := 2) h3]
        have m3' : Mdd nm tm A must s.files.length ⟨b, []⟩ s.quota (s.used + b.length) s.fuse (syncS tm (appendS tm b (createS tm s))) := m3
        rcases rename_mid m3' hne hg1 hg2 with h4 | ⟨h4, m4⟩
        · exact .inr (hoff (k := 3) (hup m3.gd) h4 m3.fu)
        · rw [show runK nm tm b 2 3 (syncS tm (appendS tm b (createS tm s))) = runK nm tm b 1 4 (renameS tm nm (syncS tm (appendS tm b (createS tm s)))) from hon (k := 3) h4]
          rcases syncDir_ren m4 with h5 | ⟨h5, m5⟩
          · exact .inr (hoff (k := 4) m4.gd h5 m4.fu)
          · rw [show runK nm tm b 1 4 (renameS tm nm (syncS tm (appendS tm b (createS tm s)))) = runK nm tm b 0 5 (syncDirS (renameS tm nm (syncS tm (appendS tm b (createS tm s))))) from hon (k := 4) h5]
            exact .inl ⟨rfl, m5⟩
theorem repl_gd (hG : Gd nm tm A must s) (hI : s.Inv N) (hne : nm ≠ tm) (hal : s.dead = false) (hg1 : goodN nm = true) (hg2 : goodN tm = true) (hfew : s.seen.length < 65536) (hroom : s.used + b.length ≤ s.quota) (hb : b.length ≤ 1048576) :
    ((replT nm tm b s).1 = 0 ∧ Gd nm tm (fun z => z = b) True (replT nm tm b s).2) ∨ ((replT nm tm b s).1 = 34 ∧ Gd nm tm (fun z => A z ∨ z = b) must (replT nm tm b s).2 ∧ 0 ≤ s.fuse) := by
  have hup : ∀ {t : Dk}, Gd nm tm A must t → Gd nm tm (fun z => A z ∨ z = b) must t := fun h => ⟨h.two, fun k hk p hp hn => let ⟨a1, a2, a3⟩ := h.old k hk p hp hn; ⟨a1, a2, .inl a3⟩, h.must, h.sm⟩
  unfold replT
  rw [if_neg (by rw [atE_one hal hg1]; split <;> simp)]
  by_cases h0 : getL tm s.seen = none
  · have h31 : atE tm s = 31 := by rw [atE_one hal hg2, if_pos h0]
    rw [h31, if_neg (by decide), if_pos rfl]
    exact run5_gd hG hne hal hI.sorted hg1 hg2 h0 hfew hroom hb
  · have h00 : atE tm s = 0 := by rw [atE_one hal hg2, if_neg h0]
    rw [if_pos h00]
    have hrE : removeE tm s = spendE s := by unfold removeE; rw [h00, if_neg (by decide)]
    by_cases hf : s.fuse = 0
    · have e34 : removeE tm s = 34 := hrE.trans (spend_off hf)
      have eS : removeS tm s = spendS s := by unfold removeS; rw [h00, if_neg (by decide), if_pos hf]
      rw [if_neg (by rw [e34]; decide)]
      right
      rw [e34, eS]
      exact ⟨rfl, (hup hG).spend, by omega⟩
    · rw [if_pos (hrE.trans (spend_on hf).2)]
      obtain ⟨g0, g1, g2, g3, g4⟩ := spend_fields s
      obtain ⟨s1, hs1⟩ : ∃ s1, removeS tm s = s1 := ⟨_, rfl⟩
      have eS : removeS tm s = { spendS s with dchs := s.dchs ++ [.inr (.inr tm)], used := s.used - lenOf s tm } := by unfold removeS; rw [h00, if_neg (by decide), if_neg hf]
      have e0 : s1.files = s.files := by rw [← hs1, eS]; exact g0
      have e1 : s1.safe = s.safe := by rw [← hs1, eS]; exact g1
      have e2 : s1.dchs = s.dchs ++ [.inr (.inr tm)] := by rw [← hs1, eS]
      have e3 : s1.quota = s.quota := by rw [← hs1, eS]; exact g3
      have e4 : s1.used = s.used - lenOf s tm := by rw [← hs1, eS]
      have e5 : s1.dead = false := by rw [← hs1, eS]; exact (spend_on hf).1.trans hal
      rw [hs1]
      have hsn : s1.seen = delL tm s.seen := seen_dir e1 e2
      have hlen := lenOf_pos s tm
      have e6 : s1.fuse = (spendS s).fuse := by rw [← hs1, eS]
      have e7 : 0 ≤ s1.fuse → 0 ≤ s.fuse := fun h => Classical.byContradiction fun hn => by have := spend_neg (s := s) (by omega); omega
      refine (run5_gd (hG.dir e1 e2 (by rw [e0]; exact Nat.le_refl _) (fun k _ => fl_same e0 k) (fun _ h => h) (fun p hp => ?_) (fun hm => ?_) (by rw [e0]; exact hG.sm)) hne e5 (by rw [hsn]; exact hI.sorted.del _) hg1 hg2 (by rw [hsn, get_del hI.sorted, if_pos rfl]) (by rw [hsn]; have := del_len tm s.seen; omega) (by rw [e3, e4]; omega) hb).imp id (fun ⟨a1, a2, a3⟩ => ⟨a1, a2, e7 a3⟩)
      · have h1 := (mem_del.1 hp).1
        rw [seen_at] at h1
        refine ⟨hG.two _ (Nat.le_refl _) p h1, fun hn => ?_⟩
        rw [fl_same e0, e0]
        exact hG.old _ (Nat.le_refl _) p h1 hn
      · obtain ⟨p, hp, hn⟩ := hG.must hm _ (Nat.le_refl _)
        exact ⟨p, mem_del.2 ⟨by rw [seen_at]; exact hp, fun e => hne (hn.symm.trans e)⟩, hn⟩
theorem ldL_has : ∀ {fs : List FE} {n : Nat} {p : KE}, p ∈ ldL fs n → ∃ (i : Nat) (q : FE), fs[i]? = some q ∧ p.1 = q.1 ∧ p.2 = n + i
  | [], n, p, h => by cases h
  | q :: r, n, p, h => by
    rcases List.mem_cons.1 h with rfl | h
    · exact ⟨0, q, rfl, rfl, rfl⟩
    · obtain ⟨i, q', h1, h2, h3⟩ := ldL_has h
      exact ⟨i + 1, q', h1, h2, by rw [h3]; exact (Nat.add_assoc n 1 i).trans (by rw [Nat.add_comm 1 i])⟩
theorem ldL_in : ∀ {fs : List FE} {n : Nat} {q : FE}, q ∈ fs → ∃ p ∈ ldL fs n, p.1 = q.1
  | q' :: r, n, q, h => by
    rcases List.mem_cons.1 h with rfl | h
    · exact ⟨_, List.mem_cons_self, rfl⟩
    · obtain ⟨p, h1, h2⟩ := ldL_in (n := n + 1) h
      exact ⟨p, List.mem_cons_of_mem _ h1, h2⟩
/-- A disk made of such an image. -/
theorem ld_gd {q : Int} {fs : List FE} (ha : Asc fs) (h2 : ∀ p ∈ fs, (p.1 = nm ∨ p.1 = tm) ∧ (p.1 = nm → A p.2)) (hm : must → ∃ p ∈ fs, p.1 = nm) (hs : ∀ p ∈ fs, p.2.length ≤ 1048576) : Gd nm tm A must (ldS q fs) := by
  obtain ⟨g1, g2, g3, _⟩ := ld_facts q fs ha
  have hd : ∀ k, dirAt (ldS q fs) k = ldL fs 0 := fun k => by unfold dirAt; rw [g1, g3]; simp
  refine ⟨fun k _ p hp => ?_, fun k _ p hp hn => ?_, fun h k _ => ?_, fun z hz => ?_⟩
  · rw [hd] at hp
    obtain ⟨i, y, e1, e2, _⟩ := ldL_has hp
    rw [e2]
    exact (h2 y (List.mem_of_getElem? e1)).1
  · rw [hd] at hp
    obtain ⟨i, y, e1, e2, e3⟩ := ldL_has hp
    have e3' : p.2 = i := by rw [e3]; exact Nat.zero_add i
    have hf : (ldS q fs).fl p.2 = ⟨y.2, []⟩ := by
      unfold Dk.fl
      rw [e3', g2, List.getD_eq_getElem?_getD, List.getElem?_map, e1]
      rfl
    rw [hf, g2, List.length_map, e3']
    exact ⟨(List.getElem?_eq_some_iff.1 e1).1, rfl, (h2 y (List.mem_of_getElem? e1)).2 (e2 ▸ hn)⟩
  · rw [hd]
    obtain ⟨y, h1, h3⟩ := hm h
    obtain ⟨p, h4, h5⟩ := ldL_in (n := 0) h1
    exact ⟨p, h4, h5.trans h3⟩
  · rw [g2] at hz
    obtain ⟨y, hy, rfl⟩ := List.mem_map.1 hz
    intro i
    simpa using hs y hy
/-- Two names at most: two files at most. -/
theorem asc_two {fs : List FE} (ha : Asc fs) (h2 : ∀ p ∈ fs, p.1 = nm ∨ p.1 = tm) : fs.length ≤ 2 := by
  match fs, ha, h2 with
  | [], _, _ => simp
  | [_], _, _ => simp
  | [_, _], _, _ => simp
  | a :: b :: c :: r, ha, h2 =>
    exfalso
    have hab : kc a.1 b.1 = -1 := (List.pairwise_cons.1 ha).1 b (by simp)
    have hac : kc a.1 c.1 = -1 := (List.pairwise_cons.1 ha).1 c (by simp)
    have hbc : kc b.1 c.1 = -1 := (List.pairwise_cons.1 (List.pairwise_cons.1 ha).2).1 c (by simp)
    have k1 := kc_self a.1
    have k2 := kc_self b.1
    rcases h2 a (by simp) with e1 | e1 <;> rcases h2 b (by simp) with e2 | e2 <;> rcases h2 c (by simp) with e3 | e3 <;> simp_all
/-- What a crash leaves can be loaded. -/
theorem Gd.ldok (h : Gd nm tm A must s) (hI : s.Inv N) (hg1 : goodN nm = true) (hg2 : goodN tm = true) (ps : List Int) : LdOk 1073741824 (crashL s ps) := by
  obtain ⟨c1, c2, c3⟩ := h.crash ps
  have ha : Asc (crashL s ps) := by
    obtain ⟨e, hle⟩ := left_at s ps
    generalize modn (pickV ps) (s.dchs.length + 1) = k at e hle
    have hsd : Sorted (dirAt s k) := Sorted.fold hI.ok.sorted
    unfold Asc crashL
    rw [e, List.pairwise_iff_getElem]
    intro i j hi' hj' hij
    have hil : i < (dirAt s k).length := by rwa [tornAll_len] at hi'
    have hjl : j < (dirAt s k).length := by rwa [tornAll_len] at hj'
    obtain ⟨b, g1, _⟩ := tornAll_was s (dirAt s k) ps.tail i _ (List.getElem?_eq_getElem hil)
    obtain ⟨c, g2, _⟩ := tornAll_was s (dirAt s k) ps.tail j _ (List.getElem?_eq_getElem hjl)
    rw [List.getElem?_eq_getElem hi'] at g1
    rw [List.getElem?_eq_getElem hj'] at g2
    injection g1 with g1
    injection g2 with g2
    rw [g1, g2]
    exact List.pairwise_iff_getElem.1 hsd i j hil hjl hij
  have h2 := asc_two ha fun p hp => (c1 p hp).1
  refine ⟨by omega, ha, fun p hp => ?_, by omega, ?_⟩
  · rcases (c1 p hp).1 with e | e
    · rw [e]; exact hg1
    · rw [e]; exact hg2
  · have : ∀ (l : List FE), (∀ p ∈ l, p.2.length ≤ 1048576) → sumL l ≤ l.length * 1048576 := fun l => by
      induction l with
      | nil => intro _; simp [sumL]
      | cons x r ih =>
        intro hh
        have h1 := ih fun p hp => hh p (List.mem_cons_of_mem _ hp)
        have h3 := hh x List.mem_cons_self
        simp only [sumL, List.map_cons, List.sum_cons, List.length_cons] at h1 ⊢
        omega
    have := this _ c3
    omega
end
end Go.Proofs.Ytebeefkibbbkdaa
/- ManifestFull: what becomes of the disk: plain laws. -/
namespace Go.Proofs.Ytebeefkibbbkdaa
open Go.RowKit Go.Maps

def t1N : ByteArray := ⟨#[116, 49, 46, 109, 97, 110]⟩
def t1T : ByteArray := ⟨#[116, 49, 46, 109, 97, 110, 46, 116, 109, 112]⟩
section
variable (q u : Int) (old next : List UInt8)
def F0 : Dk := ⟨[⟨old, []⟩], [(t1N, 0)], [], q, u, -1, false, 0⟩
def F1 : Dk := ⟨[⟨old, []⟩, Fl.new], [(t1N, 0)], [.inl (t1T, 1)], q, u, -1, false, 1⟩
def F2 : Dk := ⟨[⟨old, []⟩, ⟨[], [.inl next]⟩], [(t1N, 0)], [.inl (t1T, 1)], q, u + next.length, -1, false, 2⟩
def F3 : Dk := ⟨[⟨old, []⟩, ⟨next, []⟩], [(t1N, 0)], [.inl (t1T, 1)], q, u + next.length, -1, false, 3⟩
def F4 : Dk := ⟨[⟨old, []⟩, ⟨next, []⟩], [(t1N, 0)], [.inl (t1T, 1), .inr (.inl (t1T, t1N))], q, u + next.length - old.length, -1, false, 4⟩
def F5 : Dk := ⟨[⟨old, []⟩, ⟨next, []⟩], [(t1N, 1)], [], q, u + next.length - old.length, -1, false, 5⟩
def F6 : Dk := ⟨[⟨old, []⟩, Fl.new], [(t1N, 0)], [.inl (t1T, 1), .inr (.inr t1T)], q, u - 0, -1, false, 2⟩
theorem f_at0 : atE t1N (F0 q u old) = 0 ∧ atE t1T (F0 q u old) = 31 := ⟨by rfl, by rfl⟩
theorem f_1 : createE t1T (F0 q u old) = 0 ∧ createS t1T (F0 q u old) = F1 q u old := ⟨by rfl, by rfl⟩
theorem f_at1 : ¬ atE t1T (F1 q u old) ≠ 0 := by rw [show atE t1T (F1 q u old) = 0 from rfl]; decide
theorem f_2 (h : ¬ (0 < next.length ∧ q - u < next.length)) : appendE t1T next (F1 q u old) = 0 ∧ appendS t1T next (F1 q u old) = F2 q u old next := by
  have h' : ¬ (0 < next.length ∧ (F1 q u old).quota - (F1 q u old).used < next.length) := h
  unfold appendE appendS
  rw [if_neg (f_at1 q u old), if_neg (f_at1 q u old), if_neg h', if_neg h']
  exact ⟨by rfl, by rfl⟩
theorem f_2' (h : 0 < next.length ∧ q - u < next.length) : appendE t1T next (F1 q u old) = 33 ∧ appendS t1T next (F1 q u old) = F1 q u old := by
  have h' : 0 < next.length ∧ (F1 q u old).quota - (F1 q u old).used < next.length := h
  unfold appendE appendS
  rw [if_neg (f_at1 q u old), if_neg (f_at1 q u old), if_pos h', if_pos h']
  exact ⟨rfl, rfl⟩
theorem f_3 : syncE t1T (F2 q u old next) = 0 ∧ syncS t1T (F2 q u old next) = F3 q u old next := ⟨by rfl, by rfl⟩
theorem f_4 : renameE t1T t1N (F3 q u old next) = 0 ∧ renameS t1T t1N (F3 q u old next) = F4 q u old next := ⟨by rfl, by rfl⟩
theorem f_5 : syncDirE (F4 q u old next) = 0 ∧ syncDirS (F4 q u old next) = F5 q u old next := ⟨by rfl, by rfl⟩
theorem f_6 : removeS t1T (F1 q u old) = F6 q u old := by rfl
theorem f_img5 : imageL (F5 q u old next) = [(t1N, next)] := by rfl
theorem f_img6 : imageL (F6 q u old) = [(t1N, old)] := by rfl
theorem full_yes (h : ¬ (0 < next.length ∧ q - u < next.length)) : replT t1N t1T next (F0 q u old) = (0, F5 q u old next) := by
  unfold replT
  rw [(f_at0 q u old).1, (f_at0 q u old).2]
  simp only [ne_eq, not_true_eq_false, false_and, if_false]
  rw [if_neg (by decide), if_pos trivial]
  unfold runK
  rw [if_pos (show opE t1N t1T next 0 (F0 q u old) = 0 from (f_1 q u old).1), show opS t1N t1T next 0 (F0 q u old) = F1 q u old from (f_1 q u old).2]
  unfold runK
  rw [if_pos (show opE t1N t1T next (0 + 1) (F1 q u old) = 0 from (f_2 q u old next h).1), show opS t1N t1T next (0 + 1) (F1 q u old) = F2 q u old next from (f_2 q u old next h).2]
  unfold runK
  rw [if_pos (show opE t1N t1T next (0 + 1 + 1) (F2 q u old next) = 0 from (f_3 q u old next).1), show opS t1N t1T next (0 + 1 + 1) (F2 q u old next) = F3 q u old next from (f_3 q u old next).2]
  unfold runK
  rw [if_pos (show opE t1N t1T next (0 + 1 + 1 + 1) (F3 q u old next) = 0 from (f_4 q u old next).1), show opS t1N t1T next (0 + 1 + 1 + 1) (F3 q u old next) = F4 q u old next from (f_4 q u old next).2]
  unfold runK
  rw [if_pos (show opE t1N t1T next (0 + 1 + 1 + 1 + 1) (F4 q u old next) = 0 from (f_5 q u old next).1), show opS t1N t1T next (0 + 1 + 1 + 1 + 1) (F4 q u old next) = F5 q u old next from (f_5 q u old next).2]
  rfl
theorem full_no (h : 0 < next.length ∧ q - u < next.length) : replT t1N t1T next (F0 q u old) = (33, F6 q u old) := by
  unfold replT
  rw [(f_at0 q u old).1, (f_at0 q u old).2]
  simp only [ne_eq, not_true_eq_false, false_and, if_false]
  rw [if_neg (by decide), if_pos trivial]
  unfold runK
  rw [if_pos (show opE t1N t1T next 0 (F0 q u old) = 0 from (f_1 q u old).1), show opS t1N t1T next 0 (F0 q u old) = F1 q u old from (f_1 q u old).2]
  unfold runK
  have e : opE t1N t1T next (0 + 1) (F1 q u old) = 33 := (f_2' q u old next h).1
  rw [e, if_neg (by decide), if_pos (by decide), show opS t1N t1T next (0 + 1) (F1 q u old) = F1 q u old from (f_2' q u old next h).2, f_6]
theorem full_start (hu : u = old.length) : ldS q [(t1N, old)] = F0 q u old := by
  subst hu
  show ({ Dk.fresh q with files := (Dk.fresh q).files ++ [⟨old, []⟩], safe := putL t1N (Dk.fresh q).files.length (Dk.fresh q).safe, used := (Dk.fresh q).used + old.length } : Dk) = _
  simp only [Dk.fresh, F0, Int.zero_add]
  rfl
theorem full_ok (h : 0 ≤ q ∧ q ≤ 1073741824) (ho : old.length ≤ 1073741824) : LdOk q [(t1N, old)] :=
  ⟨h, List.pairwise_singleton _ _, fun p hp => by simp at hp; subst hp; exact (show goodN t1N = true by decide), by simp, by simpa [sumL] using ho⟩
end
end Go.Proofs.Ytebeefkibbbkdaa
/- chroniclelaw7's same, sameImage, file. -/
namespace Go.Proofs.Ytebeefkibbbkdaa
open Go.RowKit Go.Maps

set_option maxRecDepth 100000 in
set_option maxHeartbeats 4000000 in
/-- Two slices of bytes: are they alike? -/
theorem same7_any (A A' : Option Addr) (n c n' c' : Nat) (a b : List UInt8) (w : World) (hn : a.length = n) (hn' : b.length = n') (hA : Rd w w.heap.size A (bv a)) (hA' : Rd w w.heap.size A' (bv b)) (hmx : n ≤ 140737488351232) (hmx' : n' ≤ 140737488351232) :
    Calls Try.prog 12 #[.slice A n c, .slice A' n' c'] w fun e w' => e = .returned (.bool (decide (a = b))) ∧ ∃ k, w' = w.drewN k := by
  have Hn := Lib.hid (And.intro hn hn')
  have HA := Lib.hid (And.intro hA hA')
  clear hA hA'
  by_cases hnn : n = n'
  · subst hnn
    clear hn hn'
    go_enter Try.func12, Try.ntmps12
    go_wp2
    go_loopw [5] (fun i wr => ∃ (k m : Nat), k ≤ n ∧ i = .int .i64 k ∧ wr = w.drewN m ∧ a.take k = b.take k) (fun i _ => n - (intOf i).toNat)
    case atStart => exact ⟨0, 0, Nat.zero_le _, rfl, rfl, rfl⟩
    case round =>
      obtain ⟨k, m, hk, rfl, rfl, ht⟩ := hrel
      have Ht := Lib.hid ht
      clear ht
      by_cases hlt : k < n
      · have hk0 : (0 : Int) ≤ k := by omega
        have hk1 : (k : Int) < n := by omega
        have hka : k < a.length := by rw [Hn.out.1]; exact hlt
        have hkb : k < b.length := by rw [Hn.out.2]; exact hlt
        obtain ⟨ad, rfl, had, p0⟩ := HA.out.1 _ _ (bv_get hka)
        obtain ⟨ad', rfl, had', q0⟩ := HA.out.2 _ _ (bv_get hkb)
        have HTA := Lib.hid (List.take_succ_eq_append_getElem hka)
        have HTB := Lib.hid (List.take_succ_eq_append_getElem hkb)
        have HNE := Lib.hid (fun (h : a[k] ≠ b[k]) (e : a = b) => h (by subst e; rfl))
        generalize a[k] = x at p0 HTA HNE
        generalize b[k] = y at q0 HTB HNE
        clear hka hkb
        by_cases hxy : x = y
        · subst hxy
          go_wp2
          go_quiet (fail)
          go_wp2
          go_roundw
          case rel => exact ⟨k + 1, _, by omega, by go_num, by first | rfl | exact World.drewN_drewN .., by rw [HTA.out, HTB.out, Ht.out]⟩
          case measure => simp [intOf]; omega
        · have hne : ¬ (x.toNat : Int) = (y.toNat : Int) := fun e => hxy (UInt8.toNat_inj.1 (by omega))
          have HF := Lib.hid (HNE.out hxy)
          clear hxy
          go_wp2
          go_quiet (fail)
          go_wp2
          go_ret
          exact ⟨ret_bool (decide_eq_false HF.out).symm, _, by first | rfl | exact World.drewN_drewN ..⟩
      · go_wp2
        go_ret
        refine ⟨?_, m, rfl⟩
        have hk' : k = n := by omega
        have e : a = b := by
          have := Ht.out
          rwa [List.take_of_length_le (by rw [Hn.out.1]; omega), List.take_of_length_le (by rw [Hn.out.2]; omega)] at this
        exact ret_bool (decide_eq_true e).symm
  · have hne : ¬ (n : Int) = (n' : Int) := by omega
    have HF := Lib.hid (show ¬ a = b from fun e => hnn (by rw [← hn, ← hn', e]))
    clear hnn hn hn'
    go_enter Try.func12, Try.ntmps12
    go_wp2
    go_ret
    exact ⟨ret_bool (decide_eq_false HF.out).symm, 0, rfl⟩

theorem pair_ne7 {α β : Type} {l m : List (α × β)} {i : Nat} {p q : α × β} (hp : l[i]? = some p) (hq : m[i]? = some q) (h : ¬ p = q) : ¬ l = m := fun e => by
  subst e
  rw [hp] at hq
  injection hq with hq
  exact h hq
/-- The bytes of a name in an image. -/
def fileI (nm : ByteArray) (im : List (ByteArray × List UInt8)) : Option (List UInt8) := (im.find? fun p => decide (p.1 = nm)).map fun p => p.2
def FileR (w : World) (e : Ending) : Option (List UInt8) → Prop
  | some b => ∃ x c, e = .returned (.tuple #[.slice x b.length c, .bool true]) ∧ Rd w w.heap.size x (bv b)
  | none => e = .returned (.tuple #[.slice none 0 0, .bool false])
theorem fileI_take {nm : ByteArray} {im : List (ByteArray × List UInt8)} {k : Nat} {p : ByteArray × List UInt8} (hp : im[k]? = some p) (hpre : ∀ q ∈ im.take k, q.1 ≠ nm) (h : p.1 = nm) : fileI nm im = some p.2 := by
  have hk : k < im.length := (List.getElem?_eq_some_iff.1 hp).1
  have e : im = im.take k ++ p :: im.drop (k + 1) := by
    have h1 := List.take_append_drop k im
    rw [List.drop_eq_getElem_cons hk] at h1
    have h2 : im[k] = p := by rw [List.getElem?_eq_getElem hk] at hp; injection hp
    rw [h2] at h1
    exact h1.symm
  unfold fileI
  rw [e, List.find?_append]
  have hn : (im.take k).find? (fun p => decide (p.1 = nm)) = none := List.find?_eq_none.2 fun q hq => by simpa using hpre q hq
  rw [hn]
  simp [h]
theorem fileI_none {nm : ByteArray} {im : List (ByteArray × List UInt8)} (hpre : ∀ q ∈ im, q.1 ≠ nm) : fileI nm im = none := by
  unfold fileI
  have hn : im.find? (fun p => decide (p.1 = nm)) = none := List.find?_eq_none.2 fun q hq => by simpa using hpre q hq
  rw [hn]
  rfl
set_option maxRecDepth 100000 in
set_option maxHeartbeats 4000000 in
theorem file_any (A : Option Addr) (n c : Nat) (nm : ByteArray) (im : List (ByteArray × List UInt8)) (w : World) (hn : im.length = n) (hI : IM w w.heap.size A im) (hmx : n ≤ 999999999999) :
    Calls Try.prog 11 #[.slice A n c, .string nm] w fun e w' => FileR w e (fileI nm im) ∧ w' = w := by
  have H := Lib.hid (And.intro hn hI)
  clear hn hI
  go_enter Try.func11, Try.ntmps11
  go_wp2
  go_loopw [6] (fun v6 wr => ∃ k : Nat, k ≤ n ∧ v6 = .int .i64 k ∧ wr = w ∧ ∀ q ∈ im.take k, q.1 ≠ nm) (fun v6 _ => n - (intOf v6).toNat)
  case atStart => exact ⟨0, Nat.zero_le _, rfl, rfl, fun q hq => by simp at hq⟩
  case round =>
    obtain ⟨k, hk, rfl, hwr, hpre⟩ := hrel
    subst hwr
    by_cases hlt : k < n
    · have hk0 : (0 : Int) ≤ k := by omega
      have hk1 : (k : Int) < n := by omega
      obtain ⟨p, hp⟩ : ∃ p, im[k]? = some p := ⟨_, List.getElem?_eq_getElem (by rw [H.out.1]; exact hlt)⟩
      obtain ⟨a2, x, cx, rfl, _, d0, d1, hR⟩ := H.out.2 k p hp
      have HP := Lib.hid (And.intro hp (And.intro hpre hR))
      clear hp hpre hR
      by_cases hx : p.1 = nm
      · have HX := Lib.hid hx
        have hself : (p.1.toList == nm.toList) = true := by rw [hx]; simp
        clear hx
        go_wp2
        go_ret2
        rw [fileI_take HP.out.1 HP.out.2.1 HX.out]
        exact ⟨⟨_, _, rfl, HP.out.2.2⟩, rfl⟩
      · have hne := key_ne hx
        have HX := Lib.hid hx
        clear hx
        go_wp2
        go_roundw
        case rel =>
          refine ⟨k + 1, by omega, by go_num, trivial, fun q hq => ?_⟩
          rw [List.take_add_one, HP.out.1] at hq
          rcases List.mem_append.1 hq with h | h
          · exact HP.out.2.1 q h
          · simp at h
            subst h
            exact HX.out
        case measure => simp [intOf]; omega
    · have hkm : n = k := by omega
      subst hkm
      have HP := Lib.hid (show ∀ q ∈ im, q.1 ≠ nm by rw [← H.out.1, List.take_length] at hpre; exact hpre)
      clear hpre
      go_wp2
      go_ret2
      rw [fileI_none HP.out]
      exact ⟨rfl, rfl⟩
end Go.Proofs.Ytebeefkibbbkdaa
