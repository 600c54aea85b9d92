import Derived.Test.YtnecafhakkjbpaaPt2
import Derived.Test.YtnecafhakkjbpaaRp1
/- Replace on a disk that has one name and the one beside it: what a crash may leave: plain laws. -/
namespace Go.Proofs.Ytnecafhakkjbpaa
open Go.RowKit Go.Maps

/-- The directory knows two names at most; the first leads to bytes of A, all durable. -/
structure Gd (nm tm : ByteArray) (A : List UInt8 → Prop) (must : Prop) (s : Dk) : Prop where
  two : ∀ k, k ≤ s.dchs.length → ∀ p ∈ dirAt s k, p.1 = nm ∨ p.1 = tm
  old : ∀ k, k ≤ s.dchs.length → ∀ p ∈ dirAt s k, p.1 = nm → p.2 < s.files.length ∧ (s.fl p.2).chs = [] ∧ A (s.fl p.2).safe
  must : must → ∀ k, k ≤ s.dchs.length → ∃ p ∈ dirAt s k, p.1 = nm
  sm : ∀ z ∈ s.files, Short z 1048576
section
variable {nm tm : ByteArray} {A A' : List UInt8 → Prop} {must : Prop} {s s' : Dk} {c : DC} {x N : Nat} {y : Fl} {b : List UInt8}
theorem dirAt_same (h1 : s'.safe = s.safe) (h2 : s'.dchs = s.dchs) (k : Nat) : dirAt s' k = dirAt s k := by unfold dirAt; rw [h1, h2]
theorem fl_same (h : s'.files = s.files) (k : Nat) : s'.fl k = s.fl k := by unfold Dk.fl; rw [h]
theorem seen_at (s : Dk) : s.seen = dirAt s s.dchs.length := (dirAt_last s).symm
theorem Gd.same (h : Gd nm tm A must s) (h0 : s'.files = s.files) (h1 : s'.safe = s.safe) (h2 : s'.dchs = s.dchs) : Gd nm tm A must s' := by
  refine ⟨fun k hk => ?_, fun k hk p hp hn => ?_, fun hm k hk => ?_, by rw [h0]; exact h.sm⟩
  · rw [dirAt_same h1 h2]; exact h.two k (by rw [← h2]; exact hk)
  · rw [dirAt_same h1 h2] at hp
    rw [fl_same h0, h0]
    exact h.old k (by rw [← h2]; exact hk) p hp hn
  · rw [dirAt_same h1 h2]; exact h.must hm k (by rw [← h2]; exact hk)
theorem Gd.dir (h : Gd nm tm A must s) (h1 : s'.safe = s.safe) (h2 : s'.dchs = s.dchs ++ [c]) (hlen : s.files.length ≤ s'.files.length) (hfl : ∀ k, k < s.files.length → s'.fl k = s.fl k) (hA : ∀ z, A z → A' z)
    (hnew : ∀ p ∈ ddo s.seen c, (p.1 = nm ∨ p.1 = tm) ∧ (p.1 = nm → p.2 < s'.files.length ∧ (s'.fl p.2).chs = [] ∧ A' (s'.fl p.2).safe)) (hmust : must → ∃ p ∈ ddo s.seen c, p.1 = nm) (hsm : ∀ z ∈ s'.files, Short z 1048576) : Gd nm tm A' must s' := by
  have hl : s'.dchs.length = s.dchs.length + 1 := by rw [h2, List.length_append]; rfl
  refine ⟨fun k hk p hp => ?_, fun k hk p hp hn => ?_, fun hm k hk => ?_, hsm⟩
  · rcases Nat.lt_or_ge s.dchs.length k with hlt | hge
    · obtain rfl : k = s.dchs.length + 1 := by omega
      rw [dirAt_new h1 h2] at hp
      exact (hnew p hp).1
    · rw [dirAt_old h1 h2 hge] at hp
      exact h.two k hge p hp
  · rcases Nat.lt_or_ge s.dchs.length k with hlt | hge
    · obtain rfl : k = s.dchs.length + 1 := by omega
      rw [dirAt_new h1 h2] at hp
      exact (hnew p hp).2 hn
    · rw [dirAt_old h1 h2 hge] at hp
      obtain ⟨g1, g2, g3⟩ := h.old k hge p hp hn
      rw [hfl _ g1]
      exact ⟨Nat.lt_of_lt_of_le g1 hlen, g2, hA _ g3⟩
  · rcases Nat.lt_or_ge s.dchs.length k with hlt | hge
    · obtain rfl : k = s.dchs.length + 1 := by omega
      rw [dirAt_new h1 h2]
      exact hmust hm
    · rw [dirAt_old h1 h2 hge]
      exact h.must hm k hge
theorem Gd.file (h : Gd nm tm A must s) (h1 : s'.safe = s.safe) (h2 : s'.dchs = s.dchs) (hf : s'.files = s.files.set x y) (hx : ∀ k, k ≤ s.dchs.length → ∀ p ∈ dirAt s k, p.1 = nm → p.2 ≠ x) (hy : Short y 1048576) : Gd nm tm A must s' := by
  refine ⟨fun k hk => ?_, fun k hk p hp hn => ?_, fun hm k hk => ?_, fun z hz => by
    rw [hf] at hz
    rcases List.mem_or_eq_of_mem_set hz with h3 | rfl
    · exact h.sm z h3
    · exact hy⟩
  · rw [dirAt_same h1 h2]; exact h.two k (by rw [← h2]; exact hk)
  · rw [dirAt_same h1 h2] at hp
    have hk' : k ≤ s.dchs.length := by rw [← h2]; exact hk
    have hne := hx k hk' p hp hn
    have e : s'.fl p.2 = s.fl p.2 := by
      unfold Dk.fl
      rw [hf, List.getD_eq_getElem?_getD, List.getD_eq_getElem?_getD, List.getElem?_set_ne (fun e => hne e.symm)]
    rw [e, hf, List.length_set]
    exact h.old k hk' p hp hn
  · rw [dirAt_same h1 h2]; exact h.must hm k (by rw [← h2]; exact hk)
theorem clean_was {x : Fl} (hc : x.chs = []) (h : Was (vers x) (grow x) b) : b = x.safe := by
  obtain ⟨j, z, hz, hr⟩ := h
  have hv : vers x = [x.safe] := by unfold vers; rw [hc]; rfl
  rw [hv] at hz hr
  cases j with
  | zero =>
    simp at hz
    subst hz
    rcases hr with rfl | ⟨y, g, hy, _⟩
    · rfl
    · simp at hy
  | succ j => simp at hz
theorem Gd.short (h : Gd nm tm A must s) (k : Nat) : Short (s.fl k) 1048576 := by
  by_cases hk : k < s.files.length
  · exact h.sm _ (fl_mem hk)
  · have e : s.fl k = Fl.new := by unfold Dk.fl; rw [List.getD_eq_getElem?_getD, List.getElem?_eq_none (by omega)]; rfl
    rw [e]
    intro i
    simp [Fl.new]
/-- What a crash leaves. -/
theorem Gd.crash (h : Gd nm tm A must s) (ps : List Int) : (∀ q ∈ crashL s ps, (q.1 = nm ∨ q.1 = tm) ∧ (q.1 = nm → A q.2)) ∧ (must → ∃ q ∈ crashL s ps, q.1 = nm) ∧ ∀ q ∈ crashL s ps, q.2.length ≤ 1048576 := by
  obtain ⟨e, hle⟩ := left_at s ps
  generalize modn (pickV ps) (s.dchs.length + 1) = k at e hle
  unfold crashL
  rw [e]
  refine ⟨fun q hq => ?_, fun hm => ?_, tornAll_small (fun k => h.short k) _ _⟩
  · obtain ⟨i, hi, rfl⟩ := List.getElem_of_mem hq
    have hil : i < (dirAt s k).length := by rwa [tornAll_len] at hi
    obtain ⟨b, g1, g2⟩ := tornAll_was s (dirAt s k) ps.tail i _ (List.getElem?_eq_getElem hil)
    rw [List.getElem?_eq_getElem hi] at g1
    injection g1 with g1
    rw [g1]
    have hm := List.getElem_mem hil
    refine ⟨h.two k hle _ hm, fun hn => ?_⟩
    obtain ⟨_, h2, h3⟩ := h.old k hle _ hm hn
    rw [clean_was h2 g2]
    exact h3
  · obtain ⟨p, hp, hn⟩ := h.must hm k hle
    obtain ⟨i, hil, rfl⟩ := List.getElem_of_mem hp
    obtain ⟨b, g1, _⟩ := tornAll_was s (dirAt s k) ps.tail i _ (List.getElem?_eq_getElem hil)
    exact ⟨_, List.mem_of_getElem? g1, hn⟩
theorem spend_on (h : s.fuse ≠ 0) : (spendS s).dead = s.dead ∧ spendE s = 0 := by
  unfold spendS spendE
  rw [if_neg h, if_neg h]
  exact ⟨rfl, rfl⟩
theorem spend_off (h : s.fuse = 0) : spendE s = 34 := if_pos h
theorem Gd.spend (h : Gd nm tm A must s) : Gd nm tm A must (spendS s) := let ⟨h0, h1, h2, _⟩ := spend_fields s; h.same h0 h1 h2
theorem atE_one (ha : s.dead = false) (hg : goodN tm = true) : atE tm s = if getL tm s.seen = none then 31 else 0 := by
  unfold atE
  rw [ha, hg]
  simp
theorem spend_neg (h : s.fuse < 0) : (spendS s).fuse < 0 := by
  unfold spendS
  rw [if_neg (by omega)]
  show (if s.fuse > 0 then s.fuse - 1 else s.fuse) < 0
  rw [if_neg (by omega)]
  exact h
/-- In the midst of a replacement. -/
structure Mdd (nm tm : ByteArray) (A : List UInt8 → Prop) (must : Prop) (x : Nat) (y : Fl) (q u f0 : Int) (s : Dk) : Prop where
  gd : Gd nm tm A must s
  fu : f0 < 0 → s.fuse < 0
  al : s.dead = false
  so : Sorted s.seen
  tg : getL tm s.seen = some x
  fr : ∀ k, k ≤ s.dchs.length → ∀ p ∈ dirAt s k, p.1 = nm → p.2 ≠ x
  xl : x < s.files.length
  fx : s.fl x = y
  q : s.quota = q
  u : s.used = u
theorem seen_fields (h1 : s'.safe = s.safe) (h2 : s'.dchs = s.dchs) : s'.seen = s.seen := by rw [seen_at, seen_at, dirAt_same h1 h2, h2]
theorem seen_dir (h1 : s'.safe = s.safe) (h2 : s'.dchs = s.dchs ++ [c]) : s'.seen = ddo s.seen c := by
  rw [seen_at, show s'.dchs.length = s.dchs.length + 1 by rw [h2, List.length_append]; rfl, dirAt_new h1 h2]
/-- A step that is refused for want of power. -/
def Off (e : Int) (s s' : Dk) : Prop := e = 34 ∧ s' = spendS s ∧ s.fuse = 0
theorem create_mid {f0 : Int} (hfu : f0 < 0 → s.fuse < 0) (hG : Gd nm tm A must s) (hne : nm ≠ tm) (hal : s.dead = false) (hso : Sorted s.seen) (hg2 : goodN tm = true) (hnt : getL tm s.seen = none) (hfew : s.seen.length < 65536) :
    Off (createE tm s) s (createS tm s) ∨ (createE tm s = 0 ∧ Mdd nm tm A must s.files.length Fl.new s.quota s.used f0 (createS tm s)) := by
  have h31 : atE tm s = 31 := by rw [atE_one hal hg2, if_pos hnt]
  unfold createE createS Off
  rw [h31, if_neg (by decide), if_neg (by decide), if_neg (by omega), if_neg (by decide), if_neg (by decide), if_neg (by omega)]
  by_cases hf : s.fuse = 0
  · left
    rw [if_pos hf]
    exact ⟨spend_off hf, rfl, hf⟩
  · right
    rw [if_neg hf]
    obtain ⟨g0, g1, g2, g3, g4⟩ := spend_fields s
    obtain ⟨g5, g6⟩ := spend_on hf
    obtain ⟨s1, hs1⟩ : ∃ s1 : Dk, { spendS s with files := s.files ++ [Fl.new], dchs := s.dchs ++ [.inl (tm, s.files.length)] } = s1 := ⟨_, rfl⟩
    have e0 : s1.files = s.files ++ [Fl.new] := by rw [← hs1]
    have e1 : s1.safe = s.safe := by rw [← hs1]; exact g1
    have e2 : s1.dchs = s.dchs ++ [.inl (tm, s.files.length)] := by rw [← hs1]
    have e3 : s1.quota = s.quota := by rw [← hs1]; exact g3
    have e4 : s1.used = s.used := by rw [← hs1]; exact g4
    have e5 : s1.dead = false := by rw [← hs1]; exact g5.trans hal
    rw [hs1]
    have hsn : s1.seen = putL tm s.files.length s.seen := seen_dir e1 e2
    have hfl : ∀ k, k < s.files.length → s1.fl k = s.fl k := fun k hk => by
      unfold Dk.fl
      rw [e0, List.getD_eq_getElem?_getD, List.getD_eq_getElem?_getD, List.getElem?_append_left hk]
    refine ⟨g6, hG.dir e1 e2 (by rw [e0, List.length_append]; omega) hfl (fun _ h => h) (fun p hp => ?_) (fun hm => ?_) (fun z hz => by
      rw [e0] at hz
      rcases List.mem_append.1 hz with h3 | h3
      · exact hG.sm z h3
      · simp at h3
        subst h3
        intro i
        simp [Fl.new]), fun h0 => by rw [← hs1]; exact spend_neg (hfu h0), e5, by rw [hsn]; exact hso.put _ _, by rw [hsn, get_put hso, if_pos rfl], fun k hk p hp hn => ?_, by rw [e0, List.length_append]; simp, ?_, e3, e4⟩
    · rcases mem_put.1 hp with rfl | ⟨h1, h2⟩
      · exact ⟨.inr rfl, fun h => absurd h.symm hne⟩
      · rw [seen_at] at h1
        refine ⟨hG.two _ (Nat.le_refl _) p h1, fun hn => ?_⟩
        obtain ⟨k1, k2, k3⟩ := hG.old _ (Nat.le_refl _) p h1 hn
        rw [hfl _ k1]
        exact ⟨by rw [e0, List.length_append]; exact Nat.lt_of_lt_of_le k1 (Nat.le_add_right _ _), k2, k3⟩
    · obtain ⟨p, hp, hn⟩ := hG.must hm _ (Nat.le_refl _)
      refine ⟨p, mem_put.2 (.inr ⟨by rw [seen_at]; exact hp, fun e => hne (hn.symm.trans e)⟩), hn⟩
    · rw [e2, List.length_append] at hk
      rcases Nat.lt_or_ge s.dchs.length k with hlt | hge
      · obtain rfl : k = s.dchs.length + 1 := by simp at hk; omega
        rw [dirAt_new e1 e2] at hp
        rcases mem_put.1 hp with rfl | ⟨h1, h2⟩
        · exact absurd hn.symm hne
        · rw [seen_at] at h1
          exact Nat.ne_of_lt (hG.old _ (Nat.le_refl _) p h1 hn).1
      · rw [dirAt_old e1 e2 hge] at hp
        exact Nat.ne_of_lt (hG.old k hge p hp hn).1
    · unfold Dk.fl
      rw [e0, List.getD_eq_getElem?_getD, List.getElem?_append_right (Nat.le_refl _), Nat.sub_self]
      rfl
/-- A step that turns the file beside. -/
theorem Mdd.turn {q u u' f0 : Int} {y' : Fl} (h : Mdd nm tm A must x y q u f0 s) (hfu : f0 < 0 → s'.fuse < 0) (e0 : s'.files = s.files.set x y') (e1 : s'.safe = s.safe) (e2 : s'.dchs = s.dchs) (e3 : s'.quota = s.quota) (e4 : s'.used = u') (e5 : s'.dead = false) (hy : Short y' 1048576) : Mdd nm tm A must x y' q u' f0 s' := by
  have hsn := seen_fields e1 e2
  refine ⟨h.gd.file e1 e2 e0 h.fr hy, hfu, e5, by rw [hsn]; exact h.so, by rw [hsn]; exact h.tg, fun k hk p hp hn => ?_, by rw [e0, List.length_set]; exact h.xl, ?_, e3.trans h.q, e4⟩
  · rw [dirAt_same e1 e2] at hp
    exact h.fr k (by rw [← e2]; exact hk) p hp hn
  · unfold Dk.fl
    rw [e0, List.getD_eq_getElem?_getD, List.getElem?_set_self h.xl]
    rfl
theorem append_mid {q u f0 : Int} (h : Mdd nm tm A must x y q u f0 s) (hg2 : goodN tm = true) (hroom : u + b.length ≤ q) (hy : Short ⟨y.safe, y.chs ++ [.inl b]⟩ 1048576) :
    Off (appendE tm b s) s (appendS tm b s) ∨ (appendE tm b s = 0 ∧ Mdd nm tm A must x ⟨y.safe, y.chs ++ [.inl b]⟩ q (u + b.length) f0 (appendS tm b s)) := by
  have h0 : atE tm s = 0 := by rw [atE_one h.al hg2, h.tg]; simp
  have hov : ¬ (0 < b.length ∧ s.quota - s.used < b.length) := fun ⟨_, hh⟩ => by rw [h.q, h.u] at hh; omega
  unfold appendE appendS Off
  rw [h0, if_neg (by decide), if_neg hov, if_neg (by decide), if_neg hov]
  by_cases hf : s.fuse = 0
  · left
    rw [if_pos hf]
    exact ⟨spend_off hf, rfl, hf⟩
  · right
    rw [if_neg hf]
    obtain ⟨g0, g1, g2, g3, g4⟩ := spend_fields s
    obtain ⟨g5, g6⟩ := spend_on hf
    refine ⟨g6, h.turn (s' := { (spendS s).addC (s.num tm) (.inl b) with used := s.used + b.length }) (y' := ⟨y.safe, y.chs ++ [.inl b]⟩) (fun h0 => spend_neg (h.fu h0)) ?_ g1 g2 g3 (by show s.used + (b.length : Int) = u + b.length; rw [h.u]) (g5.trans h.al) hy⟩
    show ((spendS s).addC (s.num tm) (.inl b)).files = _
    unfold Dk.addC Dk.setF
    rw [getL_num h.tg]
    show (spendS s).files.set x ⟨((spendS s).fl x).safe, ((spendS s).fl x).chs ++ [.inl b]⟩ = _
    rw [fl_same g0, h.fx, g0]
theorem sync_mid {q u f0 : Int} (h : Mdd nm tm A must x y q u f0 s) (hg2 : goodN tm = true) (hy : Short ⟨y.seen, []⟩ 1048576) :
    Off (syncE tm s) s (syncS tm s) ∨ (syncE tm s = 0 ∧ Mdd nm tm A must x ⟨y.seen, []⟩ q u f0 (syncS tm s)) := by
  have h0 : atE tm s = 0 := by rw [atE_one h.al hg2, h.tg]; simp
  unfold syncE syncS Off
  rw [h0, if_neg (by decide), if_neg (by decide)]
  by_cases hf : s.fuse = 0
  · left
    rw [if_pos hf]
    exact ⟨spend_off hf, rfl, hf⟩
  · right
    rw [if_neg hf]
    obtain ⟨g0, g1, g2, g3, g4⟩ := spend_fields s
    obtain ⟨g5, g6⟩ := spend_on hf
    refine ⟨g6, h.turn (y' := ⟨y.seen, []⟩) (fun h0 => spend_neg (h.fu h0)) ?_ g1 g2 g3 (by show (spendS s).used = _; rw [g4, h.u]) (g5.trans h.al) hy⟩
    show (spendS s).files.set (s.num tm) ⟨(s.fl (s.num tm)).seen, []⟩ = _
    rw [getL_num h.tg, h.fx, g0]
/-- Behind the renaming. -/
structure Ren (nm tm : ByteArray) (A : List UInt8 → Prop) (must : Prop) (b : List UInt8) (f0 : Int) (s : Dk) : Prop where
  fu : f0 < 0 → s.fuse < 0
  gd : Gd nm tm (fun z => A z ∨ z = b) must s
  al : s.dead = false
  one : ∃ x, (nm, x) ∈ s.seen ∧ (∀ p ∈ s.seen, p.1 = nm → p.2 = x) ∧ s.fl x = ⟨b, []⟩ ∧ x < s.files.length
theorem rename_mid {q u f0 : Int} (h : Mdd nm tm A must x ⟨b, []⟩ q u f0 s) (hne : nm ≠ tm) (hg1 : goodN nm = true) (hg2 : goodN tm = true) :
    Off (renameE tm nm s) s (renameS tm nm s) ∨ (renameE tm nm s = 0 ∧ Ren nm tm A must b f0 (renameS tm nm s)) := by
  have h0 : atE tm s = 0 := by rw [atE_one h.al hg2, h.tg]; simp
  unfold renameE renameS Off
  rw [h.al, if_neg (by decide), if_neg (by rw [hg1, hg2]; simp), if_neg (fun e => hne e.symm), h0, if_neg (by decide), if_neg (by decide), if_neg (by rw [hg1, hg2]; simp), if_neg (fun e => hne e.symm), if_neg (by decide)]
  by_cases hf : s.fuse = 0
  · left
    rw [if_pos hf]
    exact ⟨spend_off hf, rfl, hf⟩
  · right
    rw [if_neg hf]
    obtain ⟨g0, g1, g2, g3, g4⟩ := spend_fields s
    obtain ⟨g5, g6⟩ := spend_on hf
    obtain ⟨s1, hs1⟩ : ∃ s1 : Dk, { spendS s with dchs := s.dchs ++ [.inr (.inl (tm, nm))], used := s.used - lenOf s nm } = s1 := ⟨_, rfl⟩
    have e0 : s1.files = s.files := by rw [← hs1]; exact g0
    have e1 : s1.safe = s.safe := by rw [← hs1]; exact g1
    have e2 : s1.dchs = s.dchs ++ [.inr (.inl (tm, nm))] := by rw [← hs1]
    have e5 : s1.dead = false := by rw [← hs1]; exact g5.trans h.al
    rw [hs1]
    have hdd : ddo s.seen (.inr (.inl (tm, nm))) = delL tm (putL nm x s.seen) := by show delL tm (putL nm ((getL tm s.seen).getD 0) s.seen) = _; rw [h.tg]; rfl
    have hsn : s1.seen = delL tm (putL nm x s.seen) := (seen_dir e1 e2).trans hdd
    have hfl := fl_same e0
    have hin : (nm, x) ∈ delL tm (putL nm x s.seen) := mem_del.2 ⟨mem_put.2 (.inl rfl), hne⟩
    have hon : ∀ p ∈ delL tm (putL nm x s.seen), p.1 = nm → p.2 = x := fun p hp hn => by
      rcases mem_put.1 (mem_del.1 hp).1 with rfl | ⟨_, h2⟩
      · rfl
      · exact absurd hn h2
    refine ⟨g6, ⟨fun h0 => by rw [← hs1]; exact spend_neg (h.fu h0), h.gd.dir e1 e2 (by rw [e0]; exact Nat.le_refl _) (fun k _ => hfl k) (fun _ h => .inl h) (fun p hp => ?_) (fun _ => ⟨_, by rw [hdd]; exact hin, rfl⟩) (by rw [e0]; exact h.gd.sm), e5, x, by rw [hsn]; exact hin, by rw [hsn]; exact hon, by rw [hfl]; exact h.fx, by rw [e0]; exact h.xl⟩⟩
    rw [hdd] at hp
    refine ⟨?_, fun hn => ?_⟩
    · rcases mem_put.1 (mem_del.1 hp).1 with rfl | ⟨h1, _⟩
      · exact .inl rfl
      · rw [seen_at] at h1
        exact h.gd.two _ (Nat.le_refl _) p h1
    · rw [hon p hp hn, hfl, e0, h.fx]
      exact ⟨h.xl, rfl, .inr rfl⟩
theorem syncDir_ren {f0 : Int} (h : Ren nm tm A must b f0 s) :
    Off (syncDirE s) s (syncDirS s) ∨ (syncDirE s = 0 ∧ Gd nm tm (fun z => z = b) True (syncDirS s)) := by
  unfold syncDirE syncDirS Off
  rw [h.al, if_neg (by decide), if_neg (by decide)]
  by_cases hf : s.fuse = 0
  · left
    rw [if_pos hf]
    exact ⟨spend_off hf, rfl, hf⟩
  · right
    rw [if_neg hf]
    obtain ⟨g0, g1, g2, g3, g4⟩ := spend_fields s
    obtain ⟨x, h1, h2, h3, h4⟩ := h.one
    obtain ⟨s1, hs1⟩ : ∃ s1 : Dk, { spendS s with safe := s.seen, dchs := [] } = s1 := ⟨_, rfl⟩
    have e0 : s1.files = s.files := by rw [← hs1]; exact g0
    have e1 : s1.safe = s.seen := by rw [← hs1]
    have e2 : s1.dchs = [] := by rw [← hs1]
    rw [hs1]
    have hd : ∀ k, dirAt s1 k = s.seen := fun k => by unfold dirAt; rw [e1, e2]; simp
    refine ⟨(spend_on hf).2, fun k _ p hp => ?_, fun k _ p hp hn => ?_, fun _ k _ => ⟨_, by rw [hd]; exact h1, rfl⟩, by rw [e0]; exact h.gd.sm⟩
    · rw [hd, seen_at] at hp
      exact h.gd.two _ (Nat.le_refl _) p hp
    · rw [hd] at hp
      rw [h2 p hp hn, fl_same e0, e0, h3]
      exact ⟨h4, rfl, rfl⟩
theorem short_one (hb : b.length ≤ 1048576) : Short ⟨Fl.new.safe, Fl.new.chs ++ [.inl b]⟩ 1048576 := by
  intro i
  cases i with
  | zero => simp [Fl.new]
  | succ i => simpa [Fl.new, fdo] using hb
theorem short_done (hb : b.length ≤ 1048576) : Short ⟨(⟨Fl.new.safe, Fl.new.chs ++ [.inl b]⟩ : Fl).seen, []⟩ 1048576 := by
  intro i
  simpa [Fl.new, Fl.seen, fdo] using hb
/-- The five steps. -/
theorem run5_gd (hG : Gd nm tm A must s) (hne : nm ≠ tm) (hal : s.dead = false) (hso : Sorted s.seen) (hg1 : goodN nm = true) (hg2 : goodN tm = true) (hnt : getL tm s.seen = none) (hfew : s.seen.length < 65536) (hroom : s.used + b.length ≤ s.quota) (hb : b.length ≤ 1048576) :
    ((runK nm tm b 5 0 s).1 = 0 ∧ Gd nm tm (fun z => z = b) True (runK nm tm b 5 0 s).2) ∨ ((runK nm tm b 5 0 s).1 = 34 ∧ Gd nm tm (fun z => A z ∨ z = b) must (runK nm tm b 5 0 s).2 ∧ 0 ≤ s.fuse) := by
  have hup : ∀ {t : Dk}, Gd nm tm A must t → Gd nm tm (fun z => A z ∨ z = b) must t := fun h => ⟨h.two, fun k hk p hp hn => let ⟨a1, a2, a3⟩ := h.old k hk p hp hn; ⟨a1, a2, .inl a3⟩, h.must, h.sm⟩
  have hoff : ∀ {f k : Nat} {t : Dk}, Gd nm tm (fun z => A z ∨ z = b) must t → Off (opE nm tm b k t) t (opS nm tm b k t) → (s.fuse < 0 → t.fuse < 0) → (runK nm tm b (f + 1) k t).1 = 34 ∧ Gd nm tm (fun z => A z ∨ z = b) must (runK nm tm b (f + 1) k t).2 ∧ 0 ≤ s.fuse := fun {f k t} hg ⟨h1, h2, h3⟩ hfu => by
    have e : runK nm tm b (f + 1) k t = (opE nm tm b k t, opS nm tm b k t) := (if_neg (by rw [h1]; decide)).trans (if_neg fun hh => hh.2 h1)
    rw [e]
    exact ⟨h1, by rw [h2]; exact hg.spend, Classical.byContradiction fun hn => by have := hfu (by omega); omega⟩
  have hon : ∀ {f k : Nat} {t : Dk}, opE nm tm b k t = 0 → runK nm tm b (f + 1) k t = runK nm tm b f (k + 1) (opS nm tm b k t) := fun h => if_pos h
  rcases create_mid (f0 := s.fuse) (fun h => h) hG hne hal hso hg2 hnt hfew with h1 | ⟨h1, m1⟩
  · exact .inr (hoff (k := 0) (hup hG) h1 (fun h => h))
  · rw [show runK nm tm b 5 0 s = runK nm tm b 4 1 (createS tm s) from hon (k := 0) h1]
    rcases append_mid (b := b) m1 hg2 hroom (short_one hb) with h2 | ⟨h2, m2⟩
    · exact .inr (hoff (k := 1) (hup m1.gd) h2 m1.fu)
    · rw [show runK nm tm b 4 1 (createS tm s) = runK nm tm b 3 2 (appendS tm b (createS tm s)) from hon (k := 1) h2]
      rcases sync_mid m2 hg2 (short_done hb) with h3 | ⟨h3, m3⟩
      · exact .inr (hoff (k := 2) (hup m2.gd) h3 m2.fu)
      · rw [show runK nm tm b 3 2 (appendS tm b (createS tm s)) = runK nm tm b 2 3 (syncS tm (appendS tm b (createS tm s))) from hon (k := 2) h3]
        have m3' : Mdd nm tm A must s.files.length ⟨b, []⟩ s.quota (s.used + b.length) s.fuse (syncS tm (appendS tm b (createS tm s))) := m3
        rcases rename_mid m3' hne hg1 hg2 with h4 | ⟨h4, m4⟩
        · exact .inr (hoff (k := 3) (hup m3.gd) h4 m3.fu)
        · rw [show runK nm tm b 2 3 (syncS tm (appendS tm b (createS tm s))) = runK nm tm b 1 4 (renameS tm nm (syncS tm (appendS tm b (createS tm s)))) from hon (k := 3) h4]
          rcases syncDir_ren m4 with h5 | ⟨h5, m5⟩
          · exact .inr (hoff (k := 4) m4.gd h5 m4.fu)
          · rw [show runK nm tm b 1 4 (renameS tm nm (syncS tm (appendS tm b (createS tm s)))) = runK nm tm b 0 5 (syncDirS (renameS tm nm (syncS tm (appendS tm b (createS tm s))))) from hon (k := 4) h5]
            exact .inl ⟨rfl, m5⟩
theorem repl_gd (hG : Gd nm tm A must s) (hI : s.Inv N) (hne : nm ≠ tm) (hal : s.dead = false) (hg1 : goodN nm = true) (hg2 : goodN tm = true) (hfew : s.seen.length < 65536) (hroom : s.used + b.length ≤ s.quota) (hb : b.length ≤ 1048576) :
    ((replT nm tm b s).1 = 0 ∧ Gd nm tm (fun z => z = b) True (replT nm tm b s).2) ∨ ((replT nm tm b s).1 = 34 ∧ Gd nm tm (fun z => A z ∨ z = b) must (replT nm tm b s).2 ∧ 0 ≤ s.fuse) := by
  have hup : ∀ {t : Dk}, Gd nm tm A must t → Gd nm tm (fun z => A z ∨ z = b) must t := fun h => ⟨h.two, fun k hk p hp hn => let ⟨a1, a2, a3⟩ := h.old k hk p hp hn; ⟨a1, a2, .inl a3⟩, h.must, h.sm⟩
  unfold replT
  rw [if_neg (by rw [atE_one hal hg1]; split <;> simp)]
  by_cases h0 : getL tm s.seen = none
  · have h31 : atE tm s = 31 := by rw [atE_one hal hg2, if_pos h0]
    rw [h31, if_neg (by decide), if_pos rfl]
    exact run5_gd hG hne hal hI.sorted hg1 hg2 h0 hfew hroom hb
  · have h00 : atE tm s = 0 := by rw [atE_one hal hg2, if_neg h0]
    rw [if_pos h00]
    have hrE : removeE tm s = spendE s := by unfold removeE; rw [h00, if_neg (by decide)]
    by_cases hf : s.fuse = 0
    · have e34 : removeE tm s = 34 := hrE.trans (spend_off hf)
      have eS : removeS tm s = spendS s := by unfold removeS; rw [h00, if_neg (by decide), if_pos hf]
      rw [if_neg (by rw [e34]; decide)]
      right
      rw [e34, eS]
      exact ⟨rfl, (hup hG).spend, by omega⟩
    · rw [if_pos (hrE.trans (spend_on hf).2)]
      obtain ⟨g0, g1, g2, g3, g4⟩ := spend_fields s
      obtain ⟨s1, hs1⟩ : ∃ s1, removeS tm s = s1 := ⟨_, rfl⟩
      have eS : removeS tm s = { spendS s with dchs := s.dchs ++ [.inr (.inr tm)], used := s.used - lenOf s tm } := by unfold removeS; rw [h00, if_neg (by decide), if_neg hf]
      have e0 : s1.files = s.files := by rw [← hs1, eS]; exact g0
      have e1 : s1.safe = s.safe := by rw [← hs1, eS]; exact g1
      have e2 : s1.dchs = s.dchs ++ [.inr (.inr tm)] := by rw [← hs1, eS]
      have e3 : s1.quota = s.quota := by rw [← hs1, eS]; exact g3
      have e4 : s1.used = s.used - lenOf s tm := by rw [← hs1, eS]
      have e5 : s1.dead = false := by rw [← hs1, eS]; exact (spend_on hf).1.trans hal
      rw [hs1]
      have hsn : s1.seen = delL tm s.seen := seen_dir e1 e2
      have hlen := lenOf_pos s tm
      have e6 : s1.fuse = (spendS s).fuse := by rw [← hs1, eS]
      have e7 : 0 ≤ s1.fuse → 0 ≤ s.fuse := fun h => Classical.byContradiction fun hn => by have := spend_neg (s := s) (by omega); omega
      refine (run5_gd (hG.dir e1 e2 (by rw [e0]; exact Nat.le_refl _) (fun k _ => fl_same e0 k) (fun _ h => h) (fun p hp => ?_) (fun hm => ?_) (by rw [e0]; exact hG.sm)) hne e5 (by rw [hsn]; exact hI.sorted.del _) hg1 hg2 (by rw [hsn, get_del hI.sorted, if_pos rfl]) (by rw [hsn]; have := del_len tm s.seen; omega) (by rw [e3, e4]; omega) hb).imp id (fun ⟨a1, a2, a3⟩ => ⟨a1, a2, e7 a3⟩)
      · have h1 := (mem_del.1 hp).1
        rw [seen_at] at h1
        refine ⟨hG.two _ (Nat.le_refl _) p h1, fun hn => ?_⟩
        rw [fl_same e0, e0]
        exact hG.old _ (Nat.le_refl _) p h1 hn
      · obtain ⟨p, hp, hn⟩ := hG.must hm _ (Nat.le_refl _)
        exact ⟨p, mem_del.2 ⟨by rw [seen_at]; exact hp, fun e => hne (hn.symm.trans e)⟩, hn⟩
theorem ldL_has : ∀ {fs : List FE} {n : Nat} {p : KE}, p ∈ ldL fs n → ∃ (i : Nat) (q : FE), fs[i]? = some q ∧ p.1 = q.1 ∧ p.2 = n + i
  | [], n, p, h => by cases h
  | q :: r, n, p, h => by
    rcases List.mem_cons.1 h with rfl | h
    · exact ⟨0, q, rfl, rfl, rfl⟩
    · obtain ⟨i, q', h1, h2, h3⟩ := ldL_has h
      exact ⟨i + 1, q', h1, h2, by rw [h3]; exact (Nat.add_assoc n 1 i).trans (by rw [Nat.add_comm 1 i])⟩
theorem ldL_in : ∀ {fs : List FE} {n : Nat} {q : FE}, q ∈ fs → ∃ p ∈ ldL fs n, p.1 = q.1
  | q' :: r, n, q, h => by
    rcases List.mem_cons.1 h with rfl | h
    · exact ⟨_, List.mem_cons_self, rfl⟩
    · obtain ⟨p, h1, h2⟩ := ldL_in (n := n + 1) h
      exact ⟨p, List.mem_cons_of_mem _ h1, h2⟩
/-- A disk made of such an image. -/
theorem ld_gd {q : Int} {fs : List FE} (ha : Asc fs) (h2 : ∀ p ∈ fs, (p.1 = nm ∨ p.1 = tm) ∧ (p.1 = nm → A p.2)) (hm : must → ∃ p ∈ fs, p.1 = nm) (hs : ∀ p ∈ fs, p.2.length ≤ 1048576) : Gd nm tm A must (ldS q fs) := by
  obtain ⟨g1, g2, g3, _⟩ := ld_facts q fs ha
  have hd : ∀ k, dirAt (ldS q fs) k = ldL fs 0 := fun k => by unfold dirAt; rw [g1, g3]; simp
  refine ⟨fun k _ p hp => ?_, fun k _ p hp hn => ?_, fun h k _ => ?_, fun z hz => ?_⟩
  · rw [hd] at hp
    obtain ⟨i, y, e1, e2, _⟩ := ldL_has hp
    rw [e2]
    exact (h2 y (List.mem_of_getElem? e1)).1
  · rw [hd] at hp
    obtain ⟨i, y, e1, e2, e3⟩ := ldL_has hp
    have e3' : p.2 = i := by rw [e3]; exact Nat.zero_add i
    have hf : (ldS q fs).fl p.2 = ⟨y.2, []⟩ := by
      unfold Dk.fl
      rw [e3', g2, List.getD_eq_getElem?_getD, List.getElem?_map, e1]
      rfl
    rw [hf, g2, List.length_map, e3']
    exact ⟨(List.getElem?_eq_some_iff.1 e1).1, rfl, (h2 y (List.mem_of_getElem? e1)).2 (e2 ▸ hn)⟩
  · rw [hd]
    obtain ⟨y, h1, h3⟩ := hm h
    obtain ⟨p, h4, h5⟩ := ldL_in (n := 0) h1
    exact ⟨p, h4, h5.trans h3⟩
  · rw [g2] at hz
    obtain ⟨y, hy, rfl⟩ := List.mem_map.1 hz
    intro i
    simpa using hs y hy
/-- Two names at most: two files at most. -/
theorem asc_two {fs : List FE} (ha : Asc fs) (h2 : ∀ p ∈ fs, p.1 = nm ∨ p.1 = tm) : fs.length ≤ 2 := by
  match fs, ha, h2 with
  | [], _, _ => simp
  | [_], _, _ => simp
  | [_, _], _, _ => simp
  | a :: b :: c :: r, ha, h2 =>
    exfalso
    have hab : kc a.1 b.1 = -1 := (List.pairwise_cons.1 ha).1 b (by simp)
    have hac : kc a.1 c.1 = -1 := (List.pairwise_cons.1 ha).1 c (by simp)
    have hbc : kc b.1 c.1 = -1 := (List.pairwise_cons.1 (List.pairwise_cons.1 ha).2).1 c (by simp)
    have k1 := kc_self a.1
    have k2 := kc_self b.1
    rcases h2 a (by simp) with e1 | e1 <;> rcases h2 b (by simp) with e2 | e2 <;> rcases h2 c (by simp) with e3 | e3 <;> simp_all
/-- What a crash leaves can be loaded. -/
theorem Gd.ldok (h : Gd nm tm A must s) (hI : s.Inv N) (hg1 : goodN nm = true) (hg2 : goodN tm = true) (ps : List Int) : LdOk 1073741824 (crashL s ps) := by
  obtain ⟨c1, c2, c3⟩ := h.crash ps
  have ha : Asc (crashL s ps) := by
    obtain ⟨e, hle⟩ := left_at s ps
    generalize modn (pickV ps) (s.dchs.length + 1) = k at e hle
    have hsd : Sorted (dirAt s k) := Sorted.fold hI.ok.sorted
    unfold Asc crashL
    rw [e, List.pairwise_iff_getElem]
    intro i j hi' hj' hij
    have hil : i < (dirAt s k).length := by rwa [tornAll_len] at hi'
    have hjl : j < (dirAt s k).length := by rwa [tornAll_len] at hj'
    obtain ⟨b, g1, _⟩ := tornAll_was s (dirAt s k) ps.tail i _ (List.getElem?_eq_getElem hil)
    obtain ⟨c, g2, _⟩ := tornAll_was s (dirAt s k) ps.tail j _ (List.getElem?_eq_getElem hjl)
    rw [List.getElem?_eq_getElem hi'] at g1
    rw [List.getElem?_eq_getElem hj'] at g2
    injection g1 with g1
    injection g2 with g2
    rw [g1, g2]
    exact List.pairwise_iff_getElem.1 hsd i j hil hjl hij
  have h2 := asc_two ha fun p hp => (c1 p hp).1
  refine ⟨by omega, ha, fun p hp => ?_, by omega, ?_⟩
  · rcases (c1 p hp).1 with e | e
    · rw [e]; exact hg1
    · rw [e]; exact hg2
  · have : ∀ (l : List FE), (∀ p ∈ l, p.2.length ≤ 1048576) → sumL l ≤ l.length * 1048576 := fun l => by
      induction l with
      | nil => intro _; simp [sumL]
      | cons x r ih =>
        intro hh
        have h1 := ih fun p hp => hh p (List.mem_cons_of_mem _ hp)
        have h3 := hh x List.mem_cons_self
        simp only [sumL, List.map_cons, List.sum_cons, List.length_cons] at h1 ⊢
        omega
    have := this _ c3
    omega
end
end Go.Proofs.Ytnecafhakkjbpaa
