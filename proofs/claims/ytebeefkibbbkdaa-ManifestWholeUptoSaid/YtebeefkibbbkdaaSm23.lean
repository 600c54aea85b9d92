import Derived.Test.YtebeefkibbbkdaaSm22
/- What every call keeps of a disk: plain laws. -/
namespace Go.Proofs.Ytebeefkibbbkdaa
open Go.RowKit Go.Maps

def Dk.tot (s : Dk) : Nat := (s.seen.map fun p => (s.fl p.2).seen.length).sum
structure Dk.Inv (s : Dk) (N : Nat) : Prop where
  ok : s.Ok
  sz : s.Sz N 1073741824
  rg : s.Rg N
  us : s.used = s.tot
  ub : s.used ≤ 1073741824
  inj : (s.seen.map fun p : KE => p.2).Nodup
  ids : ∀ p ∈ s.safe, p.2 < s.files.length
  dids : ∀ n f, (.inl (n, f) : DC) ∈ s.dchs → f < s.files.length

/-! The directory as a list. -/
section
variable {l : List KE} {k a b : ByteArray} {e : Nat}
theorem Sorted.nodup (h : Sorted l) : l.Nodup := List.Pairwise.imp (fun {x y} hxy e => by rw [e, kc_self] at hxy; exact absurd hxy (by decide)) h
theorem del_perm (h : Sorted l) (hk : (k, e) ∈ l) : l.Perm ((k, e) :: delL k l) := by
  refine (List.perm_ext_iff_of_nodup h.nodup (List.nodup_cons.2 ⟨fun hm => (mem_del.1 hm).2 rfl, (h.del k).nodup⟩)).2 fun x => ?_
  rw [List.mem_cons, mem_del]
  constructor
  · intro hx
    by_cases hxk : x.1 = k
    · left
      obtain ⟨x1, x2⟩ := x
      simp only at hxk
      subst hxk
      rw [h.one hx hk]
    · exact .inr ⟨hx, hxk⟩
  · rintro (rfl | ⟨hx, _⟩)
    · exact hk
    · exact hx
theorem del_same' (h : Sorted l) (hk : getL k l = none) : delL k l = l :=
  (h.del k).ext h fun x => by
    rw [mem_del]
    exact ⟨fun h => h.1, fun hx => ⟨hx, get_none.1 hk x hx⟩⟩
theorem put_perm (h : Sorted l) : (putL k e l).Perm ((k, e) :: delL k l) := by
  refine (List.perm_ext_iff_of_nodup (h.put k e).nodup (List.nodup_cons.2 ⟨fun hm => (mem_del.1 hm).2 rfl, (h.del k).nodup⟩)).2 fun x => ?_
  rw [List.mem_cons, mem_put, mem_del]
theorem ren_perm (h : Sorted l) (hab : a ≠ b) : (delL a (putL b e l)).Perm ((b, e) :: delL b (delL a l)) := by
  refine (List.perm_ext_iff_of_nodup ((h.put b e).del a).nodup (List.nodup_cons.2 ⟨fun hm => (mem_del.1 hm).2 rfl, ((h.del a).del b).nodup⟩)).2 fun x => ?_
  rw [mem_del, mem_put, List.mem_cons, mem_del, mem_del]
  constructor
  · rintro ⟨rfl | ⟨h1, h2⟩, h3⟩
    · exact .inl rfl
    · exact .inr ⟨⟨h1, h3⟩, h2⟩
  · rintro (rfl | ⟨⟨h1, h2⟩, h3⟩)
    · exact ⟨.inl rfl, fun e => hab e.symm⟩
    · exact ⟨.inr ⟨h1, h3⟩, h2⟩
end
/-- One file's length turns: the sum turns by as much. -/
theorem sum_turn {g g' : Nat → Nat} : ∀ {l : List KE} {n : ByteArray} {k : Nat}, (l.map fun p : KE => p.2).Nodup → (n, k) ∈ l → (∀ j, j ≠ k → g' j = g j) → (l.map fun p => g' p.2).sum + g k = (l.map fun p => g p.2).sum + g' k
  | [], _, _, _, h, _ => by cases h
  | p :: l, n, k, hn, hm, hg => by
    rw [List.map_cons, List.nodup_cons] at hn
    simp only [List.map_cons, List.sum_cons]
    rcases List.mem_cons.1 hm with rfl | hm'
    · have he : (l.map fun p => g' p.2) = l.map fun p => g p.2 := List.map_congr_left fun q hq => hg _ fun e => hn.1 (by rw [← e]; exact List.mem_map.2 ⟨q, hq, rfl⟩)
      rw [he]
      show g' k + _ + g k = g k + _ + g' k
      omega
    · have h1 := sum_turn hn.2 hm' hg
      have h2 : g' p.2 = g p.2 := hg _ fun e => hn.1 (by rw [e]; exact List.mem_map.2 ⟨_, hm', rfl⟩)
      omega
theorem sum_ge {g : Nat → Nat} : ∀ {l : List KE} {p : KE}, p ∈ l → g p.2 ≤ (l.map fun p => g p.2).sum
  | q :: l, p, h => by
    simp only [List.map_cons, List.sum_cons]
    rcases List.mem_cons.1 h with rfl | h
    · omega
    · have := sum_ge (g := g) h; omega
theorem names_fold : ∀ {cs : List DC} {l : List KE}, (∀ p ∈ l, goodN p.1 = true) → (∀ c ∈ cs, match c with
    | .inl (n, _) => goodN n = true
    | .inr (.inl (a, b)) => goodN a = true ∧ goodN b = true
    | .inr (.inr n) => goodN n = true) → ∀ p ∈ cs.foldl ddo l, goodN p.1 = true
  | [], _, h, _ => h
  | c :: cs, l, h, hc => by
    refine names_fold (cs := cs) (fun p hp => ?_) fun c' hc' => hc c' (List.mem_cons_of_mem _ hc')
    have h1 := hc c List.mem_cons_self
    match c, h1 with
    | .inl (n, f), h1 =>
      rcases mem_put.1 hp with rfl | hp
      · exact h1
      · exact h p hp.1
    | .inr (.inl (a, b)), h1 =>
      rcases mem_put.1 (mem_del.1 hp).1 with rfl | hp
      · exact h1.2
      · exact h p hp.1
    | .inr (.inr n), h1 => exact h p (mem_del.1 hp).1
section
variable {s : Dk} {N : Nat} {n a b : ByteArray} {k : Nat}
theorem Dk.Inv.seen_ids (h : s.Inv N) : ∀ p ∈ s.seen, p.2 < s.files.length := ids_fold h.ids h.dids h.ok.sorted h.ok.okd
theorem Dk.Inv.seen_names (h : s.Inv N) : ∀ p ∈ s.seen, goodN p.1 = true := names_fold h.ok.names h.ok.dnames
theorem Dk.Inv.sorted (h : s.Inv N) : Sorted s.seen := Sorted.fold h.ok.sorted
theorem Dk.Sz.wide (h : s.Sz N 1073741824) : s.Sz N 140737488355328 := ⟨h.d, h.f, fun x hx i => Nat.le_trans (h.m x hx i) (by decide)⟩
theorem Dk.Inv.mono {M : Nat} (h : s.Inv N) (hM : N ≤ M) : s.Inv M :=
  ⟨h.ok, ⟨Nat.le_trans h.sz.d hM, fun x hx => Nat.le_trans (h.sz.f x hx) hM, h.sz.m⟩, ⟨h.rg.q, h.rg.u, h.rg.f, h.rg.o.1, by have := h.rg.o.2; omega⟩, h.us, h.ub, h.inj, h.ids, h.dids⟩
/-- What hangs on the files and the directory alone. -/
theorem Dk.Inv.same {s' : Dk} (h : s.Inv N) (h1 : s'.files = s.files) (h2 : s'.safe = s.safe) (h3 : s'.dchs = s.dchs) (h4 : s'.used = s.used) {M : Nat} (hM : N ≤ M) (hr : s'.Rg M) : s'.Inv M := by
  have hs : s'.seen = s.seen := by unfold Dk.seen; rw [h2, h3]
  have hf : ∀ k, s'.fl k = s.fl k := fun k => by unfold Dk.fl; rw [h1]
  have ht : s'.tot = s.tot := by
    unfold Dk.tot
    rw [hs]
    exact congrArg List.sum (List.map_congr_left fun p _ => by rw [hf])
  exact ⟨⟨by rw [h2]; exact h.ok.sorted, by rw [h2, h3]; exact h.ok.okd, by rw [h2]; exact h.ok.names, by rw [h3]; exact h.ok.dnames, by rw [h1]; exact h.ok.okf⟩,
    ⟨by rw [h2, h3]; exact Nat.le_trans h.sz.d hM, fun x hx => Nat.le_trans (h.sz.f x (h1 ▸ hx)) hM, fun x hx => h.sz.m x (h1 ▸ hx)⟩, hr, by rw [h4, ht]; exact h.us, by rw [h4]; exact h.ub, by rw [hs]; exact h.inj, by rw [h1, h2]; exact h.ids, by rw [h1, h3]; exact h.dids⟩
theorem spend_rg (h : s.Rg N) : (spendS s).Rg (N + 1) := by
  obtain ⟨h1, h2, h3, h4⟩ := h
  unfold spendS
  split
  · exact ⟨h1, h2, h3, h4.1, by show s.ops ≤ ((N + 1 : Nat) : Int); omega⟩
  · refine ⟨h1, h2, ⟨?_, ?_⟩, ?_, ?_⟩
    · show -1 ≤ if s.fuse > 0 then s.fuse - 1 else s.fuse
      split <;> omega
    · show (if s.fuse > 0 then s.fuse - 1 else s.fuse) ≤ _
      split <;> omega
    · show 0 ≤ s.ops + 1; omega
    · show s.ops + 1 ≤ ((N + 1 : Nat) : Int); omega
theorem Dk.Inv.spend (h : s.Inv N) : (spendS s).Inv (N + 1) :=
  h.same (spend_fields s).1 (spend_fields s).2.1 (spend_fields s).2.2.1 (spend_fields s).2.2.2.2 (Nat.le_succ N) (spend_rg h.rg)
theorem setF_fl (s : Dk) (k j : Nat) (x : Fl) (hk : k < s.files.length) : (s.setF k x).fl j = if j = k then x else s.fl j := by
  unfold Dk.fl Dk.setF
  simp only [List.getD_eq_getElem?_getD, List.getElem?_set]
  by_cases hj : j = k
  · subst hj; simp [hk]
  · have : ¬ k = j := fun e => hj e.symm
    simp [hj, this]
/-- A file turns. -/
theorem Dk.Inv.file (h : s.Inv N) {x : Fl} {u : Int} (hg : getL n s.seen = some k) (hok : okF x.safe x.chs) (hf : x.chs.length ≤ N + 1) (hm : Short x 1073741824) (hu : u = s.used - (s.fl k).seen.length + x.seen.length) (hub : u ≤ 1073741824) :
    ({ (spendS s).setF k x with used := u } : Dk).Inv (N + 1) := by
  have hmem := (get_mem h.sorted).1 hg
  have hk : k < s.files.length := h.seen_ids _ hmem
  have hsp := h.spend
  obtain ⟨f1, f2, f3, f4, f5⟩ := spend_fields s
  have hfl : ∀ j, ({ (spendS s).setF k x with used := u } : Dk).fl j = if j = k then x else s.fl j := fun j => by
    have := setF_fl (spendS s) k j x (by rw [f1]; exact hk)
    rw [spend_fl] at this
    exact this
  have hseen : ({ (spendS s).setF k x with used := u } : Dk).seen = s.seen := spend_seen s
  have ht : ({ (spendS s).setF k x with used := u } : Dk).tot + (s.fl k).seen.length = s.tot + x.seen.length := by
    unfold Dk.tot
    rw [hseen]
    have h1 := sum_turn (g := fun j => (s.fl j).seen.length) (g' := fun j => (({ (spendS s).setF k x with used := u } : Dk).fl j).seen.length) h.inj hmem (fun j hj => by simp only [hfl, hj, if_false])
    simp only [hfl, if_true] at h1 ⊢
    exact h1
  have hge : (s.fl k).seen.length ≤ s.tot := sum_ge (g := fun j => (s.fl j).seen.length) hmem
  have hus := h.us
  have hr := hsp.rg
  have hmf : ∀ y ∈ (spendS s).files.set k x, y ∈ s.files ∨ y = x := fun y hy => by rw [f1] at hy; exact List.mem_or_eq_of_mem_set hy
  have hlen : ({ (spendS s).setF k x with used := u } : Dk).files.length = s.files.length := by show ((spendS s).files.set k x).length = _; rw [List.length_set, f1]
  refine ⟨⟨hsp.ok.sorted, hsp.ok.okd, hsp.ok.names, hsp.ok.dnames, fun y hy => ?_⟩, ⟨hsp.sz.d, fun y hy => ?_, fun y hy => ?_⟩, ⟨hr.q, ⟨?_, ?_⟩, hr.f, hr.o⟩, ?_, hub, by rw [hseen]; exact h.inj, fun p hp => ?_, fun m f hm => ?_⟩
  · rcases hmf y hy with hy | rfl
    · exact h.ok.okf y hy
    · exact hok
  · rcases hmf y hy with hy | rfl
    · exact Nat.le_trans (h.sz.f y hy) (Nat.le_succ N)
    · exact hf
  · rcases hmf y hy with hy | rfl
    · exact h.sz.m y hy
    · exact hm
  · show 0 ≤ u; omega
  · show u ≤ _; omega
  · show u = _; omega
  · rw [hlen]; exact h.ids p (f2 ▸ hp)
  · rw [hlen]; exact h.dids m f (f3 ▸ hm)
theorem Dk.Inv.len_le (h : s.Inv N) (hg : getL n s.seen = some k) : ((s.fl k).seen.length : Int) ≤ s.used := by
  have hge : (s.fl k).seen.length ≤ s.tot := sum_ge (g := fun j => (s.fl j).seen.length) ((get_mem h.sorted).1 hg)
  have := h.us; omega
theorem short_add {x : Fl} {c : FC} {m : Nat} (h : Short x m) (hc : (fdo x.seen c).length ≤ m) : Short ⟨x.safe, x.chs ++ [c]⟩ m := fun i => by
  rcases Nat.lt_or_ge i (x.chs.length + 1) with hi | hi
  · have e : (x.chs ++ [c]).take i = x.chs.take i := List.take_append_of_le_length (by omega)
    simp only [e]
    exact h i
  · have e : (x.chs ++ [c]).take i = x.chs ++ [c] := List.take_of_length_le (by simp; omega)
    simp only [e, List.foldl_append]
    exact hc
theorem seen_add (x : Fl) (c : FC) : (Fl.mk x.safe (x.chs ++ [c])).seen = fdo x.seen c := by simp [Fl.seen, List.foldl_append]
theorem getL_num (hg : getL n s.seen = some k) : s.num n = k := by unfold Dk.num; rw [hg]; rfl
theorem Dk.Inv.append {bs : List UInt8} (h : s.Inv N) : (appendS n bs s).Inv (N + 1) := by
  unfold appendS
  split
  · exact h.mono (Nat.le_succ N)
  · rename_i h0
    split
    · exact h.mono (Nat.le_succ N)
    · rename_i hov
      split
      · exact h.spend
      · obtain ⟨hd, hgn, k, hg⟩ := atE_zero.1 (Classical.not_not.1 h0)
        rw [getL_num hg]
        have hm := (get_mem h.sorted).1 hg
        have hfm := fl_mem (h.seen_ids _ hm)
        have hle := h.len_le hg
        have hq := h.rg.q
        have hub := h.ub
        have hsl : (fdo (s.fl k).seen (.inl bs)).length = (s.fl k).seen.length + bs.length := by simp [fdo]
        have hb2 : s.used + bs.length ≤ 1073741824 := by
          rcases Nat.eq_zero_or_pos bs.length with h1 | h1
          · omega
          · have : ¬ s.quota - s.used < bs.length := fun h2 => hov ⟨h1, h2⟩
            omega
        have := h.file (x := ⟨(s.fl k).safe, (s.fl k).chs ++ [.inl bs]⟩) (u := s.used + bs.length) hg (okF_snoc.2 ⟨h.ok.okf _ hfm, fun _ e => by cases e⟩) (by have := h.sz.f _ hfm; simp; omega) (short_add (h.sz.m _ hfm) (by rw [hsl]; omega)) (by rw [seen_add, hsl]; omega) hb2
        have e : ((spendS s).addC k (.inl bs)) = (spendS s).setF k ⟨(s.fl k).safe, (s.fl k).chs ++ [.inl bs]⟩ := by unfold Dk.addC; rw [spend_fl]
        rw [e]
        exact this
theorem Dk.Inv.trunc {x : Int} (h : s.Inv N) : (truncS n x s).Inv (N + 1) := by
  unfold truncS
  split
  · exact h.mono (Nat.le_succ N)
  · rename_i h0
    split
    · exact h.mono (Nat.le_succ N)
    · rename_i hov
      split
      · exact h.spend
      · obtain ⟨hd, hgn, k, hg⟩ := atE_zero.1 (Classical.not_not.1 h0)
        rw [getL_num hg] at hov ⊢
        have hm := (get_mem h.sorted).1 hg
        have hfm := fl_mem (h.seen_ids _ hm)
        have hle := h.len_le hg
        have hub := h.ub
        have hx : 0 ≤ x ∧ x ≤ (s.fl k).seen.length := by omega
        have hsl : (fdo (s.fl k).seen (.inr x.toNat)).length = x.toNat := by simp [fdo]; omega
        have := h.file (x := ⟨(s.fl k).safe, (s.fl k).chs ++ [.inr x.toNat]⟩) (u := s.used - ((s.fl k).seen.length - x)) hg (okF_snoc.2 ⟨h.ok.okf _ hfm, fun m e => by cases e; show x.toNat ≤ (s.fl k).seen.length; omega⟩) (by have := h.sz.f _ hfm; simp; omega) (short_add (h.sz.m _ hfm) (by rw [hsl]; omega)) (by rw [seen_add, hsl]; omega) (by omega)
        have e : ((spendS s).addC k (.inr x.toNat)) = (spendS s).setF k ⟨(s.fl k).safe, (s.fl k).chs ++ [.inr x.toNat]⟩ := by unfold Dk.addC; rw [spend_fl]
        rw [e]
        exact this
theorem Dk.Inv.sync (h : s.Inv N) : (syncS n s).Inv (N + 1) := by
  unfold syncS
  split
  · exact h.mono (Nat.le_succ N)
  · rename_i h0
    split
    · exact h.spend
    · obtain ⟨hd, hgn, k, hg⟩ := atE_zero.1 (Classical.not_not.1 h0)
      rw [getL_num hg]
      have hm := (get_mem h.sorted).1 hg
      have hfm := fl_mem (h.seen_ids _ hm)
      have hle := h.len_le hg
      have hub := h.ub
      have hs0 : Short (s.fl k) 1073741824 := h.sz.m _ hfm
      have := h.file (x := ⟨(s.fl k).seen, []⟩) (u := s.used) hg trivial (Nat.zero_le _) (fun i => by simp; have := hs0 (s.fl k).chs.length; rw [List.take_length] at this; exact this) (by show s.used = s.used - _ + ((s.fl k).seen.length : Int); omega) hub
      have e : ({ (spendS s).setF k ⟨(s.fl k).seen, []⟩ with used := s.used } : Dk) = (spendS s).setF k ⟨(s.fl k).seen, []⟩ := by
        have h5 := (spend_fields s).2.2.2.2
        unfold Dk.setF
        rw [← h5]
      rw [e] at this
      exact this
def dGood : DC → Prop
  | .inl (n, _) => goodN n = true
  | .inr (.inl (a, b)) => goodN a = true ∧ goodN b = true
  | .inr (.inr n) => goodN n = true
/-- The directory turns. -/
theorem Dk.Inv.dir (h : s.Inv N) {s' : Dk} {c : DC} {u : Int} (hs : s' = { spendS s with files := s'.files, dchs := s.dchs ++ [c], used := u }) (hz : s.files.length ≤ s'.files.length) (hm : ∀ x ∈ s'.files, x ∈ s.files ∨ x = Fl.new)
    (hcan : ∀ a b, c = .inr (.inl (a, b)) → a ≠ b ∧ ∃ f, getL a s.seen = some f) (hnm : dGood c) (hid : ∀ n f, c = .inl (n, f) → f < s'.files.length) (ht : u = ((ddo s.seen c).map fun p => (s'.fl p.2).seen.length).sum) (hu : u ≤ s.used) (hi : ((ddo s.seen c).map fun p : KE => p.2).Nodup) : s'.Inv (N + 1) := by
  have hsp := h.spend
  obtain ⟨f1, f2, f3, f4, f5⟩ := spend_fields s
  have e1 : s'.safe = s.safe := by rw [hs]; exact f2
  have e2 : s'.dchs = s.dchs ++ [c] := by rw [hs]
  have e3 : s'.used = u := by rw [hs]
  have e4 : s'.seen = ddo s.seen c := by unfold Dk.seen; rw [e1, e2, List.foldl_append]; rfl
  have hr := hsp.rg
  have q1 : s'.quota = (spendS s).quota := by rw [hs]
  have q2 : s'.fuse = (spendS s).fuse := by rw [hs]
  have q3 : s'.ops = (spendS s).ops := by rw [hs]
  have hub := h.ub
  refine ⟨⟨by rw [e1]; exact h.ok.sorted, by rw [e1, e2]; exact okD_snoc.2 ⟨h.ok.okd, hcan⟩, by rw [e1]; exact h.ok.names, fun d hd => ?_, fun x hx => ?_⟩, ⟨?_, fun x hx => ?_, fun x hx => ?_⟩, ⟨by rw [q1]; exact hr.q, ⟨?_, ?_⟩, by rw [q2]; exact hr.f, by rw [q3]; exact hr.o⟩, ?_, by rw [e3]; omega, by rw [e4]; exact hi, fun p hp => ?_, fun n f hd => ?_⟩
  · rw [e2] at hd
    rcases List.mem_append.1 hd with hd | hd
    · exact h.ok.dnames d hd
    · obtain rfl := List.mem_singleton.1 hd
      rcases d with ⟨n, f⟩ | ⟨a, b⟩ | n <;> exact hnm
  · rcases hm x hx with hx | rfl
    · exact h.ok.okf x hx
    · trivial
  · rw [e1, e2]; have := h.sz.d; simp; omega
  · rcases hm x hx with hx | rfl
    · exact Nat.le_trans (h.sz.f x hx) (Nat.le_succ N)
    · exact Nat.zero_le _
  · rcases hm x hx with hx | rfl
    · exact h.sz.m x hx
    · intro i; simp [Fl.new]
  · rw [e3, ht]; omega
  · rw [e3]; omega
  · rw [e3, ht]; unfold Dk.tot; rw [e4]
  · rw [e1] at hp; exact Nat.lt_of_lt_of_le (h.ids p hp) hz
  · rw [e2] at hd
    rcases List.mem_append.1 hd with hd | hd
    · exact Nat.lt_of_lt_of_le (h.dids n f hd) hz
    · exact hid n f (List.mem_singleton.1 hd).symm
theorem Dk.Inv.create (h : s.Inv N) : (createS n s).Inv (N + 1) := by
  unfold createS
  split
  · exact h.mono (Nat.le_succ N)
  · split
    · exact h.mono (Nat.le_succ N)
    · rename_i h0 h1
      split
      · exact h.mono (Nat.le_succ N)
      · split
        · exact h.spend
        · have h31 : atE n s = 31 := Classical.not_not.1 h1
          have hgn : goodN n = true := by
            cases hg : goodN n
            · unfold atE at h31; rw [hg] at h31; split at h31 <;> simp at h31
            · rfl
          have hnone : getL n s.seen = none := by
            cases hg : getL n s.seen with
            | none => rfl
            | some k => unfold atE at h31; rw [hg, hgn] at h31; split at h31 <;> simp at h31
          have hperm : (putL n s.files.length s.seen).Perm ((n, s.files.length) :: s.seen) := by
            have := put_perm (k := n) (e := s.files.length) h.sorted
            rwa [del_same' h.sorted hnone] at this
          have hfl : ∀ k, k < s.files.length → ({ spendS s with files := s.files ++ [Fl.new], dchs := s.dchs ++ [.inl (n, s.files.length)] } : Dk).fl k = s.fl k := fun k hk => by
            unfold Dk.fl
            simp only [List.getD_eq_getElem?_getD]
            rw [List.getElem?_append_left hk]
          have hfl2 : ({ spendS s with files := s.files ++ [Fl.new], dchs := s.dchs ++ [.inl (n, s.files.length)] } : Dk).fl s.files.length = Fl.new := by
            unfold Dk.fl
            simp [List.getD_eq_getElem?_getD]
          refine h.dir (c := .inl (n, s.files.length)) (u := s.used) ?_ (by simp) (fun x hx => by simpa using hx) (fun a b e => by cases e) hgn (fun m f e => by cases e; simp) ?_ (Int.le_refl _) ?_
          · have := (spend_fields s).2.2.2.2
            show ({ spendS s with files := s.files ++ [Fl.new], dchs := s.dchs ++ [.inl (n, s.files.length)] } : Dk) = { spendS s with files := s.files ++ [Fl.new], dchs := s.dchs ++ [.inl (n, s.files.length)], used := s.used }
            rw [← this]
          · rw [h.us]
            show ((s.tot : Nat) : Int) = (((putL n s.files.length s.seen).map fun p => (({ spendS s with files := s.files ++ [Fl.new], dchs := s.dchs ++ [.inl (n, s.files.length)] } : Dk).fl p.2).seen.length).sum : Nat)
            rw [(hperm.map _).sum_nat, List.map_cons, List.sum_cons, hfl2]
            have : (s.seen.map fun p => (({ spendS s with files := s.files ++ [Fl.new], dchs := s.dchs ++ [.inl (n, s.files.length)] } : Dk).fl p.2).seen.length) = s.seen.map fun p => (s.fl p.2).seen.length := List.map_congr_left fun p hp => by rw [hfl _ (h.seen_ids p hp)]
            rw [this]
            unfold Dk.tot
            simp [Fl.seen, Fl.new]
          · show ((putL n s.files.length s.seen).map fun p : KE => p.2).Nodup
            rw [(hperm.map _).nodup_iff, List.map_cons, List.nodup_cons]
            refine ⟨fun hm => ?_, h.inj⟩
            obtain ⟨p, hp, e⟩ := List.mem_map.1 hm
            have := h.seen_ids p hp
            exact absurd (show p.2 = s.files.length from e) (Nat.ne_of_lt this)
theorem lenOf_some (hg : getL n s.seen = some k) : lenOf s n = (s.fl k).seen.length := by unfold lenOf; rw [hg]
theorem lenOf_none (hg : getL n s.seen = none) : lenOf s n = 0 := by unfold lenOf; rw [hg]
theorem used_fl (s : Dk) (c : DC) (u : Int) (k : Nat) : ({ spendS s with dchs := s.dchs ++ [c], used := u } : Dk).fl k = s.fl k := by
  have := (spend_fields s).1
  unfold Dk.fl
  show (spendS s).files.getD k Fl.new = _
  rw [this]
theorem Dk.Inv.remove (h : s.Inv N) : (removeS n s).Inv (N + 1) := by
  unfold removeS
  split
  · exact h.mono (Nat.le_succ N)
  · rename_i h0
    split
    · exact h.spend
    · obtain ⟨hd, hgn, k, hg⟩ := atE_zero.1 (Classical.not_not.1 h0)
      have hm := (get_mem h.sorted).1 hg
      have hp := del_perm h.sorted hm
      rw [lenOf_some hg]
      have hsum : s.tot = (s.fl k).seen.length + ((delL n s.seen).map fun p => (s.fl p.2).seen.length).sum := by
        unfold Dk.tot
        rw [(hp.map _).sum_nat, List.map_cons, List.sum_cons]
      have hus := h.us
      refine h.dir (c := .inr (.inr n)) (u := s.used - (s.fl k).seen.length) (by show _ = ({ spendS s with files := (spendS s).files, dchs := _, used := _ } : Dk); rfl) (by show _ ≤ (spendS s).files.length; rw [(spend_fields s).1]; exact Nat.le_refl _) (fun x hx => .inl ((spend_fields s).1 ▸ hx)) (fun a b e => by cases e) hgn (fun m f e => by cases e) ?_ (by omega) ?_
      · show _ = ((((delL n s.seen).map fun p => (({ spendS s with dchs := s.dchs ++ [.inr (.inr n)], used := s.used - (s.fl k).seen.length } : Dk).fl p.2).seen.length).sum : Nat) : Int)
        simp only [used_fl]
        omega
      · have := h.inj
        rw [(hp.map _).nodup_iff, List.map_cons, List.nodup_cons] at this
        exact this.2
theorem Dk.Inv.rename (h : s.Inv N) : (renameS a b s).Inv (N + 1) := by
  unfold renameS
  split
  · exact h.mono (Nat.le_succ N)
  · split
    · exact h.mono (Nat.le_succ N)
    · rename_i hgab
      split
      · exact h.mono (Nat.le_succ N)
      · rename_i hab
        split
        · exact h.mono (Nat.le_succ N)
        · rename_i h0
          split
          · exact h.spend
          · obtain ⟨hd, hga, k, hg⟩ := atE_zero.1 (Classical.not_not.1 h0)
            have hgb : goodN b = true := by cases hb : goodN b; exact absurd (.inr hb) hgab; rfl
            have hm := (get_mem h.sorted).1 hg
            have hp := del_perm h.sorted hm
            have hr := ren_perm (e := k) h.sorted hab
            have hdd : ddo s.seen (.inr (.inl (a, b))) = delL a (putL b k s.seen) := by simp [ddo, hg]
            have hus := h.us
            have hinj := h.inj
            rw [(hp.map _).nodup_iff, List.map_cons, List.nodup_cons] at hinj
            have hsum : s.tot = (s.fl k).seen.length + ((delL a s.seen).map fun p => (s.fl p.2).seen.length).sum := by
              unfold Dk.tot
              rw [(hp.map _).sum_nat, List.map_cons, List.sum_cons]
            have hrest : lenOf s b + ((delL b (delL a s.seen)).map fun p => (s.fl p.2).seen.length).sum = ((delL a s.seen).map fun p => (s.fl p.2).seen.length).sum ∧ (k ∉ (delL b (delL a s.seen)).map fun p : KE => p.2) ∧ ((delL b (delL a s.seen)).map fun p : KE => p.2).Nodup := by
              have hsub : ∀ j, j ∈ ((delL b (delL a s.seen)).map fun p : KE => p.2) → j ∈ ((delL a s.seen).map fun p : KE => p.2) := fun j hj => by
                obtain ⟨p, hp, e⟩ := List.mem_map.1 hj
                exact List.mem_map.2 ⟨p, (mem_del.1 hp).1, e⟩
              have hgb2 : getL b (delL a s.seen) = getL b s.seen := by rw [get_del h.sorted, if_neg fun e => hab e.symm]
              cases hb : getL b s.seen with
              | none =>
                rw [lenOf_none hb, del_same' (h.sorted.del a) (by rw [hgb2]; exact hb)]
                exact ⟨by omega, hinj.1, hinj.2⟩
              | some kb =>
                have hp2 := del_perm (h.sorted.del a) ((get_mem (h.sorted.del a)).1 (by rw [hgb2]; exact hb))
                rw [lenOf_some hb]
                have hn2 := hinj.2
                rw [(hp2.map _).nodup_iff, List.map_cons, List.nodup_cons] at hn2
                refine ⟨?_, fun hk => hinj.1 (hsub k hk), hn2.2⟩
                rw [(hp2.map fun p : KE => (s.fl p.2).seen.length).sum_nat, List.map_cons, List.sum_cons]
                show ((s.fl kb).seen.length : Int) + _ = (((s.fl kb).seen.length + _ : Nat) : Int)
                omega
            have hlen : 0 ≤ lenOf s b := by unfold lenOf; split <;> omega
            refine h.dir (c := .inr (.inl (a, b))) (u := s.used - lenOf s b) (by show _ = ({ spendS s with files := (spendS s).files, dchs := _, used := _ } : Dk); rfl) (by show _ ≤ (spendS s).files.length; rw [(spend_fields s).1]; exact Nat.le_refl _) (fun x hx => .inl ((spend_fields s).1 ▸ hx)) (fun x y e => by cases e; exact ⟨hab, k, hg⟩) ⟨hga, hgb⟩ (fun m f e => by cases e) ?_ (by omega) ?_
            · show _ = ((((ddo s.seen (.inr (.inl (a, b)))).map fun p => (({ spendS s with dchs := s.dchs ++ [.inr (.inl (a, b))], used := s.used - lenOf s b } : Dk).fl p.2).seen.length).sum : Nat) : Int)
              simp only [used_fl]
              rw [hdd, (hr.map fun p : KE => (s.fl p.2).seen.length).sum_nat, List.map_cons, List.sum_cons]
              have := hrest.1
              simp only
              omega
            · rw [hdd, (hr.map _).nodup_iff, List.map_cons, List.nodup_cons]
              exact hrest.2
theorem Dk.Inv.syncDir (h : s.Inv N) : (syncDirS s).Inv (N + 1) := by
  unfold syncDirS
  split
  · exact h.mono (Nat.le_succ N)
  · split
    · exact h.spend
    · have hsp := h.spend
      obtain ⟨f1, f2, f3, f4, f5⟩ := spend_fields s
      have hl := fold_len s.dchs s.safe
      have hd := h.sz.d
      have ht : ({ spendS s with safe := s.seen, dchs := [] } : Dk).tot = s.tot := by
        show (s.seen.map fun p => (({ spendS s with safe := s.seen, dchs := [] } : Dk).fl p.2).seen.length).sum = _
        have : ∀ k, ({ spendS s with safe := s.seen, dchs := [] } : Dk).fl k = s.fl k := fun k => by unfold Dk.fl; show (spendS s).files.getD k Fl.new = _; rw [f1]
        simp only [this]
        rfl
      refine ⟨⟨h.sorted, trivial, h.seen_names, fun c hc => (by cases hc), hsp.ok.okf⟩, ⟨?_, hsp.sz.f, hsp.sz.m⟩, ⟨hsp.rg.q, hsp.rg.u, hsp.rg.f, hsp.rg.o⟩, ?_, hsp.ub, h.inj, fun p hp => ?_, fun n f hm => (by cases hm)⟩
      · show s.seen.length + 0 ≤ N + 1
        unfold Dk.seen
        omega
      · rw [ht]; exact f5.trans h.us
      · show p.2 < (spendS s).files.length
        rw [f1]; exact h.seen_ids p hp
theorem Dk.fresh_inv {q : Int} (hq : 0 ≤ q ∧ q ≤ 1073741824) : (Dk.fresh q).Inv 0 :=
  ⟨⟨List.Pairwise.nil, trivial, fun _ h => (by cases h), fun _ h => (by cases h), fun _ h => (by cases h)⟩, ⟨Nat.le_refl _, fun _ h => (by cases h), fun _ h => (by cases h)⟩, ⟨hq, ⟨Int.le_refl 0, by simp [Dk.fresh]⟩, ⟨by simp [Dk.fresh], by simp [Dk.fresh]⟩, ⟨by simp [Dk.fresh], by simp [Dk.fresh]⟩⟩, rfl, by simp [Dk.fresh], List.nodup_nil, fun _ h => (by cases h), fun _ _ h => (by cases h)⟩
end
end Go.Proofs.Ytebeefkibbbkdaa
