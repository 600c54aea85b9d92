import Derived.Test.YtomkieennkobcaaSq1
/- Two disks; a change in one form; a fuse: plain laws. -/
namespace Go.Proofs.Ytomkieennkobcaa
open Go.RowKit Go.Maps

/-- What stands against a change, the fuse aside. -/
def perr (st : SC) (s : Dk) : Int :=
  if st.kind = 1 then (if atE st.nm s = 0 then 32 else if atE st.nm s ≠ 31 then atE st.nm s else if 65536 ≤ s.seen.length then 35 else 0)
  else if st.kind = 2 then (if atE st.nm s ≠ 0 then atE st.nm s else if 0 < st.bs.length ∧ s.quota - s.used < st.bs.length then 33 else 0)
  else if st.kind = 3 then (if atE st.nm s ≠ 0 then atE st.nm s else if st.y < 0 ∨ (s.fl (s.num st.nm)).seen.length < st.y then 3 else 0)
  else if st.kind = 4 then atE st.nm s
  else if st.kind = 5 then (if s.dead = true then 34 else 0)
  else if st.kind = 6 then (if s.dead = true then 34 else if goodN st.nm = false ∨ goodN st.to = false then 30 else if st.nm = st.to then 3 else atE st.nm s)
  else atE st.nm s
/-- A change that is done. -/
def actS (st : SC) (s : Dk) : Dk :=
  if st.kind = 1 then { spendS s with files := s.files ++ [Fl.new], dchs := s.dchs ++ [.inl (st.nm, s.files.length)] }
  else if st.kind = 2 then { (spendS s).addC (s.num st.nm) (.inl st.bs) with used := s.used + st.bs.length }
  else if st.kind = 3 then { (spendS s).addC (s.num st.nm) (.inr st.y.toNat) with used := s.used - ((s.fl (s.num st.nm)).seen.length - st.y) }
  else if st.kind = 4 then (spendS s).setF (s.num st.nm) ⟨(s.fl (s.num st.nm)).seen, []⟩
  else if st.kind = 5 then { spendS s with safe := s.seen, dchs := [] }
  else if st.kind = 6 then { spendS s with dchs := s.dchs ++ [.inr (.inl (st.nm, st.to))], used := s.used - lenOf s st.to }
  else { spendS s with dchs := s.dchs ++ [.inr (.inr st.nm)], used := s.used - lenOf s st.nm }
theorem if_ne {a b : Int} (h : a ≠ 0) : (if a ≠ 0 then a else b) = a := if_pos h
theorem chE_form (st : SC) (s : Dk) : chE st s = if perr st s ≠ 0 then perr st s else spendE s := by
  unfold chE perr
  by_cases h1 : st.kind = 1
  · simp only [h1, if_true]
    unfold createE
    by_cases a : atE st.nm s = 0
    · simp [a]
    · by_cases b : atE st.nm s = 31
      · by_cases c : 65536 ≤ s.seen.length
        · simp [b, c]
        · simp [b, c]
      · simp [a, b]
  · simp only [h1, if_false]
    by_cases h2 : st.kind = 2
    · simp only [h2, if_true]
      unfold appendE
      by_cases a : atE st.nm s = 0
      · by_cases b : 0 < st.bs.length ∧ s.quota - s.used < st.bs.length
        · simp [a, b]
        · simp only [a, ne_eq, not_true_eq_false, if_false, if_neg b]
      · simp [a]
    · simp only [h2, if_false]
      by_cases h3 : st.kind = 3
      · simp only [h3, if_true]
        unfold truncE
        by_cases a : atE st.nm s = 0
        · by_cases b : st.y < 0 ∨ (s.fl (s.num st.nm)).seen.length < st.y
          · simp [a, b]
          · simp only [a, ne_eq, not_true_eq_false, if_false, if_neg b]
        · simp [a]
      · simp only [h3, if_false]
        by_cases h4 : st.kind = 4
        · simp only [h4, if_true]; rfl
        · simp only [h4, if_false]
          by_cases h5 : st.kind = 5
          · simp only [h5, if_true]
            unfold syncDirE
            by_cases a : s.dead = true
            · simp [a]
            · simp [a]
          · simp only [h5, if_false]
            by_cases h6 : st.kind = 6
            · simp only [h6, if_true]
              unfold renameE
              by_cases a : s.dead = true
              · simp [a]
              · by_cases b : goodN st.nm = false ∨ goodN st.to = false
                · simp [a, b]
                · by_cases c : st.nm = st.to
                  · simp [a, if_neg b, if_pos c]
                  · simp only [a, if_neg b, if_neg c]
                    rfl
            · simp only [h6, if_false]; rfl
theorem chS_form (st : SC) (s : Dk) : chS st s = if perr st s ≠ 0 then s else if s.fuse = 0 then spendS s else actS st s := by
  unfold chS perr actS
  by_cases h1 : st.kind = 1
  · simp only [h1, if_true]
    unfold createS
    by_cases a : atE st.nm s = 0
    · simp [a]
    · by_cases b : atE st.nm s = 31
      · by_cases c : 65536 ≤ s.seen.length
        · simp [b, c]
        · simp [b, c]
      · simp [a, b]
  · simp only [h1, if_false]
    by_cases h2 : st.kind = 2
    · simp only [h2, if_true]
      unfold appendS
      by_cases a : atE st.nm s = 0
      · by_cases b : 0 < st.bs.length ∧ s.quota - s.used < st.bs.length
        · simp [a, b]
        · simp only [a, ne_eq, not_true_eq_false, if_false, if_neg b]
      · simp [a]
    · simp only [h2, if_false]
      by_cases h3 : st.kind = 3
      · simp only [h3, if_true]
        unfold truncS
        by_cases a : atE st.nm s = 0
        · by_cases b : st.y < 0 ∨ (s.fl (s.num st.nm)).seen.length < st.y
          · simp [a, b]
          · simp only [a, ne_eq, not_true_eq_false, if_false, if_neg b]
        · simp [a]
      · simp only [h3, if_false]
        by_cases h4 : st.kind = 4
        · simp only [h4, if_true]; rfl
        · simp only [h4, if_false]
          by_cases h5 : st.kind = 5
          · simp only [h5, if_true]
            unfold syncDirS
            by_cases a : s.dead = true
            · simp [a]
            · simp [a]
          · simp only [h5, if_false]
            by_cases h6 : st.kind = 6
            · simp only [h6, if_true]
              unfold renameS
              by_cases a : s.dead = true
              · simp [a]
              · by_cases b : goodN st.nm = false ∨ goodN st.to = false
                · simp [a, b]
                · by_cases c : st.nm = st.to
                  · simp [a, if_neg b, if_pos c]
                  · simp only [a, if_neg b, if_neg c]
                    rfl
            · simp only [h6, if_false]; rfl
theorem perr_dead {st : SC} {s : Dk} (h : s.dead = true) : perr st s = 34 := by
  have ha : ∀ n, atE n s = 34 := fun n => by unfold atE; rw [if_pos h]
  unfold perr
  simp [ha, h]
theorem ch_dead {st : SC} {s : Dk} (h : s.dead = true) : chE st s = 34 ∧ chS st s = s := by
  rw [chE_form, chS_form, perr_dead h]
  exact ⟨rfl, rfl⟩
/-- The same disk, another fuse. -/
def Dk.fz (s : Dk) (f : Int) : Dk := { s with fuse := f }
theorem perr_fz (st : SC) (s : Dk) (f : Int) : perr st (s.fz f) = perr st s := rfl
theorem spend_live {s : Dk} (h : s.Lives) : spendS s = { s with ops := s.ops + 1 } := by
  obtain ⟨files, safe, dchs, quota, used, fuse, dead, ops⟩ := s
  obtain ⟨h1, h2⟩ := h
  simp only at h1 h2
  subst h1 h2
  rfl
theorem spend_fz {s : Dk} {f : Int} (hf : 0 < f) : spendS (s.fz f) = { s with fuse := f - 1, ops := s.ops + 1 } := by
  unfold spendS Dk.fz
  rw [if_neg (by show ¬ f = 0; omega)]
  simp only
  rw [if_pos hf]
theorem act_fz {st : SC} {s : Dk} {f : Int} (h : s.Lives) (hf : 0 < f) : actS st (s.fz f) = (actS st s).fz (f - 1) := by
  unfold actS
  rw [spend_fz hf, spend_live h]
  by_cases h1 : st.kind = 1
  · simp only [h1, if_true]; rfl
  · simp only [h1, if_false]
    by_cases h2 : st.kind = 2
    · simp only [h2, if_true]; rfl
    · simp only [h2, if_false]
      by_cases h3 : st.kind = 3
      · simp only [h3, if_true]; rfl
      · simp only [h3, if_false]
        by_cases h4 : st.kind = 4
        · simp only [h4, if_true]; rfl
        · simp only [h4, if_false]
          by_cases h5 : st.kind = 5
          · simp only [h5, if_true]; rfl
          · simp only [h5, if_false]
            by_cases h6 : st.kind = 6
            · simp only [h6, if_true]; rfl
            · simp only [h6, if_false]; rfl
theorem act_ops {st : SC} {s : Dk} (h : s.Lives) : (actS st s).ops = s.ops + 1 := by
  unfold actS
  rw [spend_live h]
  by_cases h1 : st.kind = 1
  · simp only [h1, if_true]
  · simp only [h1, if_false]
    by_cases h2 : st.kind = 2
    · simp only [h2, if_true]; rfl
    · simp only [h2, if_false]
      by_cases h3 : st.kind = 3
      · simp only [h3, if_true]; rfl
      · simp only [h3, if_false]
        by_cases h4 : st.kind = 4
        · simp only [h4, if_true]; rfl
        · simp only [h4, if_false]
          by_cases h5 : st.kind = 5
          · simp only [h5, if_true]
          · simp only [h5, if_false]
            by_cases h6 : st.kind = 6
            · simp only [h6, if_true]
            · simp only [h6, if_false]
/-- A change on a disk and on its twin with a fuse. -/
theorem fz_step {st : SC} {s : Dk} {f : Int} (h : s.Lives) (hf : 0 ≤ f) :
    (chE st s ≠ 0 ∧ chS st s = s ∧ chE st (s.fz f) = chE st s ∧ chS st (s.fz f) = s.fz f) ∨
    (chE st s = 0 ∧ (chS st s).ops = s.ops + 1 ∧ ((0 < f ∧ chE st (s.fz f) = 0 ∧ chS st (s.fz f) = (chS st s).fz (f - 1)) ∨ (f = 0 ∧ chE st (s.fz f) = 34 ∧ chS st (s.fz f) = { s.fz f with dead := true }))) := by
  have h0 := (sp_lives h).2.2
  have hE := (sp_lives h).2.1
  rw [chE_form, chS_form, chE_form st (s.fz f), chS_form st (s.fz f), perr_fz]
  by_cases hp : perr st s = 0
  · right
    have hp' : ¬ perr st s ≠ 0 := fun h => h hp
    rw [if_neg hp', if_neg hp', if_neg hp', if_neg hp', if_neg h0]
    refine ⟨hE, act_ops h, ?_⟩
    by_cases h1 : f = 0
    · right
      subst h1
      exact ⟨rfl, rfl, rfl⟩
    · left
      have h2 : ¬ (s.fz f).fuse = 0 := h1
      rw [if_neg h2]
      exact ⟨by omega, if_neg h2, act_fz h (by omega)⟩
  · left
    rw [if_pos hp, if_pos hp, if_pos hp, if_pos hp]
    exact ⟨hp, rfl, rfl, rfl⟩
theorem image_fz (s : Dk) (f : Int) : imageL (s.fz f) = imageL s := rfl
theorem image_off (s : Dk) : imageL { s with dead := true } = imageL s := rfl
theorem crash_fz (s : Dk) (f : Int) (ps : List Int) : crashL (s.fz f) ps = crashL s ps := by
  unfold crashL
  rw [show leftL (s.fz f) ps = leftL s ps from rfl]
  have : ∀ (l : List KE) (qs : List Int), tornAll (s.fz f) l qs = tornAll s l qs := fun l => by
    induction l with
    | nil => intro qs; rfl
    | cons p r ih => intro qs; show ((p.1, _) :: _, _) = _; rw [ih]; rfl
  rw [this]
theorem crash_off (s : Dk) (ps : List Int) : crashL { s with dead := true } ps = crashL s ps := by
  unfold crashL
  rw [show leftL { s with dead := true } ps = leftL s ps from rfl]
  have : ∀ (l : List KE) (qs : List Int), tornAll { s with dead := true } l qs = tornAll s l qs := fun l => by
    induction l with
    | nil => intro qs; rfl
    | cons p r ih => intro qs; show ((p.1, _) :: _, _) = _; rw [ih]; rfl
  rw [this]
/-! How much a crash leaves. -/
theorem crash_len {s : Dk} {N : Nat} (h : s.Inv N) (ps : List Int) : (crashL s ps).length ≤ N := by
  unfold crashL
  rw [tornAll_len]
  unfold leftL
  have h1 := fold_len (s.dchs.take (modn (pickV ps) (s.dchs.length + 1))) s.safe
  have h2 := h.sz.d
  rw [List.length_take] at h1
  omega
theorem torn_len {x : Fl} {m : Nat} (h : Short x m) (ps : List Int) : (tornS x ps).1.length ≤ m := by
  unfold tornS
  split
  · rename_i c hc
    obtain ⟨hi, hc'⟩ := List.getElem?_eq_some_iff.1 hc
    have h1 := h.step hi
    rw [hc'] at h1
    simp only [fdo, List.length_append] at h1
    simp only [List.length_append, List.length_take]
    omega
  · exact h _
theorem tornAll_small {s : Dk} {m : Nat} (h : ∀ k, Short (s.fl k) m) : ∀ (l : List KE) (ps : List Int), ∀ p ∈ (tornAll s l ps).1, p.2.length ≤ m
  | [], _, p, hp => by cases hp
  | (n, k) :: r, ps, p, hp => by
    rcases List.mem_cons.1 hp with rfl | hp
    · exact torn_len (h k) ps
    · exact tornAll_small h r _ p hp
theorem short_fl {s : Dk} {N : Nat} (h : s.Inv N) (k : Nat) : Short (s.fl k) 1073741824 := by
  by_cases hk : k < s.files.length
  · exact h.sz.m _ (fl_mem hk)
  · have e : s.fl k = Fl.new := by unfold Dk.fl; rw [List.getD_eq_getElem?_getD, List.getElem?_eq_none (by omega)]; rfl
    rw [e]
    intro i
    simp [Fl.new]
theorem crash_small {s : Dk} {N : Nat} (h : s.Inv N) (ps : List Int) : ∀ p ∈ crashL s ps, p.2.length ≤ 140737488351232 := fun p hp => Nat.le_trans (tornAll_small (short_fl h) _ _ p hp) (by decide)
theorem image_small {s : Dk} {N : Nat} (h : s.Inv N) : ∀ p ∈ imageL s, p.2.length ≤ 140737488351232 := fun p hp => by
  obtain ⟨q, _, rfl⟩ := List.mem_map.1 hp
  have := short_fl h q.2 (s.fl q.2).chs.length
  rw [List.take_length] at this
  exact Nat.le_trans this (by decide)
/-! Two disks that know nothing of one another. -/
def Two (W w : World) (S : Nat → Prop) (d : Nat) (s : Dk) (T : Nat → Prop) (d2 : Nat) (t : Dk) (N : Nat) : Prop := Lv W w S d s N ∧ Lv W w T d2 t N ∧ ∀ b, S b → ¬ T b
section
variable {W w w' : World} {S T : Nat → Prop} {d d2 N M : Nat} {s t s' t' : Dk}
theorem Two.next (h : Two W w S d s T d2 t N) (hb : Below w.heap.size w w') : Two W w' S d s T d2 t N := ⟨h.1.next hb, h.2.1.next hb, h.2.2⟩
theorem Two.drewN (h : Two W w S d s T d2 t N) (k : Nat) : Two W (w.drewN k) S d s T d2 t N := h.next (below_drewN (Below.refl _ _) k)
theorem Two.up (h : Two W w S d s T d2 t N) (hM : N ≤ M) : Two W w S d s T d2 t M := ⟨h.1.up hM, h.2.1.up hM, h.2.2⟩
theorem Two.swap (h : Two W w S d s T d2 t N) : Two W w T d2 t S d s N := ⟨h.2.1, h.1, fun b h1 h2 => h.2.2 b h2 h1⟩
theorem Two.a (h : Two W w S d s T d2 t N) (hM : N ≤ M) (hT : Lv.Then W w w' S d s' M) : ∃ S', Two W w' S' d s' T d2 t M ∧ Chg S w w' := by
  obtain ⟨S', h1, h2, h3⟩ := hT
  refine ⟨S', ⟨h1, (h.2.1.up hM).far h2 (fun b hb hs => h.2.2 b hs hb) h.1.2.1, fun b hb ht => ?_⟩, h2⟩
  rcases h3 b hb with h4 | h4
  · exact h.2.2 b h4 ht
  · have := h.2.1.lt b ht
    omega
theorem Two.b (h : Two W w S d s T d2 t N) (hM : N ≤ M) (hT : Lv.Then W w w' T d2 t' M) : ∃ T', Two W w' S d s T' d2 t' M ∧ Chg T w w' := by
  obtain ⟨T', h1, h2⟩ := h.swap.a hM hT
  exact ⟨T', h1.swap, h2⟩
end
end Go.Proofs.Ytomkieennkobcaa
