import Derived.Test.YtomkieennkobcaaSm36
/- Two disks that are alike up to the numbers of their files; a settled disk: plain laws. -/
namespace Go.Proofs.Ytomkieennkobcaa
open Go.RowKit Go.Maps

def Live (s : Dk) (k : Nat) : Prop := (∃ n, (n, k) ∈ s.safe) ∨ ∃ n, (.inl (n, k) : DC) ∈ s.dchs
theorem fold_ids {P : Nat → Prop} : ∀ {cs : List DC} {l : List KE}, (∀ p ∈ l, P p.2) → (∀ n f, (.inl (n, f) : DC) ∈ cs → P f) → Sorted l → okD l cs → ∀ p ∈ cs.foldl ddo l, P p.2
  | [], _, h, _, _, _ => h
  | c :: cs, l, h, hc, hs, ho => by
    refine fold_ids (cs := cs) (fun p hp => ?_) (fun n f hf => hc n f (List.mem_cons_of_mem _ hf)) (hs.ddo c) ho.2
    match c, hc, ho, hp with
    | .inl (n, f), hc, _, hp =>
      rcases mem_put.1 hp with rfl | hp
      · exact hc n f List.mem_cons_self
      · exact h p hp.1
    | .inr (.inl (a, b)), _, ho, hp =>
      obtain ⟨_, f, hf⟩ := ho.1 a b rfl
      rcases mem_put.1 (mem_del.1 hp).1 with rfl | hp
      · show P ((getL a l).getD 0)
        rw [hf]
        exact h _ ((get_mem hs).1 hf)
      · exact h p hp.1
    | .inr (.inr n), _, _, hp => exact h p (mem_del.1 hp).1
section
variable {s t : Dk} {N : Nat} {fb : List Nat}
theorem seen_live (h : s.Inv N) : ∀ p ∈ s.seen, Live s p.2 := fold_ids (fun p hp => .inl ⟨p.1, hp⟩) (fun n _ hf => .inr ⟨n, hf⟩) h.ok.sorted h.ok.okd
theorem left_live (h : s.Inv N) (ps : List Int) : ∀ p ∈ leftL s ps, Live s p.2 := fold_ids (fun p hp => .inl ⟨p.1, hp⟩) (fun n _ hf => .inr ⟨n, List.mem_of_mem_take hf⟩) h.ok.sorted (okD_take _ h.ok.okd)
theorem live_lt (h : s.Inv N) {k : Nat} (hk : Live s k) : k < s.files.length := by
  rcases hk with ⟨n, hn⟩ | ⟨n, hn⟩
  · exact h.ids _ hn
  · exact h.dids n k hn
/-- Alike up to the files' numbers. -/
structure Sim (fb : List Nat) (s t : Dk) : Prop where
  len : fb.length = s.files.length
  safe : t.safe = s.safe.map (bk fb)
  dchs : t.dchs = s.dchs.map (bkD fb)
  fl : ∀ k, Live s k → t.fl (fb.getD k 0) = s.fl k ∧ fb.getD k 0 < t.files.length
  inj : ∀ k j, Live s k → Live s j → fb.getD k 0 = fb.getD j 0 → k = j
  quota : t.quota = s.quota
  used : t.used = s.used
  ls : s.Lives
  lt : t.Lives
theorem Sim.seen (h : Sim fb s t) (hi : s.Inv N) : t.seen = s.seen.map (bk fb) := by
  unfold Dk.seen
  rw [h.safe, h.dchs, fold_map hi.ok.okd]
theorem Sim.image (h : Sim fb s t) (hi : s.Inv N) : imageL t = imageL s := by
  unfold imageL
  rw [h.seen hi, List.map_map]
  refine List.map_congr_left fun p hp => ?_
  show (p.1, (t.fl (fb.getD p.2 0)).seen) = _
  rw [(h.fl p.2 (seen_live hi p hp)).1]
theorem torn_sim : ∀ (l : List KE) (ps : List Int), (∀ p ∈ l, t.fl (fb.getD p.2 0) = s.fl p.2) → tornAll t (l.map (bk fb)) ps = tornAll s l ps
  | [], _, _ => rfl
  | p :: r, ps, h => by
    have h1 : t.fl (fb.getD p.2 0) = s.fl p.2 := h p List.mem_cons_self
    show ((p.1, (tornS (t.fl (fb.getD p.2 0)) ps).1) :: (tornAll t (r.map (bk fb)) (tornS (t.fl (fb.getD p.2 0)) ps).2).1, (tornAll t (r.map (bk fb)) (tornS (t.fl (fb.getD p.2 0)) ps).2).2) = _
    rw [h1, torn_sim r _ fun q hq => h q (List.mem_cons_of_mem _ hq)]
    rfl
theorem Sim.crash (h : Sim fb s t) (hi : s.Inv N) (ps : List Int) : crashL t ps = crashL s ps := by
  have hl : leftL t ps = (leftL s ps).map (bk fb) := by
    unfold leftL
    rw [fold_map (okD_take _ hi.ok.okd), h.safe, h.dchs, List.length_map, List.map_take]
  unfold crashL
  rw [hl, torn_sim (s := s) _ _ fun p hp => (h.fl p.2 (left_live hi ps p hp)).1]
theorem Sim.get (h : Sim fb s t) (hi : s.Inv N) (n : ByteArray) : getL n t.seen = (getL n s.seen).map (fb.getD · 0) := by rw [h.seen hi, get_map]
theorem Sim.at_ (h : Sim fb s t) (hi : s.Inv N) (n : ByteArray) : atE n t = atE n s := by
  unfold atE
  rw [h.ls.2, h.lt.2, h.get hi]
  cases getL n s.seen <;> simp
theorem Sim.file (h : Sim fb s t) (hi : s.Inv N) {n : ByteArray} (ha : atE n s = 0) : t.num n = fb.getD (s.num n) 0 ∧ Live s (s.num n) ∧ t.fl (t.num n) = s.fl (s.num n) := by
  obtain ⟨_, _, k, hg⟩ := atE_zero.1 ha
  have hk := seen_live hi _ ((get_mem hi.sorted).1 hg)
  have h1 : t.num n = fb.getD k 0 := by unfold Dk.num; rw [h.get hi, hg]; rfl
  rw [getL_num hg, h1]
  exact ⟨rfl, hk, (h.fl k hk).1⟩
theorem Sim.lenOf_ (h : Sim fb s t) (hi : s.Inv N) (n : ByteArray) : lenOf t n = lenOf s n := by
  unfold lenOf
  rw [h.get hi]
  cases hg : getL n s.seen with
  | none => rfl
  | some k =>
    have hk := seen_live hi _ ((get_mem hi.sorted).1 hg)
    show ((t.fl (fb.getD k 0)).seen.length : Int) = _
    rw [(h.fl k hk).1]
theorem Sim.perr_ (h : Sim fb s t) (hi : s.Inv N) (st : SC) : perr st t = perr st s := by
  have ha := h.at_ hi
  have hs : t.seen.length = s.seen.length := by rw [h.seen hi, List.length_map]
  unfold perr
  rw [ha, hs, h.quota, h.used, h.ls.2, h.lt.2]
  by_cases h3 : st.kind = 3
  · by_cases h0 : atE st.nm s = 0
    · rw [(h.file hi h0).2.2]
    · simp [h3, h0]
  · simp [h3]
/-! A change on both. -/
theorem act_none {st : SC} (h : s.Lives) (h1 : st.kind = 1) : actS st s = { s with ops := s.ops + 1, files := s.files ++ [Fl.new], dchs := s.dchs ++ [.inl (st.nm, s.files.length)] } := by
  unfold actS
  rw [if_pos h1, spend_live h]
theorem bk_same {l : List KE} {x : Nat} (hl : ∀ p ∈ l, p.2 < fb.length) : l.map (bk (fb ++ [x])) = l.map (bk fb) := bk_more hl
theorem getD_old {x k : Nat} (h : k < fb.length) : (fb ++ [x]).getD k 0 = fb.getD k 0 := by
  rw [List.getD_eq_getElem?_getD, List.getElem?_append_left h, List.getD_eq_getElem?_getD]
theorem getD_left {α : Type} (l : List α) (x d : α) {k : Nat} (h : k < l.length) : (l ++ [x]).getD k d = l.getD k d := by
  simp only [List.getD_eq_getElem?_getD, List.getElem?_append_left h]
theorem getD_new {x : Nat} : (fb ++ [x]).getD fb.length 0 = x := by simp
/-- A file turns on both. -/
theorem Sim.setF (h : Sim fb s t) (hi : s.Inv N) {k : Nat} (hk : Live s k) (x : Fl) {u : Int} {o p : Int} {s' t' : Dk} (hs : s' = { s.setF k x with used := u, ops := o }) (ht : t' = { t.setF (fb.getD k 0) x with used := u, ops := p }) : Sim fb s' t' := by
  have hlt := live_lt hi hk
  obtain ⟨hf, hlt2⟩ := h.fl k hk
  have e1 : ∀ j, s'.fl j = if j = k then x else s.fl j := fun j => by rw [hs]; exact setF_fl s k j x hlt
  have e2 : ∀ j, t'.fl j = if j = fb.getD k 0 then x else t.fl j := fun j => by rw [ht]; exact setF_fl t _ j x hlt2
  have l1 : ∀ j, Live s' j ↔ Live s j := fun j => by rw [hs]; exact Iff.rfl
  refine ⟨?_, ?_, ?_, fun j hj => ?_, fun i j hi' hj => h.inj i j ((l1 i).1 hi') ((l1 j).1 hj), by rw [hs, ht]; exact h.quota, by rw [hs, ht], by rw [hs]; exact h.ls, by rw [ht]; exact h.lt⟩
  · rw [hs]; show fb.length = (s.files.set k x).length; rw [List.length_set]; exact h.len
  · rw [hs, ht]; exact h.safe
  · rw [hs, ht]; exact h.dchs
  · have hj' := (l1 j).1 hj
    refine ⟨?_, by rw [ht]; show _ < (t.files.set _ x).length; rw [List.length_set]; exact (h.fl j hj').2⟩
    rw [e1, e2]
    by_cases hjk : j = k
    · subst hjk; simp
    · have : ¬ fb.getD j 0 = fb.getD k 0 := fun e => hjk (h.inj j k hj' hk e)
      rw [if_neg hjk, if_neg this]
      exact (h.fl j hj').1
theorem Sim.dirs (h : Sim fb s t) {c : ByteArray × ByteArray ⊕ ByteArray} {u o p : Int} {s' t' : Dk} (hs : s' = { s with dchs := s.dchs ++ [.inr c], used := u, ops := o }) (ht : t' = { t with dchs := t.dchs ++ [.inr c], used := u, ops := p }) : Sim fb s' t' := by
  have l1 : ∀ j, Live s' j → Live s j := fun j hj => by
    rw [hs] at hj
    rcases hj with hj | ⟨n, hn⟩
    · exact .inl hj
    · rcases List.mem_append.1 hn with hn | hn
      · exact .inr ⟨n, hn⟩
      · simp at hn
  refine ⟨by rw [hs]; exact h.len, by rw [hs, ht]; exact h.safe, ?_, fun j hj => ?_, fun i j hi' hj => h.inj i j (l1 i hi') (l1 j hj), by rw [hs, ht]; exact h.quota, by rw [hs, ht], by rw [hs]; exact h.ls, by rw [ht]; exact h.lt⟩
  · rw [hs, ht]
    show t.dchs ++ [(.inr c : DC)] = (s.dchs ++ [(.inr c : DC)]).map (bkD fb)
    rw [List.map_append, h.dchs]
    rfl
  · have := h.fl j (l1 j hj)
    rw [hs, ht]
    exact this
theorem sim_step (h : Sim fb s t) (hi : s.Inv N) {st : SC} (hk : 1 ≤ st.kind ∧ st.kind ≤ 7 ∧ st.kind ≠ 4 ∧ st.kind ≠ 5) : chE st t = chE st s ∧ ∃ fb', Sim fb' (chS st s) (chS st t) := by
  have hp := h.perr_ hi st
  have es := (sp_lives h.ls).2.1
  have et := (sp_lives h.lt).2.1
  have fs := (sp_lives h.ls).2.2
  have ft := (sp_lives h.lt).2.2
  refine ⟨by rw [chE_form, chE_form st s, hp, es, et], ?_⟩
  rw [chS_form, chS_form st t, hp]
  by_cases h0 : perr st s = 0
  case neg => exact ⟨fb, by rw [if_pos h0, if_pos h0]; exact h⟩
  case pos =>
    have h0' : ¬ perr st s ≠ 0 := fun e => e h0
    rw [if_neg h0', if_neg h0', if_neg fs, if_neg ft]
    have ha : ∀ (hk1 : st.kind ≠ 1), atE st.nm s = 0 := fun hk1 => by
      unfold perr at h0
      rw [if_neg hk1] at h0
      by_cases a : atE st.nm s = 0
      · exact a
      · exfalso
        by_cases h2 : st.kind = 2
        · simp [h2, a] at h0
        · by_cases h3 : st.kind = 3
          · simp [h3, a] at h0
          · by_cases h6 : st.kind = 6
            · have d := h.ls.2
              by_cases b : goodN st.nm = false ∨ goodN st.to = false
              · simp [h6, d, b] at h0
              · by_cases c : st.nm = st.to
                · simp [h6, d, c] at h0
                  split at h0 <;> cases h0
                · simp [h6, d, b, c, a] at h0
            · simp [h2, h3, h6, hk.2.2.1, hk.2.2.2, a] at h0
    by_cases h1 : st.kind = 1
    · refine ⟨fb ++ [t.files.length], ?_⟩
      rw [act_none h.ls h1, act_none h.lt h1]
      have hids : ∀ k, Live s k → k < fb.length := fun k hk => by rw [h.len]; exact live_lt hi hk
      have l1 : ∀ j, Live { s with ops := s.ops + 1, files := s.files ++ [Fl.new], dchs := s.dchs ++ [.inl (st.nm, s.files.length)] } j → Live s j ∨ j = s.files.length := fun j hj => by
        rcases hj with hj | ⟨n, hn⟩
        · exact .inl (.inl hj)
        · rcases List.mem_append.1 hn with hn | hn
          · exact .inl (.inr ⟨n, hn⟩)
          · right
            simp at hn
            exact hn.2
      refine ⟨by simp [h.len], ?_, ?_, fun j hj => ?_, fun i j hi' hj e => ?_, h.quota, h.used, h.ls, h.lt⟩
      · show t.safe = s.safe.map _
        rw [bk_more (fun p hp => by rw [h.len]; exact hi.ids p hp)]
        exact h.safe
      · show t.dchs ++ [(.inl (st.nm, t.files.length) : DC)] = (s.dchs ++ [(.inl (st.nm, s.files.length) : DC)]).map _
        rw [List.map_append, bkD_more (fun n f hf => by rw [h.len]; exact hi.dids n f hf), h.dchs]
        simp only [List.map_cons, List.map_nil, bkD]
        rw [← h.len, getD_new]
      · rcases l1 j hj with hj' | rfl
        · obtain ⟨g1, g2⟩ := h.fl j hj'
          rw [getD_old (hids j hj')]
          refine ⟨?_, by show _ < (t.files ++ [Fl.new]).length; rw [List.length_append, List.length_singleton]; exact Nat.lt_succ_of_lt g2⟩
          have a1 : (t.files ++ [Fl.new]).getD (fb.getD j 0) Fl.new = t.files.getD (fb.getD j 0) Fl.new := getD_left _ _ _ g2
          have a2 : (s.files ++ [Fl.new]).getD j Fl.new = s.files.getD j Fl.new := getD_left _ _ _ (live_lt hi hj')
          show (t.files ++ [Fl.new]).getD _ Fl.new = (s.files ++ [Fl.new]).getD j Fl.new
          rw [a1, a2]
          exact g1
        · rw [show (fb ++ [t.files.length]).getD s.files.length 0 = t.files.length by rw [← h.len]; exact getD_new]
          refine ⟨?_, by simp⟩
          show (t.files ++ [Fl.new]).getD t.files.length Fl.new = (s.files ++ [Fl.new]).getD s.files.length Fl.new
          simp
      · have hnew : (fb ++ [t.files.length]).getD s.files.length 0 = t.files.length := by rw [← h.len]; exact getD_new
        rcases l1 i hi' with hi'' | rfl
        · rcases l1 j hj with hj'' | rfl
          · rw [getD_old (hids i hi''), getD_old (hids j hj'')] at e
            exact h.inj i j hi'' hj'' e
          · rw [getD_old (hids i hi''), hnew] at e
            have := (h.fl i hi'').2
            omega
        · rcases l1 j hj with hj'' | rfl
          · rw [getD_old (hids j hj''), hnew] at e
            have := (h.fl j hj'').2
            omega
          · rfl
    · refine ⟨fb, ?_⟩
      have hat := ha h1
      obtain ⟨f1, f2, f3⟩ := h.file hi hat
      by_cases h2 : st.kind = 2
      · refine h.setF hi f2 ⟨(s.fl (s.num st.nm)).safe, (s.fl (s.num st.nm)).chs ++ [.inl st.bs]⟩ (u := s.used + st.bs.length) (o := s.ops + 1) (p := t.ops + 1) ?_ ?_
        · unfold actS; rw [if_neg h1, if_pos h2, spend_live h.ls]; rfl
        · unfold actS; rw [if_neg h1, if_pos h2, spend_live h.lt, f1, ← f1, ← f3, ← h.used, f1]; rfl
      · by_cases h3 : st.kind = 3
        · refine h.setF hi f2 ⟨(s.fl (s.num st.nm)).safe, (s.fl (s.num st.nm)).chs ++ [.inr st.y.toNat]⟩ (u := s.used - ((s.fl (s.num st.nm)).seen.length - st.y)) (o := s.ops + 1) (p := t.ops + 1) ?_ ?_
          · unfold actS; rw [if_neg h1, if_neg h2, if_pos h3, spend_live h.ls]; rfl
          · unfold actS; rw [if_neg h1, if_neg h2, if_pos h3, spend_live h.lt, ← f3, ← h.used, f1]; rfl
        · by_cases h6 : st.kind = 6
          · refine h.dirs (c := .inl (st.nm, st.to)) (u := s.used - lenOf s st.to) (o := s.ops + 1) (p := t.ops + 1) ?_ ?_
            · unfold actS; rw [if_neg h1, if_neg h2, if_neg h3, if_neg hk.2.2.1, if_neg hk.2.2.2, if_pos h6, spend_live h.ls]
            · unfold actS; rw [if_neg h1, if_neg h2, if_neg h3, if_neg hk.2.2.1, if_neg hk.2.2.2, if_pos h6, spend_live h.lt, h.lenOf_ hi, h.used]
          · refine h.dirs (c := .inr st.nm) (u := s.used - lenOf s st.nm) (o := s.ops + 1) (p := t.ops + 1) ?_ ?_
            · unfold actS; rw [if_neg h1, if_neg h2, if_neg h3, if_neg hk.2.2.1, if_neg hk.2.2.2, if_neg h6, spend_live h.ls]
            · unfold actS; rw [if_neg h1, if_neg h2, if_neg h3, if_neg hk.2.2.1, if_neg hk.2.2.2, if_neg h6, spend_live h.lt, h.lenOf_ hi, h.used]
end
end Go.Proofs.Ytomkieennkobcaa
