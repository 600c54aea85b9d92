import Derived.Test.YtomkieennkobcaaSt2
/- A settled disk and the disk that Load makes of its image are alike. -/
namespace Go.Proofs.Ytomkieennkobcaa
open Go.RowKit Go.Maps

def posL : List KE → Nat → Nat → Nat
  | [], _, b => b
  | p :: r, k, b => if p.2 = k then b else posL r k (b + 1)
theorem pos_head (p : KE) (r : List KE) (b : Nat) : posL (p :: r) p.2 b = b := if_pos rfl
theorem pos_tail {p : KE} {k : Nat} (r : List KE) (b : Nat) (h : ¬ p.2 = k) : posL (p :: r) k b = posL r k (b + 1) := if_neg h
theorem nodup_ne {p q : KE} {r : List KE} (h : (((p :: r) : List KE).map fun x : KE => x.2).Nodup) (hq : q ∈ r) : ¬ p.2 = q.2 := fun e => by
  rw [List.map_cons, List.nodup_cons] at h
  exact h.1 (by rw [e]; exact List.mem_map.2 ⟨q, hq, rfl⟩)
theorem pos_ldL (g : KE → List UInt8) : ∀ (l : List KE) (b : Nat), (l.map fun x : KE => x.2).Nodup → (l.map fun p : KE => (p.1, posL l p.2 b)) = ldL (l.map fun p => (p.1, g p)) b
  | [], _, _ => rfl
  | p :: r, b, h => by
    have h2 : (r.map fun x : KE => x.2).Nodup := (List.nodup_cons.1 (by rw [List.map_cons] at h; exact h)).2
    show (p.1, posL (p :: r) p.2 b) :: (r.map fun q : KE => (q.1, posL (p :: r) q.2 b)) = (p.1, b) :: ldL (r.map fun p => (p.1, g p)) (b + 1)
    rw [pos_head, ← pos_ldL g r (b + 1) h2]
    congr 1
    exact List.map_congr_left fun q hq => by rw [pos_tail r b (nodup_ne h hq)]
theorem pos_get (g : KE → FE) : ∀ (l : List KE) (b : Nat), (l.map fun x : KE => x.2).Nodup → ∀ p ∈ l, ∃ i, posL l p.2 b = b + i ∧ i < l.length ∧ (l.map g)[i]? = some (g p)
  | [], _, _, p, hp => by cases hp
  | q :: r, b, h, p, hp => by
    have h2 : (r.map fun x : KE => x.2).Nodup := (List.nodup_cons.1 (by rw [List.map_cons] at h; exact h)).2
    rcases List.mem_cons.1 hp with rfl | hp
    · exact ⟨0, by rw [pos_head]; rfl, by simp, rfl⟩
    · obtain ⟨i, h3, h4, h5⟩ := pos_get g r (b + 1) h2 p hp
      exact ⟨i + 1, by rw [pos_tail r b (nodup_ne h hp), h3]; omega, by rw [List.length_cons]; omega, by simpa using h5⟩
theorem pos_inj : ∀ (l : List KE) (b : Nat) (k j : Nat), (∃ p ∈ l, p.2 = k) → (∃ p ∈ l, p.2 = j) → posL l k b = posL l j b → k = j
  | [], _, _, _, ⟨p, hp, _⟩, _, _ => by cases hp
  | q :: r, b, k, j, hk, hj, e => by
    have hge : ∀ (l : List KE) (k b : Nat), b ≤ posL l k b := fun l => by
      induction l with
      | nil => intro k b; exact Nat.le_refl _
      | cons p r ih =>
        intro k b
        by_cases h : p.2 = k
        · show b ≤ if p.2 = k then b else posL r k (b + 1)
          rw [if_pos h]; exact Nat.le_refl _
        · rw [pos_tail r b h]; exact Nat.le_of_succ_le (ih k (b + 1))
    by_cases h1 : q.2 = k
    · by_cases h2 : q.2 = j
      · exact h1.symm.trans h2
      · exfalso
        rw [pos_tail r b h2] at e
        have e1 : posL (q :: r) k b = b := if_pos h1
        have := hge r j (b + 1)
        omega
    · by_cases h2 : q.2 = j
      · exfalso
        rw [pos_tail r b h1] at e
        have e1 : posL (q :: r) j b = b := if_pos h2
        have := hge r k (b + 1)
        omega
      · rw [pos_tail r b h1, pos_tail r b h2] at e
        refine pos_inj r (b + 1) k j ?_ ?_ e
        · obtain ⟨p, hp, hpk⟩ := hk
          rcases List.mem_cons.1 hp with rfl | hp
          · exact absurd hpk h1
          · exact ⟨p, hp, hpk⟩
        · obtain ⟨p, hp, hpk⟩ := hj
          rcases List.mem_cons.1 hp with rfl | hp
          · exact absurd hpk h2
          · exact ⟨p, hp, hpk⟩
section
variable {s : Dk} {N : Nat}
theorem image_ldok {q : Int} (hi : s.Inv N) (hf : s.Few) (hq : 0 ≤ q ∧ q ≤ 1073741824) : LdOk q (imageL s) := by
  refine ⟨hq, ?_, fun p hp => ?_, ?_, (used_image hi).2⟩
  · unfold Asc imageL
    rw [List.pairwise_map]
    exact hi.sorted
  · obtain ⟨x, hx, rfl⟩ := List.mem_map.1 hp
    exact hi.seen_names x hx
  · unfold imageL
    rw [List.length_map]
    exact hf
theorem ld_lives {q : Int} {fs : List FE} (h : Asc fs) : (ldS q fs).Lives := ⟨(ld_facts q fs h).2.2.2.2.2.1, (ld_facts q fs h).2.2.2.2.2.2.1⟩
theorem ld_settled {q : Int} {fs : List FE} (h : Asc fs) : Settled (ldS q fs) := by
  obtain ⟨h1, h2, h3, _⟩ := ld_facts q fs h
  refine ⟨h3, fun p _ => ?_⟩
  unfold Dk.fl
  rw [h2, List.getD_eq_getElem?_getD, List.getElem?_map]
  cases fs[p.2]? <;> rfl
theorem sim_start (hs : Settled s) (hi : s.Inv N) (hl : s.Lives) (ok : LdOk s.quota (imageL s)) : ∃ fb, Sim fb s (ldS s.quota (imageL s)) := by
  obtain ⟨h1, h2, h3, h4, h5, h6, h7, h8⟩ := ld_facts s.quota (imageL s) ok.asc
  have hnd : (s.safe.map fun p : KE => p.2).Nodup := by have := hi.inj; rw [hs.seen] at this; exact this
  have him : imageL s = s.safe.map fun p => (p.1, (s.fl p.2).seen) := by unfold imageL; rw [hs.seen]
  have hgd : ∀ k, k < s.files.length → ((List.range s.files.length).map fun k => posL s.safe k 0).getD k 0 = posL s.safe k 0 := fun k hk => by
    rw [List.getD_eq_getElem?_getD, List.getElem?_map, List.getElem?_range hk]
    rfl
  have hlive : ∀ k, Live s k → k < s.files.length ∧ ∃ p ∈ s.safe, p.2 = k := fun k hk => ⟨live_lt hi hk, by
    rcases hk with ⟨n, hn⟩ | ⟨n, hn⟩
    · exact ⟨_, hn, rfl⟩
    · rw [hs.d] at hn; cases hn⟩
  refine ⟨(List.range s.files.length).map fun k => posL s.safe k 0, by simp, ?_, by rw [h3, hs.d]; rfl, fun k hk => ?_, fun k j hk hj e => ?_, h5, ?_, hl, ld_lives ok.asc⟩
  · rw [h1, him, ← pos_ldL (fun p => (s.fl p.2).seen) s.safe 0 hnd]
    refine List.map_congr_left fun p hp => ?_
    unfold bk
    rw [hgd p.2 (hi.ids p hp)]
  · obtain ⟨hlt, p, hp, rfl⟩ := hlive k hk
    rw [hgd p.2 hlt]
    obtain ⟨i, g1, g2, g3⟩ := pos_get (fun p => (p.1, (s.fl p.2).seen)) s.safe 0 hnd p hp
    rw [Nat.zero_add] at g1
    rw [← him] at g3
    have hil : i < (imageL s).length := (List.getElem?_eq_some_iff.1 g3).1
    refine ⟨?_, by rw [g1, h2, List.length_map]; exact hil⟩
    rw [g1]
    unfold Dk.fl
    rw [h2, List.getD_eq_getElem?_getD, List.getElem?_map, g3]
    show (⟨(s.fl p.2).seen, []⟩ : Fl) = s.fl p.2
    have hc := hs.f p hp
    generalize s.fl p.2 = x at hc
    obtain ⟨a, b⟩ := x
    simp only at hc
    subst hc
    rfl
  · obtain ⟨h1', g1⟩ := hlive k hk
    obtain ⟨h2', g2⟩ := hlive j hj
    rw [hgd k h1', hgd j h2'] at e
    exact pos_inj s.safe 0 k j g1 g2 e
  · rw [h4]; exact (used_image hi).1.symm
/-- Without picks a crash leaves what is durable: names and bytes. -/
def durL (s : Dk) : List (ByteArray × List UInt8) := s.safe.map fun p => (p.1, (s.fl p.2).safe)
theorem torn_nil (x : Fl) : tornS x [] = (x.safe, []) := by
  have h0 : modn (pickV ([] : List Int)) (x.chs.length + 1) = 0 := by unfold modn pickV; simp
  have h1 : ∀ c : Nat, modn (pickV ([] : List Int).tail) (c + 1) = 0 := fun c => by unfold modn pickV; simp
  unfold tornS
  rw [h0]
  cases x.chs[0]? with
  | none => rfl
  | some c =>
    cases c with
    | inl b => simp only [h1, List.take_zero, List.append_nil]; rfl
    | inr n => rfl
theorem torn_nils (s : Dk) : ∀ (l : List KE), (tornAll s l []).1 = l.map fun p => (p.1, (s.fl p.2).safe)
  | [] => rfl
  | p :: r => by
    have h1 := torn_nil (s.fl p.2)
    show ((p.1, (tornS (s.fl p.2) []).1) :: (tornAll s r (tornS (s.fl p.2) []).2).1) = _
    rw [h1, torn_nils s r]
    rfl
theorem crash_nil (s : Dk) : crashL s [] = durL s := by
  have h0 : modn (pickV ([] : List Int)) (s.dchs.length + 1) = 0 := by unfold modn pickV; simp
  unfold crashL durL leftL
  rw [h0]
  exact torn_nils s _
end
end Go.Proofs.Ytomkieennkobcaa
