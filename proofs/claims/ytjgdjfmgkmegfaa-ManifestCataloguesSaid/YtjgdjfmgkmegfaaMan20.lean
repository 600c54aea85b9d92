import Derived.Test.YtjgdjfmgkmegfaaMan19
namespace Go.Proofs.Ytjgdjfmgkmegfaa
open Go.RowKit Go.Maps

/-! A manifest's bytes as numbers one behind the other. No program in sight. -/
theorem rdU_inv : ∀ (t : List UInt8) (i v k : Nat), i ≤ 9 → rdU i t = some (v, k) → t.take k = uvarF (10 - i) v ∧ (0 < i → 0 < v)
  | [], _, _, _, _, h => by cases h
  | c :: r, i, v, k, hi, h => by
    have hc := c.toNat_lt
    rw [rdU] at h
    split at h
    · cases h
    · rename_i h1
      split at h
      · cases h
      · rename_i h2
        have e10 : 10 - i = (9 - i) + 1 := by omega
        split at h
        · rename_i h3
          cases h
          refine ⟨?_, fun h0 => by omega⟩
          rw [e10, uvarF, if_pos h3]
          simp
        · rename_i h3
          rcases hh : rdU (i + 1) r with _ | ⟨v', k'⟩
          · rw [hh] at h; cases h
          · rw [hh] at h
            simp only [Option.map_some, Option.some.injEq, Prod.mk.injEq] at h
            obtain ⟨rfl, rfl⟩ := h
            have hi9 : i ≠ 9 := fun e => by
              have : c.toNat = 1 := Classical.byContradiction fun hn => h1 ⟨e, hn⟩
              omega
            obtain ⟨g1, g2⟩ := rdU_inv r (i + 1) v' k' (by omega) hh
            have hv' := g2 (by omega)
            refine ⟨?_, fun _ => by omega⟩
            rw [e10, uvarF, if_neg (by omega), List.take_succ_cons, g1]
            rw [show 10 - (i + 1) = 9 - i by omega, show (c.toNat % 128 + 128 * v') / 128 = v' by omega, show (c.toNat % 128 + 128 * v') % 128 + 128 = c.toNat by omega]
            simp
theorem rdE_inv {t : List UInt8} {v k : Nat} (h : rdE t = some (v, k)) : t.take k = uvar v := (rdU_inv t 0 v k (by omega) h).1

def flat3 (p : P3) : List Int := [p.1, p.2.1, p.2.2]
def numsM (id ns nx mk cl : Int) (segs : List Int) (prods : List P3) : List Int := [id, ns, nx, mk, cl, (segs.length : Int)] ++ (segs ++ ((prods.length : Int) :: prods.flatMap flat3))
theorem flat3_bytes (prods : List P3) : (prods.flatMap flat3).flatMap uvarI = prods.flatMap prodB := by
  induction prods with
  | nil => rfl
  | cons p r ih => simp only [List.flatMap_cons, List.flatMap_append, ih]; simp [flat3, prodB]
theorem bodyM_nums (id ns nx mk cl : Int) (segs : List Int) (prods : List P3) : bodyM id ns nx mk cl segs prods = (numsM id ns nx mk cl segs prods).flatMap uvarI := by
  simp only [numsM, bodyM, List.flatMap_append, List.flatMap_cons, flat3_bytes, List.append_assoc]
theorem flat3_len (prods : List P3) : (prods.flatMap flat3).length = 3 * prods.length := by
  induction prods with
  | nil => rfl
  | cons p r ih => simp only [List.flatMap_cons, List.length_append, ih, List.length_cons]; simp [flat3]; omega
theorem numsM_len (id ns nx mk cl : Int) (segs : List Int) (prods : List P3) : (numsM id ns nx mk cl segs prods).length = 7 + segs.length + 3 * prods.length := by
  simp only [numsM, List.length_append, List.length_cons, flat3_len, List.length_nil]; omega
theorem flat3_inj : ∀ {a b : List P3}, a.length = b.length → a.flatMap flat3 = b.flatMap flat3 → a = b
  | [], [], _, _ => rfl
  | [], _ :: _, h, _ => by cases h
  | _ :: _, [], h, _ => by cases h
  | ⟨a1, a2, a3⟩ :: a, ⟨b1, b2, b3⟩ :: b, h, e => by
    simp only [List.flatMap_cons, flat3, List.cons_append, List.nil_append, List.cons.injEq] at e
    obtain ⟨rfl, rfl, rfl, e⟩ := e
    rw [flat3_inj (by simpa using h) e]
theorem numsM_inj {id ns nx mk cl id' ns' nx' mk' cl' : Int} {segs segs' : List Int} {prods prods' : List P3} {ys : List Int} (h : numsM id ns nx mk cl segs prods = numsM id' ns' nx' mk' cl' segs' prods' ++ ys) :
    id = id' ∧ ns = ns' ∧ nx = nx' ∧ mk = mk' ∧ cl = cl' ∧ segs = segs' ∧ prods = prods' ∧ ys = [] := by
  simp only [numsM, List.cons_append, List.nil_append, List.append_assoc, List.cons.injEq] at h
  obtain ⟨h1, h2, h3, h4, h5, h6, h7⟩ := h
  obtain ⟨e1, e2⟩ := List.append_inj h7 (by omega)
  simp only [List.cons.injEq] at e2
  obtain ⟨h8, h9⟩ := e2
  have hl : prods.length = prods'.length := by omega
  have h10 : prods.flatMap flat3 ++ [] = prods'.flatMap flat3 ++ ys := by simpa using h9
  obtain ⟨e3, e4⟩ := List.append_inj h10 (by rw [flat3_len, flat3_len, hl])
  exact ⟨h1, h2, h3, h4, h5, e1, flat3_inj hl e3, e4.symm⟩
theorem numsM_bd {id ns nx mk cl : Int} {segs : List Int} {prods : List P3} (h : manR id ns nx mk cl segs prods = true) : ∀ x ∈ numsM id ns nx mk cl segs prods, 0 ≤ x ∧ x < 4611686018427387904 := by
  obtain ⟨fa, fb, fs, fp, fse, fpr⟩ := manR_facts h
  unfold manA at fa
  unfold manB at fb
  intro x hx
  simp only [numsM, List.mem_append, List.mem_cons, List.not_mem_nil, or_false, List.mem_flatMap] at hx
  rcases hx with (rfl | rfl | rfl | rfl | rfl | rfl) | hx | rfl | ⟨p, hp, hx⟩
  · omega
  · omega
  · omega
  · omega
  · omega
  · omega
  · have := fse x hx; omega
  · omega
  · have := fpr p hp
    simp only [flat3, List.mem_cons, List.not_mem_nil, or_false] at hx
    omega

/-- What was read so far are the bytes of the numbers xs. -/
def ConM (l : List UInt8) (s : RSt) (xs : List Int) : Prop := s.fl = false → l.take s.at_ = xs.flatMap uvarI
/-- If the bytes are a right manifest's, xs are its first numbers. -/
def CanM (l : List UInt8) (s : RSt) (xs : List Int) : Prop := ∀ id ns nx mk cl segs prods, manR id ns nx mk cl segs prods = true → l = bodyM id ns nx mk cl segs prods →
  s.fl = false ∧ ∃ ys, numsM id ns nx mk cl segs prods = xs ++ ys ∧ l.drop s.at_ = ys.flatMap uvarI
theorem ConM.start (l : List UInt8) : ConM l ⟨0, false⟩ [] := fun _ => rfl
theorem CanM.start (l : List UInt8) : CanM l ⟨0, false⟩ [] := fun id ns nx mk cl segs prods _ hl => ⟨rfl, _, rfl, by rw [hl, bodyM_nums]; rfl⟩
theorem nxS_ok {l : List UInt8} {s s' : RSt} {v : Nat} (hu : nxS l s = (v, s')) (hf : s'.fl = false) : s.fl = false ∧ l.take s'.at_ = l.take s.at_ ++ uvar v := by
  unfold nxS at hu
  split at hu
  · unfold uvS at hu
    split at hu
    · rename_i hx; cases hu; rw [hx] at hf; cases hf
    · rename_i hx
      split at hu
      · rename_i v' k' hr
        cases hu
        refine ⟨by simpa using hx, ?_⟩
        have := rdE_inv hr
        show l.take (s.at_ + k') = _
        rw [← this, List.take_add]
      · cases hu; cases hf
  · cases hu
    have := badS_fl l (uvS l s).2
    rw [hf] at this; cases this
theorem ConM.next {l : List UInt8} {s s' : RSt} {xs : List Int} {v : Nat} (h : ConM l s xs) (hu : nxS l s = (v, s')) : ConM l s' (xs ++ [(v : Int)]) := fun hf => by
  obtain ⟨h1, h2⟩ := nxS_ok hu hf
  rw [h2, h h1, List.flatMap_append]
  simp [uvarI]
theorem CanM.next {l : List UInt8} {s s' : RSt} {xs : List Int} {v : Nat} (h : CanM l s xs) (hu : nxS l s = (v, s'))
    (hlen : ∀ id ns nx mk cl segs prods ys, manR id ns nx mk cl segs prods = true → numsM id ns nx mk cl segs prods = xs ++ ys → ys ≠ []) : CanM l s' (xs ++ [(v : Int)]) := by
  intro id ns nx mk cl segs prods hr hl
  obtain ⟨hf, ys, h1, h2⟩ := h id ns nx mk cl segs prods hr hl
  match ys, hlen id ns nx mk cl segs prods ys hr h1 with
  | y :: zs, _ =>
    have hy := numsM_bd hr y (by rw [h1]; simp)
    rw [List.flatMap_cons, uvarI] at h2
    obtain ⟨c1, c2, c3⟩ := uvS_canon hf h2 (by omega)
    unfold nxS at hu
    rw [if_pos (by omega)] at hu
    have e1 : (uvS l s).1 = v := by rw [hu]
    have e2 : (uvS l s).2 = s' := by rw [hu]
    rw [e1] at c1
    rw [e2] at c2 c3
    refine ⟨c2, zs, ?_, c3⟩
    rw [h1, show (v : Int) = y by omega]
    simp
theorem ConM.count {l : List UInt8} {s s' : RSt} {xs : List Int} {v most : Nat} (h : ConM l s xs) (hu : cnS most l s = (v, s')) : ConM l s' (xs ++ [(v : Int)]) := by
  unfold cnS at hu
  split at hu
  · exact h.next hu
  · cases hu
    intro hf
    have := badS_fl l (nxS l s).2
    rw [hf] at this; cases this
theorem CanM.count {l : List UInt8} {s s' : RSt} {xs : List Int} {v most : Nat} (h : CanM l s xs) (hu : cnS most l s = (v, s'))
    (hlen : ∀ id ns nx mk cl segs prods ys, manR id ns nx mk cl segs prods = true → numsM id ns nx mk cl segs prods = xs ++ ys → ∃ y zs, ys = y :: zs ∧ y ≤ most) : CanM l s' (xs ++ [(v : Int)]) := by
  intro id ns nx mk cl segs prods hr hl
  have h1 := h.next (s' := (nxS l s).2) (v := (nxS l s).1) rfl (fun id ns nx mk cl segs prods ys h1 h2 => by
    obtain ⟨y, zs, rfl, _⟩ := hlen id ns nx mk cl segs prods ys h1 h2
    exact List.cons_ne_nil _ _)
  obtain ⟨a1, ys, a2, a3⟩ := h1 id ns nx mk cl segs prods hr hl
  have hle : (nxS l s).1 ≤ most := by
    obtain ⟨y, zs, b1, b2⟩ := hlen id ns nx mk cl segs prods _ hr (by rw [a2, List.append_assoc])
    simp only [List.cons_append, List.nil_append, List.cons.injEq] at b1
    omega
  unfold cnS at hu
  rw [if_pos hle] at hu
  have e1 : (nxS l s).1 = v := by rw [hu]
  have e2 : (nxS l s).2 = s' := by rw [hu]
  rw [e1] at a2
  rw [e2] at a1 a3
  exact ⟨a1, ys, a2, a3⟩
/-- The end: what was read is a manifest. -/
theorem man_end {l : List UInt8} {s : RSt} {id ns nx mk cl : Int} {segs : List Int} {prods : List P3} (hc : ConM l s (numsM id ns nx mk cl segs prods)) (hf : s.fl = false) (ha : s.at_ = l.length) (hr : manR id ns nx mk cl segs prods = true) :
    encM id ns nx mk cl segs prods = wrapB 179 l := by
  have h := hc hf
  rw [ha, List.take_length] at h
  rw [encM, if_pos hr, bodyM_nums, ← h]
theorem wrapB_inj {mark : UInt8} {a b : List UInt8} (h : wrapB mark a = wrapB mark b) : a = b := by
  have := congrArg (List.drop 9) h
  exact this
theorem man_only {l : List UInt8} {s : RSt} {id ns nx mk cl id' ns' nx' mk' cl' : Int} {segs segs' : List Int} {prods prods' : List P3} (hc : CanM l s (numsM id ns nx mk cl segs prods)) (hle : s.at_ ≤ l.length) (hr : manR id' ns' nx' mk' cl' segs' prods' = true)
    (he : encM id' ns' nx' mk' cl' segs' prods' = wrapB 179 l) : (id' = id ∧ ns' = ns ∧ nx' = nx ∧ mk' = mk ∧ cl' = cl ∧ segs' = segs ∧ prods' = prods) ∧ s.fl = false ∧ s.at_ = l.length := by
  rw [encM, if_pos hr] at he
  obtain ⟨hf, ys, h1, h2⟩ := hc id' ns' nx' mk' cl' segs' prods' hr (wrapB_inj he).symm
  obtain ⟨e1, e2, e3, e4, e5, e6, e7, e8⟩ := numsM_inj h1
  subst e8
  refine ⟨⟨e1, e2, e3, e4, e5, e6, e7⟩, hf, ?_⟩
  have := congrArg List.length h2
  simp at this
  omega
end Go.Proofs.Ytjgdjfmgkmegfaa
