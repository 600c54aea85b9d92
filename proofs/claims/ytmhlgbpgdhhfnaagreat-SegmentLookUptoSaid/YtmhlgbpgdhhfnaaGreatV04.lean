import Derived.Test.YtmhlgbpgdhhfnaaGreatV03
set_option linter.unusedVariables false
set_option linter.unusedSimpArgs false
/- Squeeze, no program in sight: the longest and nearest match found through a chain of places of like beginnings is the one found by trying every distance. -/
namespace Go.Proofs.YtmhlgbpgdhhfnaaGreat
namespace Sqz

/-- How many bytes at the place i are those at the place p, from the n-th on; at most so many more. -/
def lcp (t : List UInt8) (p i : Nat) : Nat → Nat → Nat
  | 0, n => n
  | f + 1, n => if i + n < t.length ∧ t[p + n]? = t[i + n]? then lcp t p i f (n + 1) else n
theorem lcp_le (t : List UInt8) (p i : Nat) : ∀ f n, lcp t p i f n ≤ n + f
  | 0, n => Nat.le_refl _
  | f + 1, n => by
    unfold lcp
    split
    · have := lcp_le t p i f (n + 1)
      omega
    omega
theorem lcp_in (t : List UInt8) (p i : Nat) : ∀ f n, i + n ≤ t.length → i + lcp t p i f n ≤ t.length
  | 0, n, h => h
  | f + 1, n, h => by
    unfold lcp
    split
    · rename_i hc
      exact lcp_in t p i f (n + 1) (by omega)
    exact h
theorem lcp_eq (t : List UInt8) (p i : Nat) : ∀ f n k, n ≤ k → k < lcp t p i f n → t[p + k]? = t[i + k]?
  | 0, n, k, h1, h2 => by unfold lcp at h2; omega
  | f + 1, n, k, h1, h2 => by
    unfold lcp at h2
    split at h2
    · rename_i hc
      rcases Nat.lt_or_ge n k with h | h
      · exact lcp_eq t p i f (n + 1) k (by omega) h2
      have : k = n := by omega
      rw [this]
      exact hc.2
    omega
/-- The length of the match at the place i with the place p. -/
def al (t : List UInt8) (p i : Nat) : Nat := lcp t p i 258 0
theorem al_le (t : List UInt8) (p i : Nat) : al t p i ≤ 258 := by have := lcp_le t p i 258 0; unfold al; omega
theorem al_in (t : List UInt8) (p i : Nat) (h : i ≤ t.length) : i + al t p i ≤ t.length := lcp_in t p i 258 0 h
theorem al_eq (t : List UInt8) (p i : Nat) {k : Nat} (h : k < al t p i) : t[p + k]? = t[i + k]? := lcp_eq t p i 258 0 k (Nat.zero_le _) h

/-- What is the best match at i: d0 is the nearest distance of the longest one. -/
structure Best (t : List UInt8) (i m d : Nat) : Prop where
  low : 1 ≤ d
  win : d ≤ 2048
  back : d ≤ i
  len : al t (i - d) i = m
  all : ∀ e, 1 ≤ e → e ≤ i → e ≤ 2048 → al t (i - e) i ≤ m
  near : ∀ e, 1 ≤ e → e < d → al t (i - e) i < m
theorem Best.one {t : List UInt8} {i m d m2 d2 : Nat} (h : Best t i m d) (k : Best t i m2 d2) : m = m2 ∧ d = d2 := by
  have h1 := k.all d h.low h.back h.win
  have h2 := h.all d2 k.low k.back k.win
  rw [h.len] at h1
  rw [k.len] at h2
  have hm : m = m2 := by omega
  subst hm
  refine ⟨rfl, ?_⟩
  rcases Nat.lt_trichotomy d d2 with h3 | h3 | h3
  · have := k.near d h.low h3
    rw [h.len] at this
    omega
  · exact h3
  have := h.near d2 k.low h3
  rw [k.len] at this
  omega

/-- Every distance is tried, the nearest first. -/
def tryD (t : List UInt8) (i : Nat) : Nat → Nat → Nat × Nat → Nat × Nat
  | 0, _, b => b
  | f + 1, d, b => if d ≤ i ∧ d ≤ 2048 then
      let c := if b.1 < al t (i - d) i then (al t (i - d) i, d) else b
      if c.1 = 258 ∨ i + c.1 = t.length then c else tryD t i f (d + 1) c
    else b
/-- So far, up to the distance d (not it itself). -/
def Sofar (t : List UInt8) (i d : Nat) (b : Nat × Nat) : Prop := (b = (0, 0) ∧ ∀ e, 1 ≤ e → e < d → al t (i - e) i = 0) ∨
  (0 < b.1 ∧ 1 ≤ b.2 ∧ b.2 < d ∧ b.2 ≤ i ∧ b.2 ≤ 2048 ∧ al t (i - b.2) i = b.1 ∧ (∀ e, 1 ≤ e → e < d → al t (i - e) i ≤ b.1) ∧ ∀ e, 1 ≤ e → e < b.2 → al t (i - e) i < b.1)
theorem sofar_step {t : List UInt8} {i d : Nat} {b : Nat × Nat} (h : Sofar t i d b) (h1 : 1 ≤ d) (hi : d ≤ i) (hw : d ≤ 2048) : Sofar t i (d + 1) (if b.1 < al t (i - d) i then (al t (i - d) i, d) else b) := by
  by_cases hc : b.1 < al t (i - d) i
  · rw [if_pos hc]
    refine .inr ⟨by show 0 < al t (i - d) i; omega, h1, Nat.lt_succ_self _, hi, hw, rfl, fun e he hed => ?_, fun e he hed => ?_⟩
    · show al t (i - e) i ≤ al t (i - d) i
      rcases Nat.lt_or_ge e d with h2 | h2
      · rcases h with ⟨rfl, h⟩ | h
        · rw [h e he h2]; exact Nat.zero_le _
        have := h.2.2.2.2.2.2.1 e he h2
        omega
      have : e = d := by omega
      rw [this]; exact Nat.le_refl _
    have hed' : e < d := hed
    show al t (i - e) i < al t (i - d) i
    rcases h with ⟨rfl, h⟩ | h
    · rw [h e he hed']; exact hc
    have := h.2.2.2.2.2.2.1 e he hed'
    omega
  rw [if_neg hc]
  rcases h with ⟨rfl, h⟩ | ⟨a1, a2, a3, a4, a5, a6, a7, a8⟩
  · refine .inl ⟨rfl, fun e he hed => ?_⟩
    rcases Nat.lt_or_ge e d with h2 | h2
    · exact h e he h2
    have : e = d := by omega
    rw [this]
    have hc' : ¬ 0 < al t (i - d) i := hc
    omega
  refine .inr ⟨a1, a2, by omega, a4, a5, a6, fun e he hed => ?_, a8⟩
  rcases Nat.lt_or_ge e d with h2 | h2
  · exact a7 e he h2
  have : e = d := by omega
  rw [this]; omega
theorem sofar_end {t : List UInt8} {i d : Nat} {b : Nat × Nat} (h : Sofar t i d b) (hd : ¬ (d ≤ i ∧ d ≤ 2048)) : (b.1 = 0 ∧ ∀ e, 1 ≤ e → e ≤ i → e ≤ 2048 → al t (i - e) i = 0) ∨ Best t i b.1 b.2 := by
  rcases h with ⟨rfl, h⟩ | ⟨a1, a2, a3, a4, a5, a6, a7, a8⟩
  · exact .inl ⟨rfl, fun e h1 h2 h3 => h e h1 (by omega)⟩
  exact .inr ⟨a2, a5, a4, a6, fun e h1 h2 h3 => a7 e h1 (by omega), a8⟩
theorem sofar_full {t : List UInt8} {i d : Nat} {b : Nat × Nat} (h : Sofar t i d b) (hit : i ≤ t.length) (hf : b.1 = 258 ∨ i + b.1 = t.length) : (b.1 = 0 ∧ ∀ e, 1 ≤ e → e ≤ i → e ≤ 2048 → al t (i - e) i = 0) ∨ Best t i b.1 b.2 := by
  rcases h with ⟨rfl, h⟩ | ⟨a1, a2, a3, a4, a5, a6, a7, a8⟩
  · refine .inl ⟨rfl, fun e h1 h2 h3 => ?_⟩
    have h4 := al_in t (i - e) i hit
    rcases hf with hf | hf
    · cases hf
    simp only [Nat.add_zero] at hf
    omega
  refine .inr ⟨a2, a5, a4, a6, fun e h1 h2 h3 => ?_, a8⟩
  have h4 := al_in t (i - e) i hit
  have h5 := al_le t (i - e) i
  rcases hf with hf | hf <;> omega
theorem tryD_spec (t : List UInt8) (i : Nat) (hit : i ≤ t.length) : ∀ (f d : Nat) (b : Nat × Nat), 2049 ≤ d + f → 1 ≤ d → Sofar t i d b → ((tryD t i f d b).1 = 0 ∧ ∀ e, 1 ≤ e → e ≤ i → e ≤ 2048 → al t (i - e) i = 0) ∨ Best t i (tryD t i f d b).1 (tryD t i f d b).2
  | 0, d, b, hf, h1, h => by
    unfold tryD
    exact sofar_end h (by omega)
  | f + 1, d, b, hf, h1, h => by
    unfold tryD
    split
    · rename_i hd
      have hs := sofar_step h h1 hd.1 hd.2
      simp only
      generalize (if b.1 < al t (i - d) i then (al t (i - d) i, d) else b) = c at hs ⊢
      split
      · rename_i hfull
        exact sofar_full hs hit hfull
      exact tryD_spec t i hit f (d + 1) c (by omega) (by omega) hs
    rename_i hd
    exact sofar_end h hd
/-- The document's best match: length and distance; 0: there is none. -/
def bestR (t : List UInt8) (i : Nat) : Nat × Nat := if (tryD t i 2048 1 (0, 0)).1 < 5 then (0, 0) else tryD t i 2048 1 (0, 0)
theorem bestR_spec (t : List UInt8) (i : Nat) (hit : i ≤ t.length) : (bestR t i = (0, 0) ∧ ∀ e, 1 ≤ e → e ≤ i → e ≤ 2048 → al t (i - e) i < 5) ∨ (5 ≤ (bestR t i).1 ∧ Best t i (bestR t i).1 (bestR t i).2) := by
  have h := tryD_spec t i hit 2048 1 (0, 0) (by omega) (by omega) (.inl ⟨rfl, fun e h1 h2 => by omega⟩)
  unfold bestR
  split
  · rename_i hc
    refine .inl ⟨rfl, fun e h1 h2 h3 => ?_⟩
    rcases h with ⟨h4, h5⟩ | h
    · rw [h5 e h1 h2 h3]; omega
    have := h.all e h1 h2 h3
    omega
  rename_i hc
  rcases h with ⟨h4, h5⟩ | h
  · omega
  exact .inr ⟨by omega, h⟩

/-- A chain of places is gone through, the nearest first. -/
def tryC (t : List UInt8) (i : Nat) : List Nat → Nat × Nat → Nat × Nat
  | [], b => b
  | p :: ps, b => if 2048 < i - p then b else
      if al t p i < 5 ∨ al t p i ≤ b.1 then tryC t i ps b else if al t p i = 258 then (258, i - p) else tryC t i ps (al t p i, i - p)
/-- The chain: all places ahead of i whose five bytes are like those at i, falling; others may be among them. -/
structure Chain (t : List UInt8) (i : Nat) (c : List Nat) : Prop where
  fall : c.Pairwise (fun a b => b < a)
  low : ∀ p ∈ c, p < i
  all : ∀ p, p < i → 5 ≤ al t p i → p ∈ c
/-- So far: what is not in the rest of the chain and lies within the window is no better. -/
def SofarC (t : List UInt8) (i : Nat) (c : List Nat) (b : Nat × Nat) : Prop :=
  (b = (0, 0) ∧ ∀ e, 1 ≤ e → e ≤ i → e ≤ 2048 → i - e ∉ c → al t (i - e) i < 5) ∨
  (5 ≤ b.1 ∧ 1 ≤ b.2 ∧ b.2 ≤ i ∧ b.2 ≤ 2048 ∧ al t (i - b.2) i = b.1 ∧ (∀ e, 1 ≤ e → e ≤ i → e ≤ 2048 → i - e ∉ c → al t (i - e) i ≤ b.1) ∧ (∀ e, 1 ≤ e → e < b.2 → al t (i - e) i < b.1) ∧ ∀ p ∈ c, p < i - b.2)
theorem tryC_spec (t : List UInt8) (i : Nat) : ∀ (c : List Nat) (b : Nat × Nat), c.Pairwise (fun a b => b < a) → (∀ p ∈ c, p < i) → SofarC t i c b →
    (tryC t i c b = (0, 0) ∧ ∀ e, 1 ≤ e → e ≤ i → e ≤ 2048 → al t (i - e) i < 5) ∨ (5 ≤ (tryC t i c b).1 ∧ Best t i (tryC t i c b).1 (tryC t i c b).2)
  | [], b, _, _, h => by
    unfold tryC
    rcases h with ⟨rfl, h⟩ | ⟨a1, a2, a3, a4, a5, a6, a7, _⟩
    · exact .inl ⟨rfl, fun e h1 h2 h3 => h e h1 h2 h3 (by simp)⟩
    exact .inr ⟨a1, a2, a4, a3, a5, fun e h1 h2 h3 => a6 e h1 h2 h3 (by simp), a7⟩
  | p :: ps, b, hf, hl, h => by
    obtain ⟨hf1, hf2⟩ := List.pairwise_cons.1 hf
    have hpi : p < i := hl p (by simp)
    have hl2 : ∀ q ∈ ps, q < i := fun q hq => hl q (by simp [hq])
    unfold tryC
    split
    · rename_i hw
      have hout : ∀ e, e ≤ 2048 → i - e ∉ p :: ps := fun e he hm => by
        rcases List.mem_cons.1 hm with hm | hm
        · omega
        have := hf1 _ hm
        omega
      rcases h with ⟨rfl, h⟩ | ⟨a1, a2, a3, a4, a5, a6, a7, _⟩
      · exact .inl ⟨rfl, fun e h1 h2 h3 => h e h1 h2 h3 (hout e h3)⟩
      exact .inr ⟨a1, a2, a4, a3, a5, fun e h1 h2 h3 => a6 e h1 h2 h3 (hout e h3), a7⟩
    rename_i hw
    have hd1 : 1 ≤ i - p := by omega
    have hip : i - (i - p) = p := by omega
    split
    · rename_i hc
      refine tryC_spec t i ps b hf2 hl2 ?_
      rcases h with ⟨rfl, h⟩ | ⟨a1, a2, a3, a4, a5, a6, a7, a8⟩
      · refine .inl ⟨rfl, fun e h1 h2 h3 h4 => ?_⟩
        by_cases he : i - e = p
        · rw [he]
          rcases hc with hc | hc
          · exact hc
          have hc' : al t p i ≤ 0 := hc
          omega
        exact h e h1 h2 h3 (by simp [he, h4])
      refine .inr ⟨a1, a2, a3, a4, a5, fun e h1 h2 h3 h4 => ?_, a7, fun q hq => a8 q (by simp [hq])⟩
      by_cases he : i - e = p
      · rw [he]
        rcases hc with hc | hc <;> omega
      exact a6 e h1 h2 h3 (by simp [he, h4])
    rename_i hc
    have hc1 : 5 ≤ al t p i := by omega
    have hc2 : b.1 < al t p i := by omega
    have hall : ∀ e, 1 ≤ e → e ≤ i → e ≤ 2048 → i - e ∉ ps → al t (i - e) i ≤ al t p i := fun e h1 h2 h3 h4 => by
      by_cases he : i - e = p
      · rw [he]; exact Nat.le_refl _
      have hn : i - e ∉ p :: ps := by simp [he, h4]
      rcases h with ⟨rfl, h⟩ | h
      · have := h e h1 h2 h3 hn
        omega
      have := h.2.2.2.2.2.1 e h1 h2 h3 hn
      omega
    have hnear : ∀ e, 1 ≤ e → e < i - p → al t (i - e) i < al t p i := fun e h1 h2 => by
      have hn : i - e ∉ p :: ps := fun hm => by
        rcases List.mem_cons.1 hm with hm | hm
        · omega
        have := hf1 _ hm
        omega
      rcases h with ⟨rfl, h⟩ | h
      · have := h e h1 (by omega) (by omega) hn
        omega
      have := h.2.2.2.2.2.1 e h1 (by omega) (by omega) hn
      omega
    split
    · rename_i h258
      refine .inr ⟨by omega, hd1, by omega, by omega, by rw [hip]; exact h258, fun e h1 h2 h3 => ?_, fun e h1 h2 => ?_⟩
      · exact al_le t (i - e) i
      have := hnear e h1 h2
      omega
    refine tryC_spec t i ps (al t p i, i - p) hf2 hl2 (.inr ⟨hc1, hd1, by omega, by omega, by rw [hip], hall, hnear, fun q hq => ?_⟩)
    show q < i - (i - p)
    rw [hip]
    exact hf1 q hq
/-- Both ways find the same match. -/
theorem best_same (t : List UInt8) (i : Nat) (hit : i ≤ t.length) (c : List Nat) (hc : Chain t i c) : tryC t i c (0, 0) = bestR t i := by
  have h1 := tryC_spec t i c (0, 0) hc.fall hc.low (.inl ⟨rfl, fun e h1 h2 h3 h4 => Nat.lt_of_not_le fun h5 => h4 (hc.all _ (by omega) h5)⟩)
  have h2 := bestR_spec t i hit
  rcases h1 with ⟨e1, h1⟩ | ⟨g1, b1⟩ <;> rcases h2 with ⟨e2, h2⟩ | ⟨g2, b2⟩
  · rw [e1, e2]
  · have := h1 _ b2.low b2.back b2.win
    rw [b2.len] at this
    omega
  · have := h2 _ b1.low b1.back b1.win
    rw [b1.len] at this
    omega
  obtain ⟨e1, e2⟩ := b1.one b2
  exact Prod.ext e1 e2
end Sqz
end Go.Proofs.YtmhlgbpgdhhfnaaGreat
/- Squeeze: the pieces of a text, and that they make the text again. -/
namespace Go.Proofs.YtmhlgbpgdhhfnaaGreat
namespace Sqz

structure Tok where
  lit : List UInt8
  dist : Nat
  len : Nat
deriving DecidableEq
/-- The bytes from b on, up to a, are a piece of their own, if there are any. -/
def flush (t : List UInt8) (b a : Nat) (ts : List Tok) : List Tok := if b < a then ts ++ [⟨(t.take a).drop b, 0, 0⟩] else ts
/-- The pieces, from the place a on; b is where the bytes begin that are gathered. -/
def toksF (t : List UInt8) : Nat → Nat → Nat → List Tok → List Tok
  | 0, a, b, ts => flush t b a ts
  | f + 1, a, b, ts => if a < t.length then
      if (bestR t a).1 = 0 then toksF t f (a + 1) b ts else toksF t f (a + (bestR t a).1) (a + (bestR t a).1) (flush t b a ts ++ [⟨[], (bestR t a).2, (bestR t a).1⟩])
    else flush t b a ts
def toks (t : List UInt8) : List Tok := toksF t t.length 0 0 []
theorem toksF_end {t : List UInt8} {a : Nat} (h : ¬ a < t.length) : ∀ (f b : Nat) (ts : List Tok), toksF t f a b ts = flush t b a ts
  | 0, _, _ => rfl
  | f + 1, b, ts => by unfold toksF; rw [if_neg h]
/-- More rounds than are needed change nothing. -/
theorem toksF_more (t : List UInt8) : ∀ (f g a b : Nat) (ts : List Tok), t.length ≤ a + f → f ≤ g → toksF t g a b ts = toksF t f a b ts
  | 0, g, a, b, ts, h, _ => by rw [toksF_end (by omega), toksF_end (by omega)]
  | f + 1, g, a, b, ts, h, hg => by
    obtain ⟨g', rfl⟩ : ∃ g', g = g' + 1 := ⟨g - 1, by omega⟩
    unfold toksF
    split
    · split
      · exact toksF_more t f g' _ b ts (by omega) (by omega)
      exact toksF_more t f g' _ _ _ (by omega) (by omega)
    rfl
/-- The rest of the pieces, whatever the number of rounds. -/
def rest (t : List UInt8) (a b : Nat) (ts : List Tok) : List Tok := toksF t t.length a b ts
theorem rest_none {t : List UInt8} {a b : Nat} {ts : List Tok} (h : a < t.length) (hb : (bestR t a).1 = 0) : rest t a b ts = rest t (a + 1) b ts := by
  unfold rest
  obtain ⟨f, hf⟩ : ∃ f, t.length = f + 1 := ⟨t.length - 1, by omega⟩
  rw [toksF_more t f t.length (a + 1) b ts (by omega) (by omega)]
  rw [hf]
  conv => lhs; unfold toksF
  rw [if_pos h, if_pos hb]
theorem rest_some {t : List UInt8} {a b : Nat} {ts : List Tok} (h : a < t.length) (hb : ¬ (bestR t a).1 = 0) : rest t a b ts = rest t (a + (bestR t a).1) (a + (bestR t a).1) (flush t b a ts ++ [⟨[], (bestR t a).2, (bestR t a).1⟩]) := by
  unfold rest
  obtain ⟨f, hf⟩ : ∃ f, t.length = f + 1 := ⟨t.length - 1, by omega⟩
  rw [toksF_more t f t.length (a + (bestR t a).1) _ _ (by omega) (by omega)]
  rw [hf]
  conv => lhs; unfold toksF
  rw [if_pos h, if_neg hb]
theorem rest_end {t : List UInt8} {a b : Nat} {ts : List Tok} (h : ¬ a < t.length) : rest t a b ts = flush t b a ts := toksF_end h _ _ _

/-- A match of n bytes at the distance d, byte by byte. -/
def addT (d : Nat) : Nat → List UInt8 → List UInt8
  | 0, x => x
  | n + 1, x => addT d n (x ++ [x.getD (x.length - d) 0])
theorem addT_len (d : Nat) : ∀ (n : Nat) (x : List UInt8), (addT d n x).length = x.length + n
  | 0, x => rfl
  | n + 1, x => by unfold addT; rw [addT_len d n]; simp; omega
/-- Which piece may stand behind n bytes. -/
def rightT (k : Tok) (n : Nat) : Bool := if k.lit = [] then decide (5 ≤ k.len ∧ k.len ≤ 258 ∧ 1 ≤ k.dist ∧ k.dist ≤ 2048 ∧ k.dist ≤ n) else decide (k.dist = 0 ∧ k.len = 0)
def expandL : List Tok → List UInt8 → Option (List UInt8)
  | [], x => some x
  | k :: ks, x => if rightT k x.length = true then (if 4096 < x.length + k.lit.length + k.len then none else expandL ks (addT k.dist k.len (x ++ k.lit))) else none
theorem expandL_app : ∀ (a b : List Tok) (x : List UInt8), expandL (a ++ b) x = (expandL a x).bind (expandL b)
  | [], b, x => rfl
  | k :: a, b, x => by
    simp only [List.cons_append, expandL]
    split
    · split
      · rfl
      exact expandL_app a b _
    rfl
theorem take_next {t : List UInt8} {a : Nat} (h : a < t.length) : t.take (a + 1) = t.take a ++ [t[a]] := List.take_succ_eq_append_getElem h
/-- A match that is one makes the text go on. -/
theorem addT_take (t : List UInt8) (d : Nat) (hd : 1 ≤ d) : ∀ (n a : Nat), d ≤ a → a + n ≤ t.length → (∀ k, k < n → t[a - d + k]? = t[a + k]?) → addT d n (t.take a) = t.take (a + n)
  | 0, a, _, _, _ => rfl
  | n + 1, a, hda, hl, hk => by
    have h0 := hk 0 (by omega)
    have ha : a < t.length := by omega
    have e : (t.take a).getD ((t.take a).length - d) 0 = t[a] := by
      rw [List.length_take, Nat.min_eq_left (by omega), List.getD_eq_getElem?_getD, List.getElem?_take, if_pos (by omega)]
      simp only [Nat.add_zero] at h0
      rw [h0, List.getElem?_eq_getElem ha]
      rfl
    unfold addT
    rw [e, ← take_next ha, addT_take t d hd n (a + 1) (by omega) (by omega) fun k hkn => ?_]
    · congr 1; omega
    have := hk (k + 1) (by omega)
    rw [show a + 1 - d + k = a - d + (k + 1) by omega, show a + 1 + k = a + (k + 1) by omega]
    exact this
/-- The pieces so far make the first part of the text. -/
def Made (t : List UInt8) (b : Nat) (ts : List Tok) : Prop := expandL ts [] = some (t.take b)
theorem made_flush {t : List UInt8} {a b : Nat} {ts : List Tok} (h : Made t b ts) (hba : b ≤ a) (ha : a ≤ t.length) (hm : t.length ≤ 4096) : Made t a (flush t b a ts) := by
  unfold flush
  split
  · rename_i hlt
    unfold Made at h ⊢
    have hne : (t.take a).drop b ≠ [] := fun e => by
      have := congrArg List.length e
      simp only [List.length_drop, List.length_take, List.length_nil] at this
      omega
    have hj : t.take b ++ (t.take a).drop b = t.take a := by
      have : t.take b = (t.take a).take b := by rw [List.take_take, Nat.min_eq_left hba]
      rw [this, List.take_append_drop]
    rw [expandL_app, h]
    simp only [Option.bind_some, expandL]
    rw [if_pos (by unfold rightT; rw [if_neg hne]; rfl), if_neg (by simp only [List.length_take, List.length_drop]; omega)]
    simp only [addT, hj]
  rename_i hlt
  have : a = b := by omega
  rw [this]; exact h
theorem made_match {t : List UInt8} {a : Nat} {ts : List Tok} (h : Made t a ts) (ha : a < t.length) (hm : t.length ≤ 4096) (hb : ¬ (bestR t a).1 = 0) : a + (bestR t a).1 ≤ t.length ∧ Made t (a + (bestR t a).1) (ts ++ [⟨[], (bestR t a).2, (bestR t a).1⟩]) := by
  rcases bestR_spec t a (by omega) with ⟨e, _⟩ | ⟨h5, hB⟩
  · rw [e] at hb; exact absurd rfl hb
  generalize bestR t a = m at h5 hB hb ⊢
  have hin := al_in t (a - m.2) a (by omega)
  have hle := al_le t (a - m.2) a
  rw [hB.len] at hin hle
  have h1 := hB.low
  have h2 := hB.back
  have h3 := hB.win
  refine ⟨hin, ?_⟩
  unfold Made at h ⊢
  have hl : (t.take a).length = a := by rw [List.length_take]; omega
  rw [expandL_app, h]
  simp only [Option.bind_some, expandL]
  rw [if_pos (by unfold rightT; rw [if_pos rfl, hl]; exact decide_eq_true ⟨h5, hle, h1, h3, h2⟩), if_neg (by rw [hl]; simp; omega)]
  rw [List.append_nil, addT_take t m.2 h1 m.1 a h2 hin fun k hk => ?_]
  exact al_eq t (a - m.2) a (by rw [hB.len]; exact hk)
theorem rest_made (t : List UInt8) (hm : t.length ≤ 4096) : ∀ (n a b : Nat) (ts : List Tok), t.length - a ≤ n → b ≤ a → a ≤ t.length → Made t b ts → Made t t.length (rest t a b ts)
  | 0, a, b, ts, hn, hba, ha, h => by
    have : a = t.length := by omega
    rw [rest_end (by omega)]
    have := made_flush h hba ha hm
    rwa [‹a = t.length›] at this ⊢
  | n + 1, a, b, ts, hn, hba, ha, h => by
    by_cases hlt : a < t.length
    · by_cases hb : (bestR t a).1 = 0
      · rw [rest_none hlt hb]
        exact rest_made t hm n (a + 1) b ts (by omega) (by omega) (by omega) h
      rw [rest_some hlt hb]
      obtain ⟨h1, h2⟩ := made_match (made_flush h hba ha hm) hlt hm hb
      exact rest_made t hm n _ _ _ (by omega) (Nat.le_refl _) h1 h2
    have he : a = t.length := by omega
    rw [rest_end hlt]
    have := made_flush h hba ha hm
    rwa [he] at this ⊢
/-- The pieces of a text make it again. -/
theorem expand_toks (t : List UInt8) (hm : t.length ≤ 4096) : expandL (toks t) [] = some t := by
  have := rest_made t hm t.length 0 0 [] (by omega) (Nat.le_refl _) (Nat.zero_le _) rfl
  unfold Made at this
  rw [List.take_length] at this
  exact this
end Sqz
end Go.Proofs.YtmhlgbpgdhhfnaaGreat
/- Squeeze: a block, written and read, by the program and by the document: both read just what would be written again. -/
namespace Go.Proofs.YtmhlgbpgdhhfnaaGreat
namespace Sqz
theorem rdU_inv : ∀ (t : List UInt8) (i v k : Nat), i ≤ 9 → rdU i t = some (v, k) → t.take k = uvarF (10 - i) v ∧ (0 < i → 0 < v)
  | [], _, _, _, _, h => by cases h
  | c :: r, i, v, k, hi, h => by
    have hc := c.toNat_lt
    rw [rdU] at h
    split at h
    · cases h
    rename_i h1
    split at h
    · cases h
    rename_i h2
    have e10 : 10 - i = (9 - i) + 1 := by omega
    split at h
    · rename_i h3
      cases h
      refine ⟨?_, fun h0 => by omega⟩
      rw [e10, uvarF, if_pos h3]
      simp
    rename_i h3
    rcases hh : rdU (i + 1) r with _ | ⟨v', k'⟩
    · rw [hh] at h; cases h
    rw [hh] at h
    simp only [Option.map_some, Option.some.injEq, Prod.mk.injEq] at h
    obtain ⟨rfl, rfl⟩ := h
    have hi9 : i ≠ 9 := fun e => by
      have : c.toNat = 1 := Classical.byContradiction fun hn => h1 ⟨e, hn⟩
      omega
    obtain ⟨g1, g2⟩ := rdU_inv r (i + 1) v' k' (by omega) hh
    have hv' := g2 (by omega)
    refine ⟨?_, fun _ => by omega⟩
    rw [e10, uvarF, if_neg (by omega), List.take_succ_cons, g1]
    rw [show 10 - (i + 1) = 9 - i by omega, show (c.toNat % 128 + 128 * v') / 128 = v' by omega, show (c.toNat % 128 + 128 * v') % 128 + 128 = c.toNat by omega]
    simp
theorem rdE_inv {t : List UInt8} {v k : Nat} (h : rdE t = some (v, k)) : t.take k = uvar v := (rdU_inv t 0 v k (by omega) h).1


def tokB (k : Tok) : List UInt8 := if k.lit = [] then uvar (2 * k.len + 1) ++ uvar k.dist else uvar (2 * k.lit.length) ++ k.lit
def blockB (n : Nat) (ts : List Tok) : List UInt8 := uvar n ++ ts.flatMap tokB
/-- The block of a text. -/
def enc (t : List UInt8) : List UInt8 := blockB t.length (toks t)

/-- The program's Read, behind the first number: fuel, rest, the text's size, what is there so far. -/
def goP : Nat → List UInt8 → Nat → Nat → List Tok → Option (List Tok)
  | 0, _, _, _, _ => none
  | f + 1, l, n, size, ts => if l = [] then (if size = n then some ts else none) else
      match rdE l with
      | none => none
      | some (u, k) => if 4096 < u / 2 then none else
        if u % 2 = 0 then
          if u / 2 ≤ (l.drop k).length ∧ 0 < u / 2 then (if n < size + u / 2 then none else goP f ((l.drop k).drop (u / 2)) n (size + u / 2) (ts ++ [⟨(l.drop k).take (u / 2), 0, 0⟩])) else none
        else match rdE (l.drop k) with
          | none => none
          | some (d, k2) => if d ≤ 2048 ∧ rightT ⟨[], d, u / 2⟩ size = true then (if n < size + u / 2 then none else goP f ((l.drop k).drop k2) n (size + u / 2) (ts ++ [⟨[], d, u / 2⟩])) else none
def readP (b : List UInt8) : Option (List Tok) := match rdE b with
  | none => none
  | some (n, k) => if 4096 < n then none else goP (b.length + 1) (b.drop k) n 0 []
def textP (ts : List Tok) : List UInt8 := (expandL ts []).getD []
def decP (b : List UInt8) : Option (List UInt8) := match readP b with
  | none => none
  | some ts => if enc (textP ts) = b then some (textP ts) else none

theorem expandL_le : ∀ (ts : List Tok) (x y : List UInt8), x.length ≤ 4096 → expandL ts x = some y → y.length ≤ 4096
  | [], x, y, hx, h => by cases h; exact hx
  | k :: ts, x, y, hx, h => by
    unfold expandL at h
    split at h
    · split at h
      · cases h
      rename_i hl
      exact expandL_le ts _ y (by rw [addT_len]; simp; omega) h
    cases h
theorem textP_le (ts : List Tok) : (textP ts).length ≤ 4096 := by
  unfold textP
  cases h : expandL ts [] with
  | none => simp
  | some y => exact expandL_le ts [] y (by simp) h
theorem expandL_grow : ∀ (ts : List Tok) (x y : List UInt8), expandL ts x = some y → x.length ≤ y.length
  | [], x, y, h => by cases h; exact Nat.le_refl _
  | k :: ts, x, y, h => by
    unfold expandL at h
    split at h
    · split at h
      · cases h
      have := expandL_grow ts _ y h
      rw [addT_len] at this
      simp at this
      omega
    cases h
theorem drop_len {α : Type} (a r : List α) : (a ++ r).drop a.length = r := List.drop_left
theorem uvar_ne (n : Nat) (r : List UInt8) : uvar n ++ r ≠ [] := fun he => by
  have h1 := congrArg List.length he
  have h2 := uvar_pos n
  rw [List.length_append, List.length_nil] at h1
  omega
/-- What was written is read. -/
theorem goP_toks : ∀ (ks : List Tok) (f : Nat) (x y : List UInt8) (ts : List Tok), ks.length < f → y.length ≤ 4096 → expandL ks x = some y → goP f (ks.flatMap tokB) y.length x.length ts = some (ts ++ ks)
  | [], f, x, y, ts, hf, hy, h => by
    cases h
    obtain ⟨f, rfl⟩ : ∃ g, f = g + 1 := ⟨f - 1, by simp at hf; omega⟩
    simp [goP]
  | k :: ks, f, x, y, ts, hf, hy, h => by
    obtain ⟨f, rfl⟩ : ∃ g, f = g + 1 := ⟨f - 1, by simp at hf; omega⟩
    unfold expandL at h
    split at h
    · rename_i hr
      split at h
      · cases h
      rename_i hl
      have hg := expandL_grow ks _ y h
      rw [addT_len] at hg
      have ih := goP_toks ks f (addT k.dist k.len (x ++ k.lit)) y (ts ++ [k]) (by simp at hf; omega) hy h
      rw [addT_len, List.append_assoc] at ih
      simp only [List.length_append] at hg ih
      obtain ⟨lit, dist, len⟩ := k
      simp only at hr hl hg ih
      by_cases hlit : lit = []
      · subst hlit
        have hrt : 5 ≤ len ∧ len ≤ 258 ∧ 1 ≤ dist ∧ dist ≤ 2048 ∧ dist ≤ x.length := by
          unfold rightT at hr
          simpa using hr
        have e : (⟨[], dist, len⟩ :: ks : List Tok).flatMap tokB = uvar (2 * len + 1) ++ (uvar dist ++ ks.flatMap tokB) := by
          simp [tokB]
        have hne : uvar (2 * len + 1) ++ (uvar dist ++ ks.flatMap tokB) ≠ [] := uvar_ne _ _
        rw [e, goP, if_neg hne, rdE_uvar _ _ (by omega)]
        simp only [drop_len]
        rw [if_neg (by omega), if_neg (by omega), rdE_uvar _ _ (by omega)]
        simp only [drop_len]
        rw [show (2 * len + 1) / 2 = len by omega, if_pos ⟨hrt.2.2.2.1, hr⟩, if_neg (by simp at hg; omega)]
        simp only [List.length_nil, Nat.add_zero] at ih
        rw [ih]
        simp
      have hrt : dist = 0 ∧ len = 0 := by
        unfold rightT at hr
        rw [if_neg hlit] at hr
        simpa using hr
      obtain ⟨rfl, rfl⟩ := hrt
      have hpos : 0 < lit.length := List.length_pos_iff.2 hlit
      have e : (⟨lit, 0, 0⟩ :: ks : List Tok).flatMap tokB = uvar (2 * lit.length) ++ (lit ++ ks.flatMap tokB) := by
        simp [tokB, hlit]
      have hne : uvar (2 * lit.length) ++ (lit ++ ks.flatMap tokB) ≠ [] := uvar_ne _ _
      rw [e, goP, if_neg hne, rdE_uvar _ _ (by omega)]
      simp only [drop_len]
      rw [show 2 * lit.length / 2 = lit.length by omega, if_neg (by omega), if_pos (by omega), if_pos ⟨by simp, hpos⟩, if_neg (by omega), List.drop_left, List.take_left]
      simp only [Nat.add_zero] at ih
      rw [ih]
      simp
    cases h
theorem tokB_pos (k : Tok) : 0 < (tokB k).length := by
  unfold tokB
  split
  · have := uvar_pos (2 * k.len + 1); simp; omega
  have := uvar_pos (2 * k.lit.length); simp; omega
theorem toksB_len : ∀ (ks : List Tok), ks.length ≤ (ks.flatMap tokB).length
  | [] => Nat.le_refl _
  | k :: ks => by
    have := toksB_len ks
    have := tokB_pos k
    simp only [List.flatMap_cons, List.length_cons, List.length_append]
    omega
theorem readP_enc (t : List UInt8) (hm : t.length ≤ 4096) : readP (enc t) = some (toks t) := by
  unfold readP enc blockB
  rw [rdE_uvar _ _ (by omega)]
  simp only [drop_len]
  rw [if_neg (by omega)]
  have := goP_toks (toks t) ((uvar t.length ++ (toks t).flatMap tokB).length + 1) [] t [] (by have := toksB_len (toks t); rw [List.length_append]; omega) hm (expand_toks t hm)
  simpa using this
/-- The program's Decode tells the one text whose block it is. -/
theorem decP_iff (b x : List UInt8) : decP b = some x ↔ x.length ≤ 4096 ∧ enc x = b := by
  constructor
  · intro h
    unfold decP at h
    split at h
    · cases h
    rename_i ts hts
    split at h
    · rename_i he
      cases h
      exact ⟨textP_le ts, he⟩
    cases h
  rintro ⟨hm, rfl⟩
  have ht : textP (toks x) = x := by unfold textP; rw [expand_toks x hm]; rfl
  unfold decP
  rw [readP_enc x hm]
  simp only [ht, if_pos]

/-- A number of at most three bytes, as the document reads it; k bytes of it were read before. -/
def nmU : Nat → Nat → List UInt8 → Option (Nat × Nat)
  | 0, _, _ => none
  | _ + 1, _, [] => none
  | f + 1, k, c :: r => if c.toNat < 128 then (if c.toNat = 0 ∧ 0 < k then none else some (c.toNat, 1)) else (nmU f (k + 1) r).map fun x => (c.toNat - 128 + 128 * x.1, x.2 + 1)
def nmE (l : List UInt8) : Option (Nat × Nat) := nmU 3 0 l
theorem nmU_uvarF : ∀ (g f k n : Nat) (r : List UInt8), n < 128 ^ f → f ≤ g → (0 < k → 0 < n) → 0 < f → nmU f k (uvarF g n ++ r) = some (n, (uvarF g n).length)
  | 0, f, k, n, r, hn, hg, hp, hf => by omega
  | g + 1, 0, k, n, r, hn, hg, hp, hf => by omega
  | g + 1, f + 1, k, n, r, hn, hg, hp, hf => by
    by_cases h : n < 128
    · have e : uvarF (g + 1) n = [UInt8.ofNat n] := by rw [uvarF, if_pos h]
      have et : (UInt8.ofNat n).toNat = n := by simp; omega
      rw [e, List.singleton_append, nmU, et, if_pos h, if_neg (by rintro ⟨h1, h2⟩; have := hp h2; omega)]
      rfl
    have e : uvarF (g + 1) n = UInt8.ofNat (n % 128 + 128) :: uvarF g (n / 128) := by rw [uvarF, if_neg h]
    have hm : n % 128 < 128 := Nat.mod_lt _ (by omega)
    have et : (UInt8.ofNat (n % 128 + 128)).toNat = n % 128 + 128 := by simp; omega
    rw [e, List.cons_append, nmU, et, if_neg (by omega)]
    have hn2 : n / 128 < 128 ^ f := by
      rw [Nat.pow_succ] at hn
      exact Nat.div_lt_of_lt_mul (by rw [Nat.mul_comm]; exact hn)
    have hf0 : 0 < f := by
      rcases Nat.eq_zero_or_pos f with h0 | h0
      · subst h0; simp at hn2; omega
      exact h0
    rw [nmU_uvarF g f (k + 1) (n / 128) r hn2 (by omega) (fun _ => by omega) hf0]
    simp only [Option.map_some, List.length_cons]
    congr 2
    omega
theorem nmE_uvar (n : Nat) (r : List UInt8) (hn : n < 2097152) : nmE (uvar n ++ r) = some (n, (uvar n).length) := nmU_uvarF 10 3 0 n r (by simpa using hn) (by omega) (by omega) (by omega)
/-- The document's Read: the pieces that the bytes tell, whether they may be or not. -/
def goR : Nat → List UInt8 → List Tok → Option (List Tok)
  | 0, _, _ => none
  | f + 1, l, ts => if l = [] then some ts else
      match nmE l with
      | none => none
      | some (h, k) => if h % 2 = 0 then
          if (l.drop k).length < h / 2 then none else goR f ((l.drop k).drop (h / 2)) (ts ++ [⟨(l.drop k).take (h / 2), 0, 0⟩])
        else match nmE (l.drop k) with
          | none => none
          | some (d, k2) => goR f ((l.drop k).drop k2) (ts ++ [⟨[], d, h / 2⟩])
def parseR (b : List UInt8) : Option (List Tok) := match nmE b with
  | none => none
  | some (_, k) => goR (b.length + 1) (b.drop k) []
/-- The document's Write. -/
def writeR (ts : List Tok) : Option (List UInt8) := (expandL ts []).map fun x => blockB x.length ts
def readR (b : List UInt8) : Option (List Tok) := match parseR b with
  | none => none
  | some ts => if writeR ts = some b then some ts else none
def decR (b : List UInt8) : Option (List UInt8) := match readR b with
  | none => none
  | some ts => if enc (textP ts) = b then some (textP ts) else none
theorem goR_toks : ∀ (ks : List Tok) (f : Nat) (x y : List UInt8) (ts : List Tok), ks.length < f → y.length ≤ 4096 → expandL ks x = some y → goR f (ks.flatMap tokB) ts = some (ts ++ ks)
  | [], f, x, y, ts, hf, hy, h => by
    obtain ⟨f, rfl⟩ : ∃ g, f = g + 1 := ⟨f - 1, by simp at hf; omega⟩
    simp [goR]
  | k :: ks, f, x, y, ts, hf, hy, h => by
    obtain ⟨f, rfl⟩ : ∃ g, f = g + 1 := ⟨f - 1, by simp at hf; omega⟩
    unfold expandL at h
    split at h
    · rename_i hr
      split at h
      · cases h
      rename_i hl
      have ih := goR_toks ks f (addT k.dist k.len (x ++ k.lit)) y (ts ++ [k]) (by simp at hf; omega) hy h
      obtain ⟨lit, dist, len⟩ := k
      simp only at hr hl ih
      by_cases hlit : lit = []
      · subst hlit
        have hrt : 5 ≤ len ∧ len ≤ 258 ∧ 1 ≤ dist ∧ dist ≤ 2048 ∧ dist ≤ x.length := by
          unfold rightT at hr
          simpa using hr
        have e : (⟨[], dist, len⟩ :: ks : List Tok).flatMap tokB = uvar (2 * len + 1) ++ (uvar dist ++ ks.flatMap tokB) := by
          simp [tokB]
        have hne : uvar (2 * len + 1) ++ (uvar dist ++ ks.flatMap tokB) ≠ [] := uvar_ne _ _
        rw [e, goR, if_neg hne, nmE_uvar _ _ (by omega)]
        simp only [drop_len]
        rw [if_neg (by omega), nmE_uvar _ _ (by omega)]
        simp only [drop_len]
        rw [show (2 * len + 1) / 2 = len by omega, ih]
        simp
      have hrt : dist = 0 ∧ len = 0 := by
        unfold rightT at hr
        rw [if_neg hlit] at hr
        simpa using hr
      obtain ⟨rfl, rfl⟩ := hrt
      have e : (⟨lit, 0, 0⟩ :: ks : List Tok).flatMap tokB = uvar (2 * lit.length) ++ (lit ++ ks.flatMap tokB) := by
        simp [tokB, hlit]
      have hne : uvar (2 * lit.length) ++ (lit ++ ks.flatMap tokB) ≠ [] := uvar_ne _ _
      rw [e, goR, if_neg hne, nmE_uvar _ _ (by omega)]
      simp only [drop_len]
      rw [show 2 * lit.length / 2 = lit.length by omega, if_pos (by omega), if_neg (by simp), List.drop_left, List.take_left, ih]
      simp
    cases h
theorem readR_enc (t : List UInt8) (hm : t.length ≤ 4096) : readR (enc t) = some (toks t) := by
  have hp : parseR (enc t) = some (toks t) := by
    unfold parseR enc blockB
    rw [nmE_uvar _ _ (by omega)]
    simp only [drop_len]
    have := goR_toks (toks t) ((uvar t.length ++ (toks t).flatMap tokB).length + 1) [] t [] (by have := toksB_len (toks t); rw [List.length_append]; omega) hm (expand_toks t hm)
    simpa using this
  unfold readR
  rw [hp]
  simp only
  rw [if_pos]
  unfold writeR
  rw [expand_toks t hm]
  rfl
theorem decR_iff (b x : List UInt8) : decR b = some x ↔ x.length ≤ 4096 ∧ enc x = b := by
  constructor
  · intro h
    unfold decR at h
    split at h
    · cases h
    rename_i ts hts
    split at h
    · rename_i he
      cases h
      exact ⟨textP_le ts, he⟩
    cases h
  rintro ⟨hm, rfl⟩
  have ht : textP (toks x) = x := by unfold textP; rw [expand_toks x hm]; rfl
  unfold decR
  rw [readR_enc x hm]
  simp only [ht, if_pos]
end Sqz
end Go.Proofs.YtmhlgbpgdhhfnaaGreat
/- Squeeze: the finder's two tables are a chain. -/
namespace Go.Proofs.YtmhlgbpgdhhfnaaGreat
namespace Sqz

/-- The number of the five bytes at a place. -/
def numb (t : List UInt8) (p : Nat) : Nat := ((t.drop p).take 5).foldl (fun n c => (n * 31 + c.toNat) % 4294967296) 0 % 1024
theorem numb_lt (t : List UInt8) (p : Nat) : numb t p < 1024 := Nat.mod_lt _ (by decide)
/-- The places ahead of a with that number, falling. -/
def Cs (t : List UInt8) : Nat → Nat → List Nat
  | 0, _ => []
  | a + 1, h => if a + 5 ≤ t.length ∧ numb t a = h then a :: Cs t a h else Cs t a h
theorem cs_mem (t : List UInt8) (h : Nat) : ∀ (a p : Nat), p ∈ Cs t a h ↔ p < a ∧ p + 5 ≤ t.length ∧ numb t p = h
  | 0, p => by simp [Cs]
  | a + 1, p => by
    unfold Cs
    split
    · rename_i hc
      rw [List.mem_cons, cs_mem t h a p]
      constructor
      · rintro (rfl | ⟨h1, h2, h3⟩)
        · exact ⟨by omega, hc.1, hc.2⟩
        exact ⟨by omega, h2, h3⟩
      rintro ⟨h1, h2, h3⟩
      rcases Nat.lt_or_ge p a with h4 | h4
      · exact .inr ⟨h4, h2, h3⟩
      exact .inl (by omega)
    rename_i hc
    rw [cs_mem t h a p]
    constructor
    · rintro ⟨h1, h2, h3⟩
      exact ⟨by omega, h2, h3⟩
    rintro ⟨h1, h2, h3⟩
    refine ⟨Nat.lt_of_not_le fun h4 => hc ?_, h2, h3⟩
    have : p = a := by omega
    subst this
    exact ⟨h2, h3⟩
theorem cs_fall (t : List UInt8) (h : Nat) : ∀ a, (Cs t a h).Pairwise (fun a b => b < a)
  | 0 => List.Pairwise.nil
  | a + 1 => by
    unfold Cs
    split
    · exact List.pairwise_cons.2 ⟨fun p hp => ((cs_mem t h a p).1 hp).1, cs_fall t h a⟩
    exact cs_fall t h a
theorem cs_tail (t : List UInt8) (h : Nat) : ∀ (a p : Nat) (tl : List Nat), Cs t a h = p :: tl → tl = Cs t p h
  | 0, p, tl, e => by cases e
  | a + 1, p, tl, e => by
    unfold Cs at e
    split at e
    · injection e with e1 e2
      rw [← e1, e2]
    exact cs_tail t h a p tl e
/-- A chain as the tables write it: the place and one more; 0: there is none. -/
def hd : List Nat → Nat
  | [] => 0
  | p :: _ => p + 1
/-- The tables, when the places ahead of a have been passed. -/
structure Find (t : List UInt8) (a : Nat) (last ahead : Nat → Nat) : Prop where
  last : ∀ h, h < 1024 → last h = hd (Cs t a h)
  ahead : ∀ p, p < a → p + 5 ≤ t.length → ahead p = hd (Cs t p (numb t p))
theorem Find.start (t : List UInt8) : Find t 0 (fun _ => 0) (fun _ => 0) := ⟨fun _ _ => rfl, fun _ h => by omega⟩
theorem Find.skip {t : List UInt8} {a : Nat} {last ahead : Nat → Nat} (h : Find t a last ahead) (hs : ¬ a + 5 ≤ t.length) : Find t (a + 1) last ahead :=
  ⟨fun k hk => by rw [h.last k hk]; unfold Cs; rw [if_neg (fun e => hs e.1)]; cases a <;> rfl, fun p hp h5 => h.ahead p (by
    rcases Nat.lt_or_ge p a with h1 | h1
    · exact h1
    omega) h5⟩
theorem Find.pass {t : List UInt8} {a : Nat} {last ahead : Nat → Nat} (h : Find t a last ahead) (hs : a + 5 ≤ t.length) :
    Find t (a + 1) (fun k => if k = numb t a then a + 1 else last k) (fun p => if p = a then last (numb t a) else ahead p) := by
  refine ⟨fun k hk => ?_, fun p hp h5 => ?_⟩
  · show (if k = numb t a then a + 1 else last k) = _
    rw [Cs]
    by_cases hk2 : k = numb t a
    · rw [if_pos hk2, if_pos ⟨hs, hk2.symm⟩]; rfl
    rw [if_neg hk2, if_neg (fun e => hk2 e.2.symm)]
    exact h.last k hk
  show (if p = a then last (numb t a) else ahead p) = _
  by_cases hpa : p = a
  · rw [if_pos hpa, hpa, h.last _ (numb_lt t a)]
  rw [if_neg hpa]
  exact h.ahead p (by omega) h5
theorem Find.next {t : List UInt8} {a q p h : Nat} {last ahead : Nat → Nat} {tl : List Nat} (hf : Find t a last ahead) (hq : q ≤ a) (e : Cs t q h = p :: tl) : p < q ∧ p + 5 ≤ t.length ∧ ahead p = hd tl ∧ tl = Cs t p h := by
  have hm := (cs_mem t h q p).1 (by rw [e]; simp)
  have ht := cs_tail t h q p tl e
  refine ⟨hm.1, hm.2.1, ?_, ht⟩
  rw [hf.ahead p (by omega) hm.2.1, hm.2.2, ht]
/-- Five bytes that are alike have one number. -/
theorem numb_alike {t : List UInt8} {p i : Nat} (h : 5 ≤ al t p i) : numb t p = numb t i := by
  unfold numb
  have : (t.drop p).take 5 = (t.drop i).take 5 := by
    apply List.ext_getElem?
    intro k
    rw [List.getElem?_take, List.getElem?_take]
    by_cases hk : k < 5
    · rw [if_pos hk, if_pos hk, List.getElem?_drop, List.getElem?_drop]
      exact al_eq t p i (by omega)
    rw [if_neg hk, if_neg hk]
  rw [this]
/-- The chain of the tables holds all that may match. -/
theorem chain_of (t : List UInt8) (i : Nat) (hi : i + 5 ≤ t.length) : Chain t i (Cs t i (numb t i)) :=
  ⟨cs_fall t _ i, fun p hp => ((cs_mem t _ i p).1 hp).1, fun p hp h5 => (cs_mem t _ i p).2 ⟨hp, by omega, numb_alike h5⟩⟩
/-- What the program's match tells. -/
def bestP (t : List UInt8) (i : Nat) : Nat × Nat := if i + 5 ≤ t.length then tryC t i (Cs t i (numb t i)) (0, 0) else (0, 0)
theorem bestP_same (t : List UInt8) (i : Nat) (hit : i ≤ t.length) : bestP t i = bestR t i := by
  unfold bestP
  split
  · rename_i h
    exact best_same t i hit _ (chain_of t i h)
  rename_i h
  rcases bestR_spec t i hit with ⟨e, _⟩ | ⟨h5, hB⟩
  · exact e.symm
  have := al_in t (i - (bestR t i).2) i hit
  rw [hB.len] at this
  omega
end Sqz
end Go.Proofs.YtmhlgbpgdhhfnaaGreat
/- A record's bytes: what is read in them, and that it is a record just where it would be written so. -/
namespace Go.Proofs.YtmhlgbpgdhhfnaaGreat
namespace Sqz

structure Rc where
  kind : Int
  off : Int
  time : Int
  pid : Int
  seq : Int
  key : List UInt8
  val : List UInt8
deriving DecidableEq
def textL (k : List UInt8) : List UInt8 := uvar k.length ++ k
/-- Is the value's block shorter than the value? -/
def small (v : List UInt8) : Bool := decide ((enc v).length < v.length)
def shortV (v : List UInt8) : List UInt8 := if small v = true then enc v else v
def numOk (x : Int) (lo hi : Int) : Prop := lo ≤ x ∧ x < hi
instance (x lo hi : Int) : Decidable (numOk x lo hi) := by unfold numOk; infer_instance
/-- Why a record may not be; 0: it may. -/
def chkR (r : Rc) : Int :=
  if r.kind ≠ 1 ∧ r.kind ≠ 2 then 44
  else if ¬ numOk r.off 0 1099511627776 ∨ ¬ numOk r.time 0 1125899906842624 ∨ ¬ numOk r.pid 0 4294967296 then 45
  else if (r.pid = 0 ∧ r.seq ≠ 0) ∨ (0 < r.pid ∧ ¬ numOk r.seq 1 1099511627776) then 45
  else if r.key.length < 1 ∨ 64 < r.key.length then 42
  else if 1024 < r.val.length ∨ (r.kind = 2 ∧ r.val ≠ []) then 43
  else 0
theorem chk_ok {r : Rc} : chkR r = 0 ↔ (r.kind = 1 ∨ r.kind = 2) ∧ numOk r.off 0 1099511627776 ∧ numOk r.time 0 1125899906842624 ∧ numOk r.pid 0 4294967296 ∧ (r.pid = 0 → r.seq = 0) ∧ (0 < r.pid → numOk r.seq 1 1099511627776) ∧ 1 ≤ r.key.length ∧ r.key.length ≤ 64 ∧ r.val.length ≤ 1024 ∧ (r.kind = 2 → r.val = []) := by
  unfold chkR
  constructor
  · intro h
    split at h
    · cases h
    rename_i h1
    split at h
    · cases h
    rename_i h2
    split at h
    · cases h
    rename_i h3
    split at h
    · cases h
    rename_i h4
    split at h
    · cases h
    rename_i h5
    refine ⟨by omega, Classical.byContradiction fun e => h2 (.inl e), Classical.byContradiction fun e => h2 (.inr (.inl e)), Classical.byContradiction fun e => h2 (.inr (.inr e)), fun e => Classical.byContradiction fun e2 => h3 (.inl ⟨e, e2⟩), fun e => Classical.byContradiction fun e2 => h3 (.inr ⟨e, e2⟩), by omega, by omega, by omega, fun e => Classical.byContradiction fun e2 => h5 (.inr ⟨e, e2⟩)⟩
  rintro ⟨a, b, c, d, e, f, g, h, i, j⟩
  rw [if_neg (by omega), if_neg (by rintro (x | x | x); exact x b; exact x c; exact x d), if_neg (by rintro (⟨x, y⟩ | ⟨x, y⟩); exact y (e x); exact y (f x)), if_neg (by omega), if_neg (by rintro (x | ⟨x, y⟩); omega; exact y (j x))]
/-- The flags of a body. -/
def flagsR (r : Rc) : Nat := (if r.kind = 2 then 1 else 0) + (if small r.val = true then 2 else 0) + (if 0 < r.pid then 4 else 0)
theorem flags_lt (r : Rc) : flagsR r < 8 := by unfold flagsR; split <;> split <;> split <;> omega
def bodyR (r : Rc) : List UInt8 := UInt8.ofNat (flagsR r) :: (uvar r.off.toNat ++ (uvar r.time.toNat ++ ((if 0 < r.pid then uvar r.pid.toNat ++ uvar r.seq.toNat else []) ++ (textL r.key ++ shortV r.val))))

/-! The readers' steps. -/
def byS (l : List UInt8) (s : RSt) : Nat × RSt := if s.fl then (0, s) else match l.drop s.at_ with
  | [] => (0, ⟨l.length, true⟩)
  | c :: _ => (c.toNat, ⟨s.at_ + 1, false⟩)
/-- A number below 2 to the 63. -/
def nmS (l : List UInt8) (s : RSt) : Nat × RSt := if 9223372036854775808 ≤ (uvS l s).1 then ((uvS l s).1, ⟨l.length, true⟩) else uvS l s
def rawS (l : List UInt8) (s : RSt) : List UInt8 × RSt := if s.fl then ([], s) else (l.drop s.at_, ⟨l.length, false⟩)
/-- A reader that has not failed, and what is left. -/
def At (l : List UInt8) (s : RSt) (r : List UInt8) : Prop := s.fl = false ∧ l.drop s.at_ = r
theorem uvS_back {l : List UInt8} {s : RSt} (h : (uvS l s).2.fl = false) : ∃ r, At l (uvS l s).2 r ∧ At l s (uvar (uvS l s).1 ++ r) ∧ (uvS l s).1 < 18446744073709551616 := by
  unfold uvS at h ⊢
  cases hf : s.fl with
  | true => rw [hf] at h; simp [hf] at h
  | false =>
    rw [hf] at h
    simp only [Bool.false_eq_true, if_false] at h ⊢
    cases hr : rdE (l.drop s.at_) with
    | none => rw [hr] at h; cases h
    | some x =>
      obtain ⟨v, k⟩ := x
      have hb := rdE_bound hr
      have hi := rdE_inv hr
      refine ⟨l.drop (s.at_ + k), ⟨rfl, rfl⟩, ⟨hf, ?_⟩, hb.2.2⟩
      show l.drop s.at_ = uvar v ++ l.drop (s.at_ + k)
      rw [← hi, ← List.drop_drop, List.take_append_drop]
theorem nmS_back {l : List UInt8} {s : RSt} (h : (nmS l s).2.fl = false) : ∃ r, At l (nmS l s).2 r ∧ At l s (uvar (nmS l s).1 ++ r) ∧ (nmS l s).1 < 9223372036854775808 := by
  unfold nmS at h ⊢
  split at h
  · cases h
  rename_i hc
  rw [if_neg hc]
  obtain ⟨r, h1, h2, h3⟩ := uvS_back h
  exact ⟨r, h1, h2, by omega⟩
theorem nmS_on {l r : List UInt8} {s : RSt} {n : Nat} (h : At l s (uvar n ++ r)) (hn : n < 9223372036854775808) : (nmS l s).1 = n ∧ At l (nmS l s).2 r := by
  obtain ⟨h1, h2, h3⟩ := uvS_canon h.1 h.2 (show n < 18446744073709551616 by omega)
  unfold nmS
  rw [if_neg (by omega)]
  exact ⟨h1, h2, h3⟩
theorem byS_back {l : List UInt8} {s : RSt} (h : (byS l s).2.fl = false) : ∃ c r, At l (byS l s).2 r ∧ At l s (c :: r) ∧ (byS l s).1 = c.toNat := by
  unfold byS at h ⊢
  cases hf : s.fl with
  | true => rw [hf] at h; simp [hf] at h
  | false =>
    rw [hf] at h
    simp only [Bool.false_eq_true, if_false] at h ⊢
    cases hd : l.drop s.at_ with
    | nil => rw [hd] at h; cases h
    | cons c r => exact ⟨c, r, ⟨rfl, by show l.drop (s.at_ + 1) = r; rw [← List.drop_drop, hd]; rfl⟩, ⟨hf, hd⟩, rfl⟩
theorem byS_on {l r : List UInt8} {s : RSt} {c : UInt8} (h : At l s (c :: r)) : (byS l s).1 = c.toNat ∧ At l (byS l s).2 r := by
  unfold byS
  rw [h.1]
  simp only [Bool.false_eq_true, if_false, h.2]
  exact ⟨trivial, rfl, by show l.drop (s.at_ + 1) = r; rw [← List.drop_drop, h.2]; rfl⟩
theorem txS_back {m : Nat} {l : List UInt8} {s : RSt} (h : (txS m l s).2.fl = false) : ∃ r, At l (txS m l s).2 r ∧ At l s (textL (txS m l s).1 ++ r) ∧ (txS m l s).1.length ≤ m := by
  unfold txS at h ⊢
  cases hf : s.fl with
  | true => rw [hf] at h; simp [hf] at h
  | false =>
    rw [hf] at h
    simp only [Bool.false_eq_true, if_false] at h ⊢
    cases hr : rdE (l.drop s.at_) with
    | none => rw [hr] at h; cases h
    | some x =>
      obtain ⟨v, k⟩ := x
      rw [hr] at h
      have hi := rdE_inv hr
      simp only at h ⊢
      split at h
      · rename_i hc
        rw [if_pos hc]
        have hl : ((l.drop (s.at_ + k)).take v).length = v := by rw [List.length_take, List.length_drop]; omega
        refine ⟨l.drop (s.at_ + k + v), ⟨rfl, rfl⟩, ⟨hf, ?_⟩, by rw [hl]; exact hc.1⟩
        unfold textL
        simp only
        have d1 : l.drop (s.at_ + k + v) = (l.drop (s.at_ + k)).drop v := by rw [List.drop_drop]
        have d2 : l.drop (s.at_ + k) = (l.drop s.at_).drop k := by rw [List.drop_drop]
        rw [hl, ← hi, List.append_assoc, d1, List.take_append_drop, d2, List.take_append_drop]
      cases h
theorem txS_on {m : Nat} {l r : List UInt8} {s : RSt} {k : List UInt8} (h : At l s (textL k ++ r)) (hk : k.length ≤ m) (hm : m ≤ 1000000) : (txS m l s).1 = k ∧ At l (txS m l s).2 r := by
  have h1 : l.drop s.at_ = uvar k.length ++ (k ++ r) := by rw [h.2, textL, List.append_assoc]
  have h2 : l.drop (s.at_ + (uvar k.length).length) = k ++ r := by rw [← List.drop_drop, h1, List.drop_left]
  have h3 : k.length ≤ l.length - (s.at_ + (uvar k.length).length) := by
    have := congrArg List.length h2
    simp only [List.length_drop, List.length_append] at this
    omega
  unfold txS
  rw [h.1]
  simp only [Bool.false_eq_true, if_false]
  rw [h1, rdE_uvar _ _ (by omega)]
  simp only
  rw [if_pos ⟨hk, h3⟩]
  exact ⟨by rw [h2, List.take_left], rfl, by show l.drop (s.at_ + (uvar k.length).length + k.length) = r; rw [← List.drop_drop, h2, List.drop_left]⟩
theorem rawS_back {l : List UInt8} {s : RSt} (h : (rawS l s).2.fl = false) : At l s (rawS l s).1 := by
  unfold rawS at h ⊢
  cases hf : s.fl with
  | true => rw [hf] at h; simp [hf] at h
  | false => exact ⟨hf, rfl⟩
theorem rawS_on {l r : List UInt8} {s : RSt} (h : At l s r) : (rawS l s).1 = r ∧ (rawS l s).2.fl = false := by
  unfold rawS
  rw [h.1]
  exact ⟨h.2, rfl⟩
/-- What a body tells, read from its begin: flags, the five parts, and the state at the end. -/
structure Parts where
  fl : Nat
  off : Nat
  time : Nat
  pid : Nat
  seq : Nat
  key : List UInt8
  val : List UInt8
  bad : Bool
def partsP (b : List UInt8) : Parts :=
  let f := byS b ⟨0, false⟩
  let o := nmS b f.2
  let t := nmS b o.2
  let p := if f.1 / 4 % 2 = 1 then nmS b t.2 else (0, t.2)
  let q := if f.1 / 4 % 2 = 1 then nmS b p.2 else (0, p.2)
  let k := txS 64 b q.2
  let v := rawS b k.2
  ⟨f.1, o.1, t.1, p.1, q.1, k.1, v.1, v.2.fl⟩
def mkR (x : Parts) (v : List UInt8) : Rc := ⟨if x.fl % 2 = 1 then 2 else 1, x.off, x.time, x.pid, x.seq, x.key, v⟩
/-- The program's read of a body. -/
def readB (b : List UInt8) : Option Rc :=
  let x := partsP b
  if 8 ≤ x.fl ∨ x.bad = true ∨ (x.fl / 4 % 2 = 1 ∧ x.pid = 0) then none else
  match (if x.fl / 2 % 2 = 1 then decP x.val else some x.val) with
  | none => none
  | some v =>
    if small v ≠ decide (x.fl / 2 % 2 = 1) then none else
    if chkR (mkR x v) = 0 then some (mkR x v) else none
theorem parts_split {b : List UInt8} (h : (partsP b).bad = false) : ∃ c : UInt8, (partsP b).fl = c.toNat ∧
    b = c :: (uvar (partsP b).off ++ (uvar (partsP b).time ++ ((if c.toNat / 4 % 2 = 1 then uvar (partsP b).pid ++ uvar (partsP b).seq else []) ++ (textL (partsP b).key ++ (partsP b).val)))) ∧
    (partsP b).pid < 9223372036854775808 ∧ (c.toNat / 4 % 2 ≠ 1 → (partsP b).pid = 0 ∧ (partsP b).seq = 0) := by
  unfold partsP at h ⊢
  simp only at h ⊢
  have hv := rawS_back h
  obtain ⟨r6, g6, k6, _⟩ := txS_back hv.1
  have e6 : r6 = _ := g6.2.symm.trans hv.2
  by_cases hc : (byS b ⟨0, false⟩).1 / 4 % 2 = 1
  · simp only [if_pos hc] at hv k6 g6 e6 ⊢
    obtain ⟨r5, g5, k5, _⟩ := nmS_back k6.1
    obtain ⟨r4, g4, k4, b4⟩ := nmS_back k5.1
    obtain ⟨r3, g3, k3, _⟩ := nmS_back k4.1
    obtain ⟨r2, g2, k2, _⟩ := nmS_back k3.1
    obtain ⟨c, r1, g1, k1, e1⟩ := byS_back k2.1
    refine ⟨c, e1, ?_, b4, fun hn => absurd (e1 ▸ hc) hn⟩
    rw [if_pos (e1 ▸ hc)]
    have f1 : b = c :: r1 := k1.2
    have f2 : r1 = _ := g1.2.symm.trans k2.2
    have f3 : r2 = _ := g2.2.symm.trans k3.2
    have f4 : r3 = _ := g3.2.symm.trans k4.2
    have f5 : r4 = _ := g4.2.symm.trans k5.2
    have f6 : r5 = _ := g5.2.symm.trans k6.2
    conv => lhs; rw [f1, f2, f3, f4, f5, f6, e6]
    simp only [List.append_assoc]
  simp only [if_neg hc] at hv k6 g6 e6 ⊢
  obtain ⟨r3, g3, k3, _⟩ := nmS_back k6.1
  obtain ⟨r2, g2, k2, _⟩ := nmS_back k3.1
  obtain ⟨c, r1, g1, k1, e1⟩ := byS_back k2.1
  refine ⟨c, e1, ?_, by omega, fun _ => ⟨by first | rfl | trivial, by first | rfl | trivial⟩⟩
  rw [if_neg (e1 ▸ hc)]
  have f1 : b = c :: r1 := k1.2
  have f2 : r1 = _ := g1.2.symm.trans k2.2
  have f3 : r2 = _ := g2.2.symm.trans k3.2
  have f6 : r3 = _ := g3.2.symm.trans k6.2
  conv => lhs; rw [f1, f2, f3, f6, e6]
  simp only [List.nil_append]
theorem parts_on (c : UInt8) (off time pid seq : Nat) (key val : List UInt8) (h1 : off < 9223372036854775808) (h2 : time < 9223372036854775808) (h3 : pid < 9223372036854775808) (h4 : seq < 9223372036854775808) (h5 : key.length ≤ 64) (h6 : c.toNat / 4 % 2 ≠ 1 → pid = 0 ∧ seq = 0) :
    partsP (c :: (uvar off ++ (uvar time ++ ((if c.toNat / 4 % 2 = 1 then uvar pid ++ uvar seq else []) ++ (textL key ++ val))))) = ⟨c.toNat, off, time, pid, seq, key, val, false⟩ := by
  generalize hb : c :: (uvar off ++ (uvar time ++ ((if c.toNat / 4 % 2 = 1 then uvar pid ++ uvar seq else []) ++ (textL key ++ val)))) = b
  have a0 : At b ⟨0, false⟩ (c :: (uvar off ++ (uvar time ++ ((if c.toNat / 4 % 2 = 1 then uvar pid ++ uvar seq else []) ++ (textL key ++ val))))) := ⟨rfl, hb.symm⟩
  obtain ⟨e1, a1⟩ := byS_on a0
  obtain ⟨e2, a2⟩ := nmS_on a1 h1
  obtain ⟨e3, a3⟩ := nmS_on a2 h2
  unfold partsP
  simp only
  rw [e1, e2, e3]
  by_cases hc : c.toNat / 4 % 2 = 1
  · rw [if_pos hc] at a3
    rw [List.append_assoc] at a3
    simp only [if_pos hc]
    obtain ⟨e4, a4⟩ := nmS_on a3 h3
    obtain ⟨e5, a5⟩ := nmS_on a4 h4
    obtain ⟨e6, a6⟩ := txS_on a5 h5 (by omega)
    obtain ⟨e7, a7⟩ := rawS_on a6
    rw [e4, e5, e6, e7, a7]
  rw [if_neg hc, List.nil_append] at a3
  simp only [if_neg hc]
  obtain ⟨e6, a6⟩ := txS_on a3 h5 (by omega)
  obtain ⟨e7, a7⟩ := rawS_on a6
  obtain ⟨rfl, rfl⟩ := h6 hc
  rw [e6, e7, a7]
set_option maxRecDepth 10000 in
/-- The program reads a record just where it would be written so. -/
theorem readB_iff (b : List UInt8) (r : Rc) : readB b = some r ↔ chkR r = 0 ∧ bodyR r = b := by
  constructor
  · intro h
    unfold readB at h
    simp only at h
    split at h
    · cases h
    rename_i hg
    have hbad : (partsP b).bad = false := by
      cases e : (partsP b).bad with
      | false => rfl
      | true => exact absurd (.inr (.inl e)) hg
    obtain ⟨c, e1, e2, e3, e4⟩ := parts_split hbad
    generalize partsP b = x at h hg hbad e1 e2 e3 e4
    split at h
    · cases h
    rename_i v hv
    split at h
    · cases h
    rename_i hs
    split at h
    · rename_i hk
      have h := Option.some.inj h
      subst h
      refine ⟨hk, ?_⟩
      have hsm : small v = decide (x.fl / 2 % 2 = 1) := Classical.byContradiction hs
      have hk' := chk_ok.1 hk
      unfold mkR at hk'
      simp only at hk'
      have hc8 : x.fl < 8 := by omega
      have hpid : 0 < x.pid ↔ x.fl / 4 % 2 = 1 := by
        constructor
        · intro hp
          exact Classical.byContradiction fun hn => by
            have := (e4 (by rw [← e1]; exact hn)).1
            omega
        intro hp
        rcases Nat.eq_zero_or_pos x.pid with h0 | h0
        · exact absurd (.inr (.inr ⟨hp, h0⟩)) hg
        exact h0
      have hfl : flagsR (mkR x v) = x.fl := by
        unfold flagsR mkR
        simp only [hsm, decide_eq_true_eq]
        have hp2 : ((0 : Int) < (x.pid : Int)) ↔ x.fl / 4 % 2 = 1 := by rw [← hpid]; omega
        by_cases q1 : x.fl % 2 = 1 <;> by_cases q2 : x.fl / 2 % 2 = 1 <;> by_cases q3 : x.fl / 4 % 2 = 1
        all_goals
          first | rw [if_pos (show (if x.fl % 2 = 1 then (2 : Int) else 1) = 2 by rw [if_pos q1])] | rw [if_neg (show ¬ (if x.fl % 2 = 1 then (2 : Int) else 1) = 2 by rw [if_neg q1]; decide)]
          first | rw [if_pos q2] | rw [if_neg q2]
          first | rw [if_pos (hp2.2 q3)] | rw [if_neg (fun h => q3 (hp2.1 h))]
          omega
      have hval : shortV v = x.val := by
        unfold shortV
        by_cases q2 : x.fl / 2 % 2 = 1
        · rw [if_pos q2] at hv
          rw [hsm, if_pos (decide_eq_true q2)]
          exact ((decP_iff _ _).1 hv).2
        rw [if_neg q2] at hv
        injection hv with hv
        rw [hsm, decide_eq_false q2]
        simp [hv]
      unfold bodyR
      rw [hfl]
      unfold mkR
      simp only [hval, Int.toNat_natCast]
      conv => rhs; rw [e2]
      have hp2 : ((0 : Int) < (x.pid : Int)) ↔ c.toNat / 4 % 2 = 1 := by rw [← e1, ← hpid]; omega
      have hcc : UInt8.ofNat x.fl = c := by rw [e1]; simp
      rw [hcc]
      by_cases q3 : c.toNat / 4 % 2 = 1
      · rw [if_pos (hp2.2 q3), if_pos q3]
      rw [if_neg (fun h => q3 (hp2.1 h)), if_neg q3]
    cases h
  rintro ⟨hk, rfl⟩
  obtain ⟨k1, ⟨k2, k2'⟩, ⟨k3, k3'⟩, ⟨k4, k4'⟩, k5, k6, k7, k8, k9, k10⟩ := chk_ok.1 hk
  obtain ⟨kind, off, time, pid, seq, key, val⟩ := r
  simp only at k1 k2 k2' k3 k3' k4 k4' k5 k6 k7 k8 k9 k10
  have hfl := flags_lt ⟨kind, off, time, pid, seq, key, val⟩
  have hcn : (UInt8.ofNat (flagsR ⟨kind, off, time, pid, seq, key, val⟩)).toNat = flagsR ⟨kind, off, time, pid, seq, key, val⟩ := by simp; omega
  have q4 : flagsR ⟨kind, off, time, pid, seq, key, val⟩ / 4 % 2 = 1 ↔ 0 < pid := by
    unfold flagsR
    simp only
    by_cases h1 : kind = 2 <;> by_cases h2 : small val = true <;> by_cases h3 : 0 < pid <;> simp [h1, h2, h3]
  have q2 : flagsR ⟨kind, off, time, pid, seq, key, val⟩ / 2 % 2 = 1 ↔ small val = true := by
    unfold flagsR
    simp only
    by_cases h1 : kind = 2 <;> by_cases h2 : small val = true <;> by_cases h3 : 0 < pid <;> simp [h1, h2, h3]
  have q1 : flagsR ⟨kind, off, time, pid, seq, key, val⟩ % 2 = 1 ↔ kind = 2 := by
    unfold flagsR
    simp only
    by_cases h1 : kind = 2 <;> by_cases h2 : small val = true <;> by_cases h3 : 0 < pid <;> simp [h1, h2, h3]
  have hseq : 0 ≤ seq ∧ seq < 1099511627776 := by
    rcases (show pid = 0 ∨ 0 < pid by omega) with h | h
    · rw [k5 h]; omega
    have := k6 h
    unfold numOk at this
    omega
  have hp := parts_on (UInt8.ofNat (flagsR ⟨kind, off, time, pid, seq, key, val⟩)) off.toNat time.toNat pid.toNat seq.toNat key (shortV val) (by omega) (by omega) (by omega) (by omega) k8 (fun hn => by
    rw [hcn] at hn
    have hpz : pid = 0 := by
      rcases (show pid = 0 ∨ 0 < pid by omega) with h | h
      · exact h
      exact absurd (q4.2 h) hn
    exact ⟨by omega, by rw [k5 hpz]; rfl⟩)
  have hbo : bodyR ⟨kind, off, time, pid, seq, key, val⟩ = UInt8.ofNat (flagsR ⟨kind, off, time, pid, seq, key, val⟩) :: (uvar off.toNat ++ (uvar time.toNat ++ ((if (UInt8.ofNat (flagsR ⟨kind, off, time, pid, seq, key, val⟩)).toNat / 4 % 2 = 1 then uvar pid.toNat ++ uvar seq.toNat else []) ++ (textL key ++ shortV val)))) := by
    unfold bodyR
    simp only
    rw [hcn]
    by_cases h3 : 0 < pid
    · rw [if_pos h3, if_pos (q4.2 h3)]
    rw [if_neg h3, if_neg (fun h => h3 (q4.1 h))]
  rw [← hbo] at hp
  unfold readB
  simp only
  rw [hp]
  simp only [hcn]
  rw [if_neg (by
    rintro (h | h | ⟨h, h0⟩)
    · omega
    · cases h
    have := q4.1 h; omega)]
  have hval : (if flagsR ⟨kind, off, time, pid, seq, key, val⟩ / 2 % 2 = 1 then decP (shortV val) else some (shortV val)) = some val := by
    unfold shortV
    by_cases h2 : small val = true
    · rw [if_pos (q2.2 h2), if_pos h2]
      exact (decP_iff _ _).2 ⟨by omega, rfl⟩
    rw [if_neg (fun h => h2 (q2.1 h)), if_neg h2]
  rw [hval]
  simp only
  have hsd : small val = decide (flagsR ⟨kind, off, time, pid, seq, key, val⟩ / 2 % 2 = 1) := by
    rw [Bool.eq_iff_iff, decide_eq_true_eq]
    exact q2.symm
  rw [if_neg (fun h => h hsd)]
  have hrr : mkR ⟨flagsR ⟨kind, off, time, pid, seq, key, val⟩, off.toNat, time.toNat, pid.toNat, seq.toNat, key, shortV val, false⟩ val = ⟨kind, off, time, pid, seq, key, val⟩ := by
    unfold mkR
    simp only
    have hkk : (if flagsR ⟨kind, off, time, pid, seq, key, val⟩ % 2 = 1 then (2 : Int) else 1) = kind := by
      by_cases h1 : kind = 2
      · rw [if_pos (q1.2 h1), h1]
      rw [if_neg (fun h => h1 (q1.1 h))]; omega
    rw [hkk, Int.toNat_of_nonneg k2, Int.toNat_of_nonneg k3, Int.toNat_of_nonneg k4, Int.toNat_of_nonneg hseq.1]
  rw [hrr, if_pos hk]
end Sqz
end Go.Proofs.YtmhlgbpgdhhfnaaGreat
/- A record's Decode, of the program and of the document: both answer alike. -/
namespace Go.Proofs.YtmhlgbpgdhhfnaaGreat
namespace Sqz

/-- Four bytes, the highest first, as a number. -/
def val4 (l : List UInt8) : Nat := l.foldl (fun n c => n * 256 + c.toNat) 0
def be4 (n : Nat) : List UInt8 := [UInt8.ofNat (n / 16777216), UInt8.ofNat (n / 65536 % 256), UInt8.ofNat (n / 256 % 256), UInt8.ofNat (n % 256)]
theorem be4_len (n : Nat) : (be4 n).length = 4 := rfl
theorem val4_be4 (n : Nat) (h : n < 4294967296) : val4 (be4 n) = n := by
  simp only [val4, be4, List.foldl_cons, List.foldl_nil]
  have e : ∀ k, k < 256 → (UInt8.ofNat k).toNat = k := fun k hk => by simp; omega
  rw [e _ (by omega), e _ (by omega), e _ (by omega), e _ (by omega)]
  omega
theorem be4_val4 : ∀ (l : List UInt8), l.length = 4 → be4 (val4 l) = l
  | [a, b, c, d], _ => by
    have ha := a.toNat_lt
    have hb := b.toNat_lt
    have hc := c.toNat_lt
    have hd := d.toNat_lt
    simp only [val4, be4, List.foldl_cons, List.foldl_nil]
    rw [show ((((0 * 256 + a.toNat) * 256 + b.toNat) * 256 + c.toNat) * 256 + d.toNat) / 16777216 = a.toNat by omega, show ((((0 * 256 + a.toNat) * 256 + b.toNat) * 256 + c.toNat) * 256 + d.toNat) / 65536 % 256 = b.toNat by omega,
      show ((((0 * 256 + a.toNat) * 256 + b.toNat) * 256 + c.toNat) * 256 + d.toNat) / 256 % 256 = c.toNat by omega, show ((((0 * 256 + a.toNat) * 256 + b.toNat) * 256 + c.toNat) * 256 + d.toNat) % 256 = d.toNat by omega]
    simp
section
variable (sum : List UInt8 → Nat)
/-- The bytes of a record. (sum: of the length's bytes and the body.) -/
def encRec (r : Rc) : List UInt8 := 169 :: (be4 (bodyR r).length ++ (be4 (sum (be4 (bodyR r).length ++ bodyR r)) ++ bodyR r))
/-- What stands ahead of a body: an error, or how many bytes the body has. -/
def headD (b : List UInt8) : Int ⊕ Nat := match b with
  | [] => .inl 40
  | c :: _ => if c ≠ 169 then .inl 41 else if b.length < 5 then .inl 40 else
    let n := val4 ((b.drop 1).take 4)
    if n < 5 ∨ 1115 < n then .inl 41 else if b.length < 9 + n then .inl 40 else .inr n
/-- The program's Decode: the record and its number of bytes, or an error. -/
def decPR (b : List UInt8) : Int ⊕ (Rc × Nat) := match headD b with
  | .inl e => .inl e
  | .inr n => if val4 ((b.drop 5).take 4) ≠ sum ((b.drop 1).take 4 ++ (b.drop 9).take n) then .inl 41 else
    match readB ((b.drop 9).take n) with
    | none => .inl 41
    | some r => .inr (r, 9 + n)
/-- The document's, whatever it reads in a body. -/
def decRR (rd : List UInt8 → Rc) (b : List UInt8) : Int ⊕ (Rc × Nat) := match headD b with
  | .inl e => .inl e
  | .inr n => if chkR (rd ((b.drop 9).take n)) = 0 ∧ encRec sum (rd ((b.drop 9).take n)) = b.take (9 + n) then .inr (rd ((b.drop 9).take n), 9 + n) else .inl 41
variable {sum}
theorem head_split {b : List UInt8} {n : Nat} (h : headD b = .inr n) : 9 + n ≤ b.length ∧ n = val4 ((b.drop 1).take 4) ∧ b.take (9 + n) = 169 :: ((b.drop 1).take 4 ++ ((b.drop 5).take 4 ++ (b.drop 9).take n)) := by
  unfold headD at h
  split at h
  · cases h
  rename_i c r
  split at h
  · cases h
  rename_i hc
  split at h
  · cases h
  rename_i h5
  simp only at h
  split at h
  · cases h
  split at h
  · cases h
  rename_i hl
  injection h with h
  subst h
  have hc' : c = 169 := Classical.byContradiction hc
  refine ⟨by omega, rfl, ?_⟩
  subst hc'
  generalize val4 (((169 :: r).drop 1).take 4) = n at hl ⊢
  simp only [List.drop_succ_cons, List.drop_zero, List.length_cons] at hl ⊢
  rw [show 9 + n = (8 + n) + 1 by omega, List.take_succ_cons]
  congr 1
  rw [show 8 + n = 4 + (4 + n) by omega, List.take_add, List.take_add (i := 4) (j := n), List.drop_drop]
theorem enc_iff {b : List UInt8} {n : Nat} (hs : ∀ l, sum l < 4294967296) (h : headD b = .inr n) (r : Rc) : encRec sum r = b.take (9 + n) ↔ bodyR r = (b.drop 9).take n ∧ val4 ((b.drop 5).take 4) = sum ((b.drop 1).take 4 ++ (b.drop 9).take n) := by
  obtain ⟨h1, h2, h3⟩ := head_split h
  have l1 : ((b.drop 1).take 4).length = 4 := by rw [List.length_take, List.length_drop]; omega
  have l2 : ((b.drop 5).take 4).length = 4 := by rw [List.length_take, List.length_drop]; omega
  have l3 : ((b.drop 9).take n).length = n := by rw [List.length_take, List.length_drop]; omega
  rw [h3]
  unfold encRec
  generalize (b.drop 1).take 4 = x1 at *
  generalize (b.drop 5).take 4 = x2 at *
  generalize (b.drop 9).take n = x3 at *
  constructor
  · intro e
    injection e with _ e
    obtain ⟨e1, e2⟩ := List.append_inj e (by rw [be4_len, l1])
    obtain ⟨e3, e4⟩ := List.append_inj e2 (by rw [be4_len, l2])
    refine ⟨e4, ?_⟩
    rw [← e3, val4_be4 _ (hs _), e1, e4]
  rintro ⟨e1, e2⟩
  rw [e1, l3]
  have e3 : be4 n = x1 := by rw [h2]; exact be4_val4 x1 l1
  rw [e3, ← e2, be4_val4 x2 l2]
/-- Both decode alike. -/
theorem decRec_same (hs : ∀ l, sum l < 4294967296) (rd : List UInt8 → Rc) (hrd : ∀ r, chkR r = 0 → rd (bodyR r) = r) (b : List UInt8) : decPR sum b = decRR sum rd b := by
  unfold decPR decRR
  cases h : headD b with
  | inl e => rfl
  | inr n =>
    simp only
    by_cases hsum : val4 ((b.drop 5).take 4) = sum ((b.drop 1).take 4 ++ (b.drop 9).take n)
    · rw [if_neg (fun hn => hn hsum)]
      cases hr : readB ((b.drop 9).take n) with
      | some r =>
        obtain ⟨k1, k2⟩ := (readB_iff _ r).1 hr
        have e : rd ((b.drop 9).take n) = r := by rw [← k2]; exact hrd r k1
        simp only [e]
        rw [if_pos ⟨k1, (enc_iff hs h r).2 ⟨k2, hsum⟩⟩]
      | none =>
        simp only
        rw [if_neg]
        rintro ⟨k1, k2⟩
        have := (readB_iff ((b.drop 9).take n) _).2 ⟨k1, ((enc_iff hs h _).1 k2).1⟩
        rw [this] at hr
        cases hr
    rw [if_pos hsum, if_neg]
    rintro ⟨_, k2⟩
    exact hsum ((enc_iff hs h _).1 k2).2
end
end Sqz
end Go.Proofs.YtmhlgbpgdhhfnaaGreat
/- What a segment's bytes say: no program in sight. -/
namespace Go.Proofs.YtmhlgbpgdhhfnaaGreat
namespace Sqz

structure Inf where
  topic : Nat
  num : Nat
  base : Int
  size : Nat
  count : Nat
  last : Int
  sealed : Bool
def be8 (n : Nat) : List UInt8 := be4 (n / 4294967296) ++ be4 (n % 4294967296)
theorem foldl_val (l : List UInt8) (a : Nat) : l.foldl (fun n c => n * 256 + c.toNat) a = a * 256 ^ l.length + val4 l := by
  induction l generalizing a with
  | nil => simp [val4]
  | cons c l ih =>
    have h0 : val4 (c :: l) = c.toNat * 256 ^ l.length + val4 l := by
      unfold val4
      rw [List.foldl_cons]
      have := ih (0 * 256 + c.toNat)
      rw [this, Nat.zero_mul, Nat.zero_add]
      rfl
    rw [List.foldl_cons, ih, h0, List.length_cons, Nat.pow_succ, Nat.add_mul]
    rw [show a * 256 * 256 ^ l.length = a * (256 ^ l.length * 256) by rw [Nat.mul_assoc, Nat.mul_comm 256]]
    omega
theorem val_app (a b : List UInt8) : val4 (a ++ b) = val4 a * 256 ^ b.length + val4 b := by
  unfold val4
  rw [List.foldl_append]
  exact foldl_val b _
section
variable (sum : List UInt8 → Nat)
def headB (topic num base : Nat) : List UInt8 := 173 :: (be4 topic ++ (be4 num ++ (be8 base ++ be4 (sum (173 :: (be4 topic ++ (be4 num ++ be8 base)))))))
/-- What a head says: the program's way. -/
def headP (b : List UInt8) : Option Inf := if b.length < 21 then none else
  let topic := val4 ((b.drop 1).take 4)
  let num := val4 ((b.drop 5).take 4)
  let base := val4 ((b.drop 9).take 8)
  if b.take 1 ≠ [173] ∨ 1073741824 ≤ topic ∨ 1073741824 ≤ num ∨ 1099511627776 < base ∨ val4 ((b.drop 17).take 4) ≠ sum (b.take 17) then none
  else some ⟨topic, num, base, 21, 0, (base : Int) - 1, false⟩
/-- The document's way. -/
def headR (b : List UInt8) : Option Inf := if b.length < 21 then none else
  let topic := val4 ((b.drop 1).take 4)
  let num := val4 ((b.drop 5).take 4)
  let base := val4 ((b.drop 9).take 8)
  if 1073741824 ≤ topic ∨ 1073741824 ≤ num ∨ 1099511627776 < base then none
  else if headB sum topic num base = b.take 21 then some ⟨topic, num, base, 21, 0, (base : Int) - 1, false⟩ else none
variable {sum}
theorem be8_val (l : List UInt8) (h : l.length = 8) : be8 (val4 l) = l := by
  have e : l = l.take 4 ++ l.drop 4 := (List.take_append_drop 4 l).symm
  have h1 : (l.take 4).length = 4 := by rw [List.length_take]; omega
  have h2 : (l.drop 4).length = 4 := by rw [List.length_drop]; omega
  have b2 : val4 (l.drop 4) < 4294967296 := by
    generalize l.drop 4 = x at h2
    match x, h2 with
    | [a, b, c, d], _ =>
      have ha := a.toNat_lt
      have hb := b.toNat_lt
      have hc := c.toNat_lt
      have hd := d.toNat_lt
      simp only [val4, List.foldl_cons, List.foldl_nil]
      omega
  have hv : val4 l = val4 (l.take 4) * 4294967296 + val4 (l.drop 4) := by
    conv => lhs; rw [e]
    rw [val_app, h2]
  unfold be8
  rw [hv, show (val4 (l.take 4) * 4294967296 + val4 (l.drop 4)) / 4294967296 = val4 (l.take 4) by omega, show (val4 (l.take 4) * 4294967296 + val4 (l.drop 4)) % 4294967296 = val4 (l.drop 4) by omega, be4_val4 _ h1, be4_val4 _ h2]
  exact e.symm
theorem head_same (hs : ∀ l, sum l < 4294967296) (b : List UInt8) : headP sum b = headR sum b := by
  unfold headP headR
  by_cases h : b.length < 21
  · rw [if_pos h, if_pos h]
  rw [if_neg h, if_neg h]
  simp only
  have l0 : (b.take 1).length = 1 := by rw [List.length_take]; omega
  have l1 : ((b.drop 1).take 4).length = 4 := by rw [List.length_take, List.length_drop]; omega
  have l2 : ((b.drop 5).take 4).length = 4 := by rw [List.length_take, List.length_drop]; omega
  have l3 : ((b.drop 9).take 8).length = 8 := by rw [List.length_take, List.length_drop]; omega
  have l4 : ((b.drop 17).take 4).length = 4 := by rw [List.length_take, List.length_drop]; omega
  have e17 : b.take 17 = b.take 1 ++ ((b.drop 1).take 4 ++ ((b.drop 5).take 4 ++ (b.drop 9).take 8)) := by
    rw [show 17 = 1 + (4 + (4 + 8)) by rfl, List.take_add, List.take_add (i := 4), List.take_add (i := 4) (j := 8), List.drop_drop, List.drop_drop]
  have e21 : b.take 21 = b.take 17 ++ (b.drop 17).take 4 := by rw [show 21 = 17 + 4 by rfl, List.take_add]
  rw [e21, e17]
  generalize b.take 1 = x0 at *
  generalize (b.drop 1).take 4 = x1 at *
  generalize (b.drop 5).take 4 = x2 at *
  generalize (b.drop 9).take 8 = x3 at *
  generalize (b.drop 17).take 4 = x4 at *
  by_cases hr : 1073741824 ≤ val4 x1 ∨ 1073741824 ≤ val4 x2 ∨ 1099511627776 < val4 x3
  · rw [if_pos (by rcases hr with h | h | h; exact .inr (.inl h); exact .inr (.inr (.inl h)); exact .inr (.inr (.inr (.inl h)))), if_pos hr]
  rw [if_neg hr]
  have hB : headB sum (val4 x1) (val4 x2) (val4 x3) = (x0 ++ (x1 ++ (x2 ++ x3))) ++ x4 ↔ x0 = [173] ∧ val4 x4 = sum (x0 ++ (x1 ++ (x2 ++ x3))) := by
    have hh : headB sum (val4 x1) (val4 x2) (val4 x3) = ([173] ++ (x1 ++ (x2 ++ x3))) ++ be4 (sum ([173] ++ (x1 ++ (x2 ++ x3)))) := by
      unfold headB
      rw [be4_val4 x1 l1, be4_val4 x2 l2, be8_val x3 l3]
      simp
    rw [hh]
    constructor
    · intro e
      obtain ⟨e1, e2⟩ := List.append_inj e (by simp only [List.length_append, l0]; rfl)
      obtain ⟨e3, _⟩ := List.append_inj e1 (by rw [l0]; rfl)
      subst e3
      exact ⟨rfl, by rw [← e2, val4_be4 _ (hs _)]⟩
    rintro ⟨rfl, e2⟩
    rw [← e2, be4_val4 x4 l4]
  by_cases hc : x0 = [173] ∧ val4 x4 = sum (x0 ++ (x1 ++ (x2 ++ x3)))
  · rw [if_neg (by
      rintro (h | h | h | h | h)
      · exact h hc.1
      · exact hr (.inl h)
      · exact hr (.inr (.inl h))
      · exact hr (.inr (.inr h))
      exact h hc.2), if_pos (hB.2 hc)]
  rw [if_pos, if_neg (fun h => hc (hB.1 h))]
  by_cases h0 : x0 = [173]
  · exact .inr (.inr (.inr (.inr fun h => hc ⟨h0, h⟩)))
  exact .inl h0
end
end Sqz
end Go.Proofs.YtmhlgbpgdhhfnaaGreat
