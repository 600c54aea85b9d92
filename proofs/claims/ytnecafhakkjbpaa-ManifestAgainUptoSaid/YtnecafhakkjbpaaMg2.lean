import Derived.Test.YtnecafhakkjbpaaMg1
import Derived.Test.YtnecafhakkjbpaaMf2
/- ManifestAgain: between two rounds: plain laws. -/
namespace Go.Proofs.Ytnecafhakkjbpaa
open Go.RowKit Go.Maps

def catN : ByteArray := ⟨#[99, 97, 116, 97, 108, 111, 103]⟩
def catT : ByteArray := ⟨#[99, 97, 116, 97, 108, 111, 103, 46, 116, 109, 112]⟩
/-- One of the texts from lo on, below hi. -/
def Tx (tl : List (List UInt8)) (lo hi : Nat) (z : List UInt8) : Prop := ∃ k, lo ≤ k ∧ k < hi ∧ tl[k]? = some z
/-- What is known of the image between two rounds (m: one more than the last that was answered OK; 0: none). -/
structure IG (tl : List (List UInt8)) (m j : Nat) (img : List FE) : Prop where
  ok : LdOk 1073741824 img
  two : ∀ p ∈ img, (p.1 = catN ∨ p.1 = catT) ∧ (p.1 = catN → Tx tl (m - 1) j p.2)
  must : 0 < m → ∃ p ∈ img, p.1 = catN
  sm : ∀ p ∈ img, p.2.length ≤ 1048576
theorem cat_ne : catN ≠ catT := by decide
theorem cat_good : goodN catN = true ∧ goodN catT = true := ⟨by decide, by decide⟩
section
variable {tl : List (List UInt8)} {m j : Nat} {img : List FE} {b : List UInt8} {f : Int} {s1 : Dk}
theorem IG.two_ (h : IG tl m j img) : img.length ≤ 2 := asc_two h.ok.asc fun p hp => (h.two p hp).1
theorem sum_two : ∀ {fs : List FE}, fs.length ≤ 2 → (∀ p ∈ fs, p.2.length ≤ 1048576) → sumL fs ≤ 2097152
  | [], _, _ => by simp [sumL]
  | [a], _, h => by have := h a (by simp); simp [sumL]; omega
  | [a, c], _, h => by have h1 := h a (by simp); have h2 := h c (by simp); simp [sumL]; omega
  | a :: c :: e :: r, h, _ => by simp at h
/-- The disk of a round, its fuse laid. -/
theorem IG.start (h : IG tl m j img) (hb : b.length ≤ 1048576) (h1 : fuseS f (ldS 1073741824 img) = s1) : Gd catN catT (Tx tl (m - 1) j) (0 < m) s1 ∧ s1.dead = false ∧ s1.used + b.length ≤ s1.quota := by
  obtain ⟨g1, g2, g3, g4, g5, g6, g7, g8⟩ := ld_facts 1073741824 img h.ok.asc
  have hs : s1 = { ldS 1073741824 img with fuse := max f (-1) } := by rw [← h1]; unfold fuseS; rw [if_neg (by rw [g7]; decide)]
  have hsum := sum_two h.two_ h.sm
  refine ⟨(ld_gd h.ok.asc h.two h.must h.sm).same (by rw [hs]) (by rw [hs]) (by rw [hs]), by rw [hs]; exact g7, ?_⟩
  rw [hs]
  show (ldS 1073741824 img).used + _ ≤ (ldS 1073741824 img).quota
  rw [g4, g5]
  omega
theorem seen_few {s : Dk} {N : Nat} (h : s.Inv N) : s.seen.length ≤ N := by
  have h1 := fold_len s.dchs s.safe
  have h2 := h.sz.d
  have : s.seen.length = (s.dchs.foldl ddo s.safe).length := rfl
  omega
theorem fileI_has {im : List FE} {nm : ByteArray} (h : ∃ q ∈ im, q.1 = nm) : ∃ z, fileI nm im = some z := by
  obtain ⟨q, hq, hn⟩ := h
  unfold fileI
  cases hf : im.find? fun p => decide (p.1 = nm) with
  | none => exact absurd (by simpa using hn) (List.find?_eq_none.1 hf q hq)
  | some p => exact ⟨p.2, rfl⟩
theorem fileI_mem {im : List FE} {nm : ByteArray} {z : List UInt8} (h : fileI nm im = some z) : (nm, z) ∈ im := by
  unfold fileI at h
  cases hf : im.find? fun p => decide (p.1 = nm) with
  | none => rw [hf] at h; cases h
  | some p =>
    rw [hf] at h
    have h1 := List.find?_some hf
    simp at h1 h
    rw [← h1, ← h]
    exact List.mem_of_find?_eq_some hf
/-- A round: what is left, and what is answered. -/
theorem IG.round (h : IG tl m j img) (hm : m ≤ j) (hj : tl[j]? = some b) (hb : b.length ≤ 1048576) (h1 : fuseS f (ldS 1073741824 img) = s1) {N : Nat} (hI : s1.Inv 2) (hI2 : (replT catN catT b s1).2.Inv N) (ps : List Int) :
    ((replT catN catT b s1).1 = 0 ∧ IG tl (j + 1) (j + 1) (crashL (replT catN catT b s1).2 ps) ∧ fileI catN (crashL (replT catN catT b s1).2 ps) = some b) ∨
    ((replT catN catT b s1).1 = 34 ∧ 0 ≤ s1.fuse ∧ IG tl m (j + 1) (crashL (replT catN catT b s1).2 ps) ∧ (∀ z, fileI catN (crashL (replT catN catT b s1).2 ps) = some z → Tx tl (m - 1) (j + 1) z) ∧ (fileI catN (crashL (replT catN catT b s1).2 ps) = none → m = 0)) := by
  obtain ⟨g1, g2, g3⟩ := h.start hb h1
  have hup : ∀ z, Tx tl (m - 1) j z → Tx tl (m - 1) (j + 1) z := fun z ⟨k, a1, a2, a3⟩ => ⟨k, a1, by omega, a3⟩
  rcases repl_gd g1 hI cat_ne g2 cat_good.1 cat_good.2 (by have := seen_few hI; omega) g3 hb with ⟨e, hG⟩ | ⟨e, hG, hf⟩
  · left
    obtain ⟨c1, c2, c3⟩ := hG.crash ps
    obtain ⟨z, hz⟩ := fileI_has (c2 trivial)
    have hzb := (c1 _ (fileI_mem hz)).2 rfl
    simp only at hzb
    subst hzb
    exact ⟨e, ⟨hG.ldok hI2 cat_good.1 cat_good.2 ps, fun p hp => ⟨(c1 p hp).1, fun hn => ⟨j, by omega, by omega, by rw [(c1 p hp).2 hn]; exact hj⟩⟩, fun _ => c2 trivial, c3⟩, hz⟩
  · right
    obtain ⟨c1, c2, c3⟩ := hG.crash ps
    have hA : ∀ p ∈ crashL (replT catN catT b s1).2 ps, p.1 = catN → Tx tl (m - 1) (j + 1) p.2 := fun p hp hn => by
      rcases (c1 p hp).2 hn with h3 | h3
      · exact hup _ h3
      · rw [h3]; exact ⟨j, by omega, by omega, hj⟩
    refine ⟨e, hf, ⟨hG.ldok hI2 cat_good.1 cat_good.2 ps, fun p hp => ⟨(c1 p hp).1, hA p hp⟩, c2, c3⟩, fun z hz => hA _ (fileI_mem hz) rfl, fun hn => Classical.byContradiction fun hne => ?_⟩
    obtain ⟨z, hz⟩ := fileI_has (c2 (by omega))
    rw [hn] at hz
    cases hz
end
end Go.Proofs.Ytnecafhakkjbpaa
