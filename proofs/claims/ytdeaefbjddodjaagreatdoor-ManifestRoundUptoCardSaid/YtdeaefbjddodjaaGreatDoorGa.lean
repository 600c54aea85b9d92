import Derived.Test.YtdeaefbjddodjaaGreatDoorRows
import Derived.Lib.SplitLaws
import Derived.Lib.AtoiAll
import Derived.Lib.ItoaNum
import Derived.Lib.Strings
/- ManifestNames: plain laws of names (no program). -/
namespace Go.Proofs.YtdeaefbjddodjaaGreatDoor
open Go.Lib

/-- A file's name, as numbers: its kind (0 to 4), topic, segment; whether .tmp stands behind. -/
structure FN where
  k : Int
  id : Int
  seg : Int
  t : Bool
  deriving DecidableEq
def FN.zero : FN := ⟨0, 0, 0, false⟩
def dec (n : Int) : List UInt8 := decDigits n.toNat
def okId (n : Int) : Prop := 0 ≤ n ∧ n < 1073741824
def okSeg (n : Int) : Prop := 1 ≤ n ∧ n < 1073741824
instance (n : Int) : Decidable (okId n) := by unfold okId; infer_instance
instance (n : Int) : Decidable (okSeg n) := by unfold okSeg; infer_instance
def segB : List UInt8 := [115, 101, 103]
def hintB : List UInt8 := [104, 105, 110, 116]
def manBA : List UInt8 := [109, 97, 110]
def catB : List UInt8 := [99, 97, 116, 97, 108, 111, 103]
def tmpB : List UInt8 := [46, 116, 109, 112]
/-- The name without .tmp. -/
def baseN (n : FN) : List UInt8 :=
  if n.k = 1 ∧ okId n.id ∧ okSeg n.seg then 116 :: (dec n.id ++ 46 :: (dec n.seg ++ 46 :: segB))
  else if n.k = 2 ∧ okId n.id ∧ okSeg n.seg then 116 :: (dec n.id ++ 46 :: (dec n.seg ++ 46 :: hintB))
  else if n.k = 3 ∧ okId n.id ∧ n.seg = 0 then 116 :: (dec n.id ++ 46 :: manBA)
  else if n.k = 4 ∧ n.id = 0 ∧ n.seg = 0 then catB
  else []
def nameN (n : FN) : List UInt8 := if baseN n = [] then [] else if n.t then baseN n ++ tmpB else baseN n
theorem dec_digit : ∀ (u : Nat), ∀ b ∈ decDigits u, 48 ≤ b.toNat ∧ b.toNat ≤ 57 := by
  intro u
  induction u using Nat.strongRecOn with
  | _ u ih =>
    intro b hb
    rw [decDigits] at hb
    split at hb
    · rename_i h
      rw [List.mem_singleton] at hb
      subst hb
      rw [UInt8.toNat_ofNat']
      omega
    · rename_i h
      rcases List.mem_append.1 hb with h1 | h1
      · exact ih (u / 10) (by omega) b h1
      · rw [List.mem_singleton] at h1
        subst h1
        rw [UInt8.toNat_ofNat']
        omega
theorem dec_ne (u : Nat) : decDigits u ≠ [] := by
  rw [decDigits]
  split <;> simp
theorem dot_dec (u : Nat) : (46 : UInt8) ∉ decDigits u := fun h => by
  have := dec_digit u 46 h
  simp at this
/-- The bytes cut at the dots. -/
def spl : List UInt8 → List (List UInt8)
  | [] => [[]]
  | b :: l => if b = 46 then [] :: spl l else match spl l with
    | [] => [[b]]
    | x :: r => (b :: x) :: r
theorem spl_free : ∀ (a : List UInt8), (46 : UInt8) ∉ a → spl a = [a]
  | [], _ => rfl
  | b :: a, h => by
    have h1 : b ≠ 46 := fun e => h (by rw [e]; exact List.mem_cons_self ..)
    rw [spl, if_neg h1, spl_free a fun hm => h (List.mem_cons_of_mem _ hm)]
theorem spl_dot : ∀ (a b : List UInt8), (46 : UInt8) ∉ a → spl (a ++ 46 :: b) = a :: spl b
  | [], b, _ => by simp [spl]
  | x :: a, b, h => by
    have h1 : x ≠ 46 := fun e => h (by rw [e]; exact List.mem_cons_self ..)
    rw [List.cons_append, spl, if_neg h1, spl_dot a b fun hm => h (List.mem_cons_of_mem _ hm)]
theorem index_dot_none : ∀ (a : List UInt8), (46 : UInt8) ∉ a → index a [46] = -1
  | [], _ => rfl
  | b :: a, h => by
    have h1 : b ≠ 46 := fun e => h (by rw [e]; exact List.mem_cons_self ..)
    have h2 := index_dot_none a fun hm => h (List.mem_cons_of_mem _ hm)
    have h3 : ([46] : List UInt8).isPrefixOf (b :: a) = false := by simp [List.isPrefixOf]; exact fun e => h1 e.symm
    rw [index, h3, h2]; rfl
theorem index_dot : ∀ (a b : List UInt8), (46 : UInt8) ∉ a → index (a ++ 46 :: b) [46] = a.length
  | [], b, _ => by simp [index, List.isPrefixOf]
  | x :: a, b, h => by
    have h1 : x ≠ 46 := fun e => h (by rw [e]; exact List.mem_cons_self ..)
    have h2 := index_dot a b fun hm => h (List.mem_cons_of_mem _ hm)
    have h3 : ([46] : List UInt8).isPrefixOf (x :: (a ++ 46 :: b)) = false := by simp [List.isPrefixOf]; exact fun e => h1 e.symm
    rw [List.cons_append, index, h3, h2]
    simp
/-- strings.Split at a dot is spl. -/
theorem split_spl : ∀ (k : Nat) (s : List UInt8), s.count 46 = k → splitK [46] 0 k s = spl s
  | 0, s, h => by
    rw [spl_free s (List.count_eq_zero.1 h)]; rfl
  | k + 1, s, h => by
    have hm : (46 : UInt8) ∈ s := List.count_pos_iff.1 (by omega)
    obtain ⟨a, b, e, ha⟩ := List.eq_append_cons_of_mem hm
    subst e
    rw [splitK, index_dot a b ha]
    rw [if_neg (by simp), spl_dot a b ha]
    have h1 : b.count 46 = k := by
      rw [List.count_append, List.count_eq_zero.2 ha, List.count_cons_self] at h
      omega
    have h2 : (a ++ 46 :: b).drop ((a.length : Int).toNat + ([46] : List UInt8).length) = b := by
      simp
    rw [h2, split_spl k b h1]
    simp
end Go.Proofs.YtdeaefbjddodjaaGreatDoor
/- ManifestNames: the program's Parse and the document's, as functions on bytes; they are the same. -/
namespace Go.Proofs.YtdeaefbjddodjaaGreatDoor
open Go.Lib

theorem parse_dec : ∀ (u : Nat), u < 1073741824 → ∀ r, parseUint10 0 (decDigits u ++ r) = parseUint10 u r := by
  intro u
  induction u using Nat.strongRecOn with
  | _ u ih =>
    intro hu r
    rw [decDigits]
    split
    · rename_i h
      rw [List.singleton_append, parseUint10]
      have e : (UInt8.ofNat (48 + u)).toNat = 48 + u := by rw [UInt8.toNat_ofNat']; omega
      rw [e, if_pos (by omega), if_neg (by omega), if_neg (by omega)]
      congr 1
      omega
    · rename_i h
      rw [List.append_assoc, ih (u / 10) (by omega) (by omega), List.singleton_append, parseUint10]
      have e : (UInt8.ofNat (48 + u % 10)).toNat = 48 + u % 10 := by rw [UInt8.toNat_ofNat']; omega
      rw [e, if_pos (by omega), if_neg (by omega), if_neg (by omega)]
      congr 1
      omega
theorem atoi_dec {n : Int} (h0 : 0 ≤ n) (h1 : n < 1073741824) : atoiAll (dec n) = .ok n := by
  obtain ⟨u, rfl⟩ : ∃ u : Nat, n = u := ⟨n.toNat, by omega⟩
  unfold dec
  rw [Int.toNat_natCast]
  have hp := parse_dec u (by omega) []
  rw [List.append_nil] at hp
  have hd := dec_digit u
  have hne := dec_ne u
  cases he : decDigits u with
  | nil => exact absurd he hne
  | cons c r =>
    have hc := hd c (by rw [he]; exact List.mem_cons_self ..)
    rw [he] at hp
    unfold atoiAll
    simp only
    rw [if_neg (by omega)]
    unfold parseMag
    rw [if_neg (by simp), hp]
    simp only [parseUint10]
    rw [if_neg (by omega), if_neg (by omega), if_neg (by omega)]
/-- What strconv.Atoi's number is. -/
def atoiV (l : List UInt8) : Int := match atoiAll l with
  | .ok v => v
  | .range => atoiSat l
  | _ => 0
theorem atoiV_dec {n : Int} (h0 : 0 ≤ n) (h1 : n < 1073741824) : atoiV (dec n) = n := by unfold atoiV; rw [atoi_dec h0 h1]
/-- strings.CutSuffix at .tmp. -/
def cutT (s : List UInt8) : List UInt8 × Bool := if hasSuffix s tmpB then (s.take (s.length - 4), true) else (s, false)
def candP (s : List UInt8) : FN :=
  ⟨if (spl (cutT s).1).length = 2 ∧ (spl (cutT s).1).getD 1 [] = manBA then 3 else if (spl (cutT s).1).length = 3 ∧ (spl (cutT s).1).getD 2 [] = segB then 1 else if (spl (cutT s).1).length = 3 ∧ (spl (cutT s).1).getD 2 [] = hintB then 2 else 0,
    atoiV (trimPrefix ((spl (cutT s).1).getD 0 []) [116]), if (spl (cutT s).1).length = 3 then atoiV ((spl (cutT s).1).getD 1 []) else 0, (cutT s).2⟩
def parseP (s : List UInt8) : FN := if (cutT s).1 = catB then ⟨4, 0, 0, (cutT s).2⟩ else if s = [] ∨ nameN (candP s) ≠ s then FN.zero else candP s
theorem suffix_no {x y : List UInt8} (h4 : y.length = 4) (h : y ≠ tmpB) : hasSuffix (x ++ y) tmpB = false := by
  refine Bool.eq_false_iff.2 fun e => h ?_
  unfold hasSuffix at e
  rw [List.isSuffixOf_iff_suffix] at e
  obtain ⟨z, hz⟩ := e
  have := List.append_inj_right' hz (by rw [h4]; rfl)
  exact this.symm
theorem suffix_yes (x : List UInt8) : hasSuffix (x ++ tmpB) tmpB = true := by
  unfold hasSuffix
  rw [List.isSuffixOf_iff_suffix]
  exact ⟨x, rfl⟩
theorem cut_name {b : List UInt8} (h : hasSuffix b tmpB = false) (t : Bool) : cutT (if t then b ++ tmpB else b) = (b, t) := by
  unfold cutT
  cases t with
  | false => simp [h]
  | true =>
    simp only [if_true, suffix_yes]
    congr 1
    have e : tmpB.length = 4 := rfl
    rw [List.length_append, e, Nat.add_sub_cancel, List.take_left]
/-- A name that is one, by its kind. -/
theorem name_cases {n : FN} {s : List UInt8} (h : nameN n = s) (hs : s ≠ []) : hasSuffix (baseN n) tmpB = false ∧ s = (if n.t then baseN n ++ tmpB else baseN n) ∧
    ((n.k = 1 ∧ okId n.id ∧ okSeg n.seg ∧ baseN n = 116 :: (dec n.id ++ 46 :: (dec n.seg ++ 46 :: segB))) ∨ (n.k = 2 ∧ okId n.id ∧ okSeg n.seg ∧ baseN n = 116 :: (dec n.id ++ 46 :: (dec n.seg ++ 46 :: hintB))) ∨
     (n.k = 3 ∧ okId n.id ∧ n.seg = 0 ∧ baseN n = 116 :: (dec n.id ++ 46 :: manBA)) ∨ (n.k = 4 ∧ n.id = 0 ∧ n.seg = 0 ∧ baseN n = catB)) := by
  unfold nameN at h
  by_cases hb : baseN n = []
  · rw [if_pos hb] at h; exact absurd h.symm hs
  · rw [if_neg hb] at h
    have key : (n.k = 1 ∧ okId n.id ∧ okSeg n.seg ∧ baseN n = 116 :: (dec n.id ++ 46 :: (dec n.seg ++ 46 :: segB))) ∨ (n.k = 2 ∧ okId n.id ∧ okSeg n.seg ∧ baseN n = 116 :: (dec n.id ++ 46 :: (dec n.seg ++ 46 :: hintB))) ∨
     (n.k = 3 ∧ okId n.id ∧ n.seg = 0 ∧ baseN n = 116 :: (dec n.id ++ 46 :: manBA)) ∨ (n.k = 4 ∧ n.id = 0 ∧ n.seg = 0 ∧ baseN n = catB) := by
      unfold baseN at hb ⊢
      split
      · rename_i h1; exact .inl ⟨h1.1, h1.2.1, h1.2.2, rfl⟩
      · rename_i h1
        rw [if_neg h1] at hb
        split
        · rename_i h2; exact .inr (.inl ⟨h2.1, h2.2.1, h2.2.2, rfl⟩)
        · rename_i h2
          rw [if_neg h2] at hb
          split
          · rename_i h3; exact .inr (.inr (.inl ⟨h3.1, h3.2.1, h3.2.2, rfl⟩))
          · rename_i h3
            rw [if_neg h3] at hb
            split
            · rename_i h4; exact .inr (.inr (.inr ⟨h4.1, h4.2.1, h4.2.2, rfl⟩))
            · rename_i h4; rw [if_neg h4] at hb; exact absurd rfl hb
    refine ⟨?_, h.symm, key⟩
    rcases key with ⟨_, _, _, e⟩ | ⟨_, _, _, e⟩ | ⟨_, _, _, e⟩ | ⟨_, _, _, e⟩
    · rw [e, show 116 :: (dec n.id ++ 46 :: (dec n.seg ++ 46 :: segB)) = (116 :: (dec n.id ++ 46 :: dec n.seg)) ++ (46 :: segB) by simp]
      exact suffix_no rfl (by decide)
    · rw [e, show 116 :: (dec n.id ++ 46 :: (dec n.seg ++ 46 :: hintB)) = (116 :: (dec n.id ++ 46 :: (dec n.seg ++ [46]))) ++ hintB by simp]
      exact suffix_no rfl (by decide)
    · rw [e, show 116 :: (dec n.id ++ 46 :: manBA) = (116 :: dec n.id) ++ (46 :: manBA) by simp]
      exact suffix_no rfl (by decide)
    · rw [e]; decide
theorem dot_t (n : Int) : (46 : UInt8) ∉ (116 :: dec n : List UInt8) := fun h => by
  rcases List.mem_cons.1 h with h | h
  · exact absurd h (by decide)
  · exact dot_dec _ h
theorem trim_t (l : List UInt8) : trimPrefix (116 :: l) [116] = l := by simp [trimPrefix, hasPrefix, List.isPrefixOf]
theorem parseP_name {n : FN} {s : List UInt8} (h : nameN n = s) (hs : s ≠ []) : parseP s = n := by
  obtain ⟨h1, h2, h3⟩ := name_cases h hs
  have hc : cutT s = (baseN n, n.t) := by rw [h2]; exact cut_name h1 n.t
  have hcat : ∀ l : List UInt8, (116 :: l : List UInt8) ≠ catB := fun l e => by unfold catB at e; injection e with e _; exact absurd e (by decide)
  unfold parseP
  rcases h3 with ⟨k, i, g, e⟩ | ⟨k, i, g, e⟩ | ⟨k, i, g, e⟩ | ⟨k, i, g, e⟩
  · have hsp : spl (baseN n) = [116 :: dec n.id, dec n.seg, segB] := by
      rw [e, ← List.cons_append, spl_dot _ _ (dot_t _), spl_dot (dec n.seg) _ (dot_dec _), spl_free segB (by decide)]
    have hcd : candP s = n := by
      unfold candP
      rw [hc]
      simp only [hsp]
      cases n
      simp only at k i g ⊢
      subst k
      simp [trim_t, atoiV_dec i.1 i.2, atoiV_dec (show (0 : Int) ≤ _ from by have := g.1; omega) g.2]
    rw [hcd, hc, if_neg (by rw [e]; exact hcat _), if_neg (by rintro (e1 | e1); exact hs e1; exact e1 h)]
  · have hsp : spl (baseN n) = [116 :: dec n.id, dec n.seg, hintB] := by
      rw [e, ← List.cons_append, spl_dot _ _ (dot_t _), spl_dot (dec n.seg) _ (dot_dec _), spl_free hintB (by decide)]
    have hcd : candP s = n := by
      unfold candP
      rw [hc]
      simp only [hsp]
      cases n
      simp only at k i g ⊢
      subst k
      simp [trim_t, atoiV_dec i.1 i.2, atoiV_dec (show (0 : Int) ≤ _ from by have := g.1; omega) g.2, show ¬ hintB = segB from by decide]
    rw [hcd, hc, if_neg (by rw [e]; exact hcat _), if_neg (by rintro (e1 | e1); exact hs e1; exact e1 h)]
  · have hsp : spl (baseN n) = [116 :: dec n.id, manBA] := by
      rw [e, ← List.cons_append, spl_dot _ _ (dot_t _), spl_free manBA (by decide)]
    have hcd : candP s = n := by
      unfold candP
      rw [hc]
      simp only [hsp]
      cases n
      simp only at k i g ⊢
      subst k g
      simp [trim_t, atoiV_dec i.1 i.2]
    rw [hcd, hc, if_neg (by rw [e]; exact hcat _), if_neg (by rintro (e1 | e1); exact hs e1; exact e1 h)]
  · rw [hc, if_pos e]
    cases n
    simp only at k i g
    subst k i g
    rfl
theorem parseP_says (s : List UInt8) : parseP s = FN.zero ∨ (s ≠ [] ∧ nameN (parseP s) = s) := by
  unfold parseP
  split
  · rename_i h
    right
    have hb : baseN ⟨4, 0, 0, (cutT s).2⟩ = catB := by unfold baseN; simp
    have hn : nameN ⟨4, 0, 0, (cutT s).2⟩ = if (cutT s).2 then catB ++ tmpB else catB := by unfold nameN; rw [hb, if_neg (by decide)]
    rw [hn]
    unfold cutT at h ⊢
    by_cases hx : hasSuffix s tmpB = true
    · rw [if_pos hx] at h ⊢
      simp only at h ⊢
      unfold hasSuffix at hx
      rw [List.isSuffixOf_iff_suffix] at hx
      obtain ⟨z, rfl⟩ := hx
      have e : tmpB.length = 4 := rfl
      rw [List.length_append, e, Nat.add_sub_cancel, List.take_left] at h
      subst h
      exact ⟨by decide, rfl⟩
    · rw [if_neg hx] at h ⊢
      simp only at h ⊢
      subst h
      exact ⟨by decide, rfl⟩
  · split
    · exact .inl rfl
    · rename_i h
      exact .inr ⟨fun e => h (.inl e), Classical.byContradiction fun e => h (.inr e)⟩
theorem name_inj {n m : FN} (h : nameN n = nameN m) (hs : nameN n ≠ []) : n = m := (parseP_name rfl hs).symm.trans (parseP_name h.symm hs)
/-- The document's digits: the number (1073741824 at most), and what stands behind. -/
def digR : Nat → List UInt8 → Nat × List UInt8
  | a, [] => (a, [])
  | a, b :: r => if 48 ≤ b.toNat ∧ b.toNat ≤ 57 then digR (min (a * 10 + (b.toNat - 48)) 1073741824) r else (a, b :: r)
theorem dig_dec : ∀ (u : Nat), u < 1073741824 → ∀ r, digR 0 (decDigits u ++ r) = digR u r := by
  intro u
  induction u using Nat.strongRecOn with
  | _ u ih =>
    intro hu r
    rw [decDigits]
    split
    · rename_i h
      rw [List.singleton_append, digR]
      have e : (UInt8.ofNat (48 + u)).toNat = 48 + u := by rw [UInt8.toNat_ofNat']; omega
      rw [e, if_pos (by omega)]
      congr 1
      omega
    · rename_i h
      rw [List.append_assoc, ih (u / 10) (by omega) (by omega), List.singleton_append, digR]
      have e : (UInt8.ofNat (48 + u % 10)).toNat = 48 + u % 10 := by rw [UInt8.toNat_ofNat']; omega
      rw [e, if_pos (by omega)]
      congr 1
      omega
def idsR : List UInt8 → Nat × Nat
  | [] => (0, 0)
  | b :: r => if b = 116 then ((digR 0 r).1, match (digR 0 r).2 with
    | [] => 0
    | _ :: r2 => (digR 0 r2).1) else (0, 0)
def candR (s : List UInt8) (k : Int) (t : Bool) : FN := ⟨k, if k ≠ 4 then (idsR s).1 else 0, if k = 1 ∨ k = 2 then (idsR s).2 else 0, t⟩
def candsR (s : List UInt8) : List FN := [candR s 1 false, candR s 1 true, candR s 2 false, candR s 2 true, candR s 3 false, candR s 3 true, candR s 4 false, candR s 4 true]
def parseR (s : List UInt8) : FN := ((candsR s).find? fun c => decide (nameN c ≠ [] ∧ nameN c = s)).getD FN.zero
theorem dig_stop {b : UInt8} (h : ¬ (48 ≤ b.toNat ∧ b.toNat ≤ 57)) (a : Nat) (r : List UInt8) : digR a (b :: r) = (a, b :: r) := by rw [digR, if_neg h]
theorem ids_two {n m : Int} (hn : okId n) (hm : okSeg m) {r : List UInt8} (hr : ∃ b x, r = b :: x ∧ ¬ (48 ≤ b.toNat ∧ b.toNat ≤ 57)) : idsR (116 :: (dec n ++ 46 :: (dec m ++ r))) = (n.toNat, m.toNat) := by
  obtain ⟨b, x, rfl, hb⟩ := hr
  unfold idsR dec
  dsimp only
  rw [if_pos rfl, dig_dec _ (by have := hn.2; omega), dig_stop (by decide)]
  simp only
  rw [dig_dec _ (by have := hm.2; omega), dig_stop hb]
theorem ids_one {n : Int} (hn : okId n) {r : List UInt8} : (idsR (116 :: (dec n ++ 46 :: r))).1 = n.toNat := by
  unfold idsR dec
  dsimp only
  rw [if_pos rfl, dig_dec _ (by have := hn.2; omega), dig_stop (by decide)]
theorem cand_mem {n : FN} {s : List UInt8} (h : nameN n = s) (hs : s ≠ []) : n ∈ candsR s := by
  obtain ⟨h1, h2, h3⟩ := name_cases h hs
  have key : n = candR s n.k n.t ∧ (n.k = 1 ∨ n.k = 2 ∨ n.k = 3 ∨ n.k = 4) := by
    rcases h3 with ⟨k, i, g, e⟩ | ⟨k, i, g, e⟩ | ⟨k, i, g, e⟩ | ⟨k, i, g, e⟩
    · have hid : idsR s = (n.id.toNat, n.seg.toNat) := by
        rw [h2, e]
        split
        · rw [show (116 :: (dec n.id ++ 46 :: (dec n.seg ++ 46 :: segB))) ++ tmpB = 116 :: (dec n.id ++ 46 :: (dec n.seg ++ (46 :: (segB ++ tmpB)))) by simp]
          exact ids_two i g ⟨46, _, rfl, by decide⟩
        · exact ids_two i g ⟨46, _, rfl, by decide⟩
      refine ⟨?_, .inl k⟩
      unfold candR
      rw [hid]
      have i1 := i.1
      have g1 := g.1
      cases n
      simp only at k i1 g1 ⊢
      subst k
      simp
      omega
    · have hid : idsR s = (n.id.toNat, n.seg.toNat) := by
        rw [h2, e]
        split
        · rw [show (116 :: (dec n.id ++ 46 :: (dec n.seg ++ 46 :: hintB))) ++ tmpB = 116 :: (dec n.id ++ 46 :: (dec n.seg ++ (46 :: (hintB ++ tmpB)))) by simp]
          exact ids_two i g ⟨46, _, rfl, by decide⟩
        · exact ids_two i g ⟨46, _, rfl, by decide⟩
      refine ⟨?_, .inr (.inl k)⟩
      unfold candR
      rw [hid]
      have i1 := i.1
      have g1 := g.1
      cases n
      simp only at k i1 g1 ⊢
      subst k
      simp
      omega
    · have hid : (idsR s).1 = n.id.toNat := by
        rw [h2, e]
        split
        · rw [show (116 :: (dec n.id ++ 46 :: manBA)) ++ tmpB = 116 :: (dec n.id ++ 46 :: (manBA ++ tmpB)) by simp]
          exact ids_one i
        · exact ids_one i
      refine ⟨?_, .inr (.inr (.inl k))⟩
      unfold candR
      rw [hid]
      have i1 := i.1
      cases n
      simp only at k i1 g ⊢
      subst k g
      simp
      omega
    · refine ⟨?_, .inr (.inr (.inr k))⟩
      unfold candR
      cases n
      simp only at k i g ⊢
      subst k i g
      simp
  obtain ⟨e, hk⟩ := key
  rw [e]
  unfold candsR
  rcases hk with k | k | k | k <;> rw [k] <;> cases n.t <;> simp
theorem parseR_name {n : FN} {s : List UInt8} (h : nameN n = s) (hs : s ≠ []) : parseR s = n := by
  unfold parseR
  cases hf : (candsR s).find? fun c => decide (nameN c ≠ [] ∧ nameN c = s) with
  | none =>
    have := List.find?_eq_none.1 hf n (cand_mem h hs)
    simp [h, hs] at this
  | some c =>
    have h1 := List.find?_some hf
    simp only [decide_eq_true_eq] at h1
    exact name_inj (h1.2.trans h.symm) h1.1
theorem parseR_says (s : List UInt8) : parseR s = FN.zero ∨ (s ≠ [] ∧ nameN (parseR s) = s) := by
  unfold parseR
  cases hf : (candsR s).find? fun c => decide (nameN c ≠ [] ∧ nameN c = s) with
  | none => exact .inl rfl
  | some c =>
    have h1 := List.find?_some hf
    simp only [decide_eq_true_eq] at h1
    exact .inr ⟨h1.2 ▸ h1.1, h1.2⟩
/-- Both say the same of every name. -/
theorem parse_same (s : List UInt8) : parseP s = parseR s := by
  rcases parseP_says s with h1 | ⟨h1, h2⟩
  · rcases parseR_says s with h3 | ⟨h3, h4⟩
    · rw [h1, h3]
    · exact parseP_name h4 h3
  · exact (parseR_name h2 h1).symm
end Go.Proofs.YtdeaefbjddodjaaGreatDoor
