import Derived.Test.YtjgdjfmgkmegfaaMan27
/- Catalogues: the bytes of any catalogue, the catalogue of any bytes; and the law ManifestCatalogues walked whole. -/
namespace Go.Proofs.Ytjgdjfmgkmegfaa
open Go.RowKit Go.Maps

/- Catalogues' bytes: EncodeCatalogue of both sides. -/

def topB (t : T4) : List UInt8 := uvarI t.id ++ textB t.name ++ uvarI t.limit ++ uvarI t.hor
def bodyC (nid : Int) (l : List T4) : List UInt8 := uvarI nid ++ uvarI l.length ++ l.flatMap topB
/-- The bytes of a catalogue; none, if it may not be. -/
noncomputable def encC (nid : Int) (l : List T4) : List UInt8 := if catR nid l = true then wrapB 183 (bodyC nid l) else []
theorem nameE_size {s : ByteArray} (h : nameE s = 0) : s.size ≤ 24 := by
  unfold nameE at h
  split at h
  · rename_i hb
    simp only [nameB, Bool.and_eq_true, decide_eq_true_eq] at hb
    exact hb.1.2
  · cases h
theorem catGo_facts {nid : Int} : ∀ {l : List T4} {seen : List Int} {prev : Option ByteArray}, catGo nid seen prev l = true → ∀ t ∈ l, (1 ≤ t.id ∧ t.id < nid) ∧ t.name.size ≤ 24 ∧ (256 ≤ t.limit ∧ t.limit ≤ 65536) ∧ 0 ≤ t.hor ∧ t.hor ≤ 1099511627776
  | [], _, _, _, t, ht => by cases ht
  | q :: l, _, _, h, t, ht => by
    simp only [catGo, Bool.and_eq_true, decide_eq_true_eq] at h
    obtain ⟨⟨_, h1, h2, _, h3, h4⟩, h5⟩ := h
    rcases List.mem_cons.1 ht with rfl | ht
    · exact ⟨h2, nameE_size h1, h3, h4⟩
    · exact catGo_facts h5 t ht
theorem catR_facts {nid : Int} {l : List T4} (h : catR nid l = true) : 1 ≤ nid ∧ nid ≤ 1073741824 ∧ l.length ≤ 16 ∧ ∀ t ∈ l, (1 ≤ t.id ∧ t.id < nid) ∧ t.name.size ≤ 24 ∧ (256 ≤ t.limit ∧ t.limit ≤ 65536) ∧ 0 ≤ t.hor ∧ t.hor ≤ 1099511627776 := by
  simp only [catR, Bool.and_eq_true, decide_eq_true_eq] at h
  obtain ⟨⟨⟨h1, h2⟩, h3⟩, h4⟩ := h
  exact ⟨h1, h2, h3, catGo_facts h4⟩

set_option maxRecDepth 100000 in
set_option maxHeartbeats 8000000 in
theorem refEncodeC (nid : Int) (A : Option Addr) (c : Nat) (l : List T4) (w : World) (hA : Rd w w.heap.size A (l.flatMap quad)) :
    Calls Try.prog 33 #[.agg #[.int .i64 nid, .slice A l.length c]] w fun e w' =>
      ∃ b cap, e = .returned (.tuple #[.slice b (encC nid l).length cap, .int .i64 (catE nid l)]) ∧
        w'.ownsRow w.heap.size 5 1 (.slice b (encC nid l).length cap) (encC nid l).length (bv (encC nid l)) ∧ Below w.heap.size w w' := by
  have hb0 : Below w.heap.size w (w.alloc (.cells #[.int .i64 nid, .slice A l.length c] 28)) := (Below.refl _ _).alloc (Nat.le_refl _) _
  have hX0 := Box.new w 28 #[.int .i64 nid, .slice A l.length c]
  have Hb0 := Lib.hid hb0
  have HX0 := Lib.hid hX0
  have HA := Lib.hid hA
  clear hb0 hX0 hA
  cases hr : catR nid l with
  | false =>
    have HE := Lib.hid (show catE nid l = 71 by rw [catE, hr]; rfl)
    have HL := Lib.hid (show encC nid l = [] by rw [encC, hr]; rfl)
    clear hr
    go_enter Try.func33, Try.ntmps33
    go_wp2_with (go_at_call 16; refine (refCheckCat_any nid A c l _ ((HA.out.below Hb0.out).mono (by simp))).mono ?_; rintro e w1 ⟨he, hb1⟩; rw [HE.out] at he; subst he; have Hb1 := Lib.hid hb1; clear hb1)
    go_ret2
    rw [HL.out, HE.out]
    exact ⟨none, 0, rfl, nil_own _ _ _ _, Hb0.out.trans (Hb1.out.mono (by simp))⟩
  | true =>
    have HE := Lib.hid (show catE nid l = 0 by rw [catE, hr]; rfl)
    have HL := Lib.hid (show encC nid l = wrapB 183 (bodyC nid l) by rw [encC, hr]; rfl)
    obtain ⟨a1, a2, a3, fpr⟩ := catR_facts hr
    have Fpr := Lib.hid fpr
    clear hr fpr
    go_enter Try.func33, Try.ntmps33
    go_wp2_with (first
      | (go_at_call 16; refine (refCheckCat_any nid A c l _ ((HA.out.below Hb0.out).mono (by simp))).mono ?_; rintro e w1 ⟨he, hb1⟩; rw [HE.out] at he; subst he; have HX := Lib.hid (HX0.out.below hb1 (by simp)); have Hb1 := Lib.hid (Hb0.out.trans (hb1.mono (by simp))); have hsz1 : w.heap.size < w1.heap.size := by (have := hb1.size; simp at this; omega)
         have hcx1 := HX.out.cell
         clear hb1)
      | (go_at_call 49; refine (rwNew _).mono ?_; rintro e w2 ⟨rfl, hw2, hb2⟩; have S := Lib.hid (WS.new (B := w.heap.size + 1) (by omega) hw2 hb2); have hcx2 := (HX.out.below hb2 HX.out.lt).cell; have L : Hid (([] : List UInt8).length ≤ 0) := by (show _ ≤ 0; simp)
         clear hw2 hb2)
      | (go_at_call 50; refine (rwUv S.out L.out (by omega) _ (by omega) (by omega)).mono ?_; rintro e wq ⟨rfl, gq, s1, s2, s3, s4⟩; have S' := Lib.hid s1; have L' := Lib.hid s2; have hX' := HX.out.below s1.below (by omega); have hcx' := hX'.cell; clear s1 s2 s3 s4 S L; have S := S'; have L := L'; clear S' L' hX'))
    go_loopw [6] (fun i wr => ∃ (k : Nat) (g : Option Nat) (b : List UInt8), k ≤ l.length ∧ i = .int .i64 k ∧ WS (w.heap.size + 1) w1 wr 101 w1.heap.size g b ∧ b.length ≤ 60 + 70 * k ∧
        b = uvarI nid ++ uvarI l.length ++ (l.take k).flatMap topB)
      (fun i _ => l.length - (intOf i).toNat)
    case atStart => exact ⟨0, _, _, Nat.zero_le _, rfl, S.out, by have := L.out; omega, by simp⟩
    case round =>
      clear S L
      obtain ⟨m, g, b, hm, rfl, hS, hL, hl⟩ := hrel
      have S := Lib.hid hS
      have L := Lib.hid hL
      have Hl := Lib.hid hl
      have hcx4 := (HX.out.below hS.below (by omega)).cell
      clear hS hL hl
      by_cases hlt : m < l.length
      · have hpc := fun (W : World) (hW : Below (w.heap.size + 1) w1 W) => (HA.out.below (Hb1.out.trans (hW.mono (by omega)))).quad_ hlt
        obtain ⟨ad, rfl, _, hp1, hp2, hp3, hp4⟩ := hpc _ S.out.below
        have Hpc := Lib.hid hpc
        clear hpc
        have hpr := Fpr.out _ (List.getElem_mem hlt)
        have Hs := Lib.hid (flat_take l topB m hlt)
        have Hq : Hid (∀ (W : World), Below (w.heap.size + 1) w1 W → W.cell? (ad.add (m * 4)) = some (.int .i64 l[m].id) ∧
            W.cell? ⟨(ad.add (m * 4)).block, (ad.add (m * 4)).off + 1, none⟩ = some (.string l[m].name) ∧ W.cell? ⟨(ad.add (m * 4)).block, (ad.add (m * 4)).off + 2, none⟩ = some (.int .i64 l[m].limit) ∧ W.cell? ⟨(ad.add (m * 4)).block, (ad.add (m * 4)).off + 3, none⟩ = some (.int .i64 l[m].hor)) := fun W hW => by
          obtain ⟨ad', e, _, h⟩ := Hpc.out W hW
          cases e
          exact h
        clear Hpc
        generalize l[m] = pm at hp1 hp2 hp3 hp4 hpr Hs Hq
        obtain ⟨⟨q1, q2⟩, q3, ⟨q4, q5⟩, q6, q7⟩ := hpr
        go_wp2_with (first
          | (go_at_call 50; refine (rwUv S.out L.out (by omega) _ (by omega) (by omega)).mono ?_; rintro e wq ⟨rfl, gq, s1, s2, s3, s4⟩; have S' := Lib.hid s1; have L' := Lib.hid s2; have hX' := HX.out.below s1.below (by omega); have hcx' := hX'.cell; obtain ⟨hp1', hp2', hp3', hp4'⟩ := Hq.out _ s1.below; clear s1 s2 s3 s4 S L; have S := S'; have L := L'; clear S' L' hX')
          | (go_at_call 63; refine (rwTx S.out L.out (by omega) pm.name 24 q3 (by omega)).mono ?_; rintro e wq ⟨rfl, gq, s1, s2, s3, s4⟩; have S' := Lib.hid s1; have L' := Lib.hid s2; have hX' := HX.out.below s1.below (by omega); have hcx' := hX'.cell; obtain ⟨hp1', hp2', hp3', hp4'⟩ := Hq.out _ s1.below; clear s1 s2 s3 s4 S L; have S := S'; have L := L'; clear S' L' hX'))
        go_roundw
        case rel => exact ⟨m + 1, _, _, by omega, by go_num, S.out, by have := L.out; omega, by rw [Hs.out, ← List.append_assoc, ← Hl.out]; simp [topB]⟩
        case measure => simp [intOf]; omega
      · have hke : Hid (l.take m = l) := List.take_of_length_le (by omega)
        rw [hke.out] at Hl
        have Hbl := Lib.hid (show b.length = (bodyC nid l).length by rw [Hl.out]; rfl)
        have hbl : (bodyC nid l).length ≤ 1000000 := by have := L.out; rw [← Hbl.out]; omega
        go_wp2_with (first
          | (go_at_call 52; refine (rwBytesL _ _ _ (bodyC nid l) (bodyC nid l).length _ S.out.wr Hl.out rfl (by omega)).mono ?_; rintro e w5 ⟨b5, cap5, rfl, hown, hb5⟩; have S5 := Lib.hid (S.out.on hb5); have O5 := Lib.hid hown; clear hown hb5)
          | (go_at_call 51; refine (refWrap 183 _ (bodyC nid l).length _ (bodyC nid l) _ (ownsRow_rd O5.out) rfl (by omega)).mono ?_; rintro e w6 ⟨b6, cap6, rfl, hown, hb6⟩; have S6 := Lib.hid (S5.out.on hb6); have O6 := Lib.hid hown; clear hown hb6))
        go_ret2
        rw [HL.out, HE.out, wrapB_len]
        exact ⟨b6, cap6, rfl, ownsRow_le O6.out (Nat.le_trans Hb1.out.size S5.out.below.size), Hb1.out.trans (S6.out.below.mono (by omega))⟩

set_option maxRecDepth 100000 in
set_option maxHeartbeats 8000000 in
theorem octEncodeC (nid : Int) (A : Option Addr) (c : Nat) (l : List T4) (w : World) (hA : Rd w w.heap.size A (l.flatMap quad)) (hws : ∀ t ∈ l, (Lit.int .i64 t.id).wf = true ∧ t.name.size ≤ maxLen) :
    Calls Try.prog 32 #[.agg #[.int .i64 nid, .slice A l.length c]] w fun e w' =>
      ∃ b cap, e = .returned (.tuple #[.slice b (encC nid l).length cap, .int .i64 (catE nid l)]) ∧
        w'.ownsRow w.heap.size 5 1 (.slice b (encC nid l).length cap) (encC nid l).length (bv (encC nid l)) ∧ Below w.heap.size w w' := by
  have hb0 : Below w.heap.size w (w.alloc (.cells #[.int .i64 nid, .slice A l.length c] 28)) := (Below.refl _ _).alloc (Nat.le_refl _) _
  have hX0 := Box.new w 28 #[.int .i64 nid, .slice A l.length c]
  have Hb0 := Lib.hid hb0
  have HX0 := Lib.hid hX0
  have HA := Lib.hid hA
  clear hb0 hX0 hA
  cases hr : catR nid l with
  | false =>
    have HE := Lib.hid (show catE nid l = 71 by rw [catE, hr]; rfl)
    have HL := Lib.hid (show encC nid l = [] by rw [encC, hr]; rfl)
    clear hr
    go_enter Try.func32, Try.ntmps32
    go_wp2_with (go_at_call 12; refine (checkCat_any nid A c l _ ((HA.out.below Hb0.out).mono (by simp)) hws).mono ?_; rintro e w1 ⟨he, hb1⟩; rw [HE.out] at he; subst he; have Hb1 := Lib.hid hb1; clear hb1)
    go_ret2
    rw [HL.out, HE.out]
    exact ⟨none, 0, rfl, nil_own _ _ _ _, Hb0.out.trans (Hb1.out.mono (by simp))⟩
  | true =>
    have HE := Lib.hid (show catE nid l = 0 by rw [catE, hr]; rfl)
    have HL := Lib.hid (show encC nid l = wrapB 183 (bodyC nid l) by rw [encC, hr]; rfl)
    obtain ⟨a1, a2, a3, fpr⟩ := catR_facts hr
    have Fpr := Lib.hid fpr
    clear hr fpr
    go_enter Try.func32, Try.ntmps32
    go_wp2_with (first
      | (go_at_call 12; refine (checkCat_any nid A c l _ ((HA.out.below Hb0.out).mono (by simp)) hws).mono ?_; rintro e w1 ⟨he, hb1⟩; rw [HE.out] at he; subst he; have HX := Lib.hid (HX0.out.below hb1 (by simp)); have Hb1 := Lib.hid (Hb0.out.trans (hb1.mono (by simp))); have hsz1 : w.heap.size < w1.heap.size := by (have := hb1.size; simp at this; omega)
         have hcx1 := HX.out.cell
         clear hb1)
      | (go_at_call 45; refine (wNew _).mono ?_; rintro e w2 ⟨rfl, hw2, hb2⟩; have S := Lib.hid (WS.new (B := w.heap.size + 1) (by omega) hw2 hb2); have hcx2 := (HX.out.below hb2 HX.out.lt).cell; have L : Hid (([] : List UInt8).length ≤ 0) := by (show _ ≤ 0; simp)
         clear hw2 hb2)
      | (go_at_call 46; refine (wUv S.out L.out (by omega) _ (by omega) (by omega)).mono ?_; rintro e wq ⟨rfl, gq, s1, s2, s3, s4⟩; have S' := Lib.hid s1; have L' := Lib.hid s2; have hX' := HX.out.below s1.below (by omega); have hcx' := hX'.cell; clear s1 s2 s3 s4 S L; have S := S'; have L := L'; clear S' L' hX'))
    go_loopw [28] (fun i wr => ∃ (k : Nat) (g : Option Nat) (b : List UInt8), k ≤ l.length ∧ i = .int .i64 k ∧ WS (w.heap.size + 1) w1 wr 92 w1.heap.size g b ∧ b.length ≤ 60 + 70 * k ∧
        b = uvarI nid ++ uvarI l.length ++ (l.take k).flatMap topB)
      (fun i _ => l.length - (intOf i).toNat)
    case atStart => exact ⟨0, _, _, Nat.zero_le _, rfl, S.out, by have := L.out; omega, by simp⟩
    case round =>
      clear S L
      obtain ⟨m, g, b, hm, rfl, hS, hL, hl⟩ := hrel
      have S := Lib.hid hS
      have L := Lib.hid hL
      have Hl := Lib.hid hl
      have hcx4 := (HX.out.below hS.below (by omega)).cell
      clear hS hL hl
      by_cases hlt : m < l.length
      · obtain ⟨ad, rfl, _, hp1, hp2, hp3, hp4⟩ := (HA.out.below (Hb1.out.trans (S.out.below.mono (by omega)))).quad_ hlt
        have hpr := Fpr.out _ (List.getElem_mem hlt)
        have Hs := Lib.hid (flat_take l topB m hlt)
        generalize l[m] = pm at hp1 hp2 hp3 hp4 hpr Hs
        obtain ⟨⟨q1, q2⟩, q3, ⟨q4, q5⟩, q6, q7⟩ := hpr
        have HQ := Lib.hid (Box.new wr 60 #[.int .i64 pm.id, .string pm.name, .int .i64 pm.limit, .int .i64 pm.hor])
        have S' := Lib.hid (S.out.on ((Below.refl _ _).alloc (Nat.le_refl _) (.cells #[.int .i64 pm.id, .string pm.name, .int .i64 pm.limit, .int .i64 pm.hor] 60)))
        have G : Hid (∀ k, g = some k → wr.heap.size ≠ k) := fun k hk => by have := S.out.wr.glt hk; omega
        have hpw : w1.heap.size < wr.heap.size := S.out.wr.lt
        clear S
        have S := S'
        clear S'
        go_wp2_with (first
          | (go_at_call 46; refine (wUv S.out L.out (by omega) _ (by omega) (by omega)).mono ?_; rintro e wq ⟨rfl, gq, s1, s2, s3, s4⟩; have S' := Lib.hid s1; have L' := Lib.hid s2; have hX' := HX.out.below s1.below (by omega); have hcx' := hX'.cell; have HQ' := Lib.hid (HQ.out.chg s3 (by rintro (e | e); exact absurd e (by omega); exact absurd rfl (G.out _ e.symm))); have hcq' := HQ'.out.cell; have G' : Hid (∀ j, gq = some j → wr.heap.size ≠ j) := (by rcases s4 with s4 | ⟨k', s4, s5⟩; exact fun j hj => G.out j (s4.symm.trans hj); exact fun j hj => (by rw [s4] at hj; cases hj; have := HQ.out.lt; omega)); clear s1 s2 s3 s4 S L HQ G; have HQ := HQ'; have G := G'; clear HQ' G'; have S := S'; have L := L'; clear S' L' hX')
          | (go_at_call 62; refine (wTx S.out L.out (by omega) pm.name 24 q3 (by omega)).mono ?_; rintro e wq ⟨rfl, gq, s1, s2, s3, s4⟩; have S' := Lib.hid s1; have L' := Lib.hid s2; have hX' := HX.out.below s1.below (by omega); have hcx' := hX'.cell; have HQ' := Lib.hid (HQ.out.chg s3 (by rintro (e | e); exact absurd e (by omega); exact absurd rfl (G.out _ e.symm))); have hcq' := HQ'.out.cell; have G' : Hid (∀ j, gq = some j → wr.heap.size ≠ j) := (by rcases s4 with s4 | ⟨k', s4, s5⟩; exact fun j hj => G.out j (s4.symm.trans hj); exact fun j hj => (by rw [s4] at hj; cases hj; have := HQ.out.lt; omega)); clear s1 s2 s3 s4 S L HQ G; have HQ := HQ'; have G := G'; clear HQ' G'; have S := S'; have L := L'; clear S' L' hX'))
        go_roundw
        case rel => exact ⟨m + 1, _, _, by omega, by go_num, S.out, by have := L.out; omega, by rw [Hs.out, ← List.append_assoc, ← Hl.out]; simp [topB]⟩
        case measure => simp [intOf]; omega
      · have hke : Hid (l.take m = l) := List.take_of_length_le (by omega)
        rw [hke.out] at Hl
        have Hbl := Lib.hid (show b.length = (bodyC nid l).length by rw [Hl.out]; rfl)
        have hbl : (bodyC nid l).length ≤ 1000000 := by have := L.out; rw [← Hbl.out]; omega
        go_wp2_with (first
          | (go_at_call 48; refine (wBytesL _ _ _ (bodyC nid l) (bodyC nid l).length _ S.out.wr Hl.out rfl (by omega)).mono ?_; rintro e w5 ⟨b5, cap5, rfl, hown, hb5⟩; have S5 := Lib.hid (S.out.on hb5); have O5 := Lib.hid hown; clear hown hb5)
          | (go_at_call 47; refine (octWrap 183 _ (bodyC nid l).length _ (bodyC nid l) _ (ownsRow_rd O5.out) rfl (by omega)).mono ?_; rintro e w6 ⟨b6, cap6, rfl, hown, hb6⟩; have S6 := Lib.hid (S5.out.on hb6); have O6 := Lib.hid hown; clear hown hb6))
        go_ret2
        rw [HL.out, HE.out, wrapB_len]
        exact ⟨b6, cap6, rfl, ownsRow_le O6.out (Nat.le_trans Hb1.out.size S5.out.below.size), Hb1.out.trans (S6.out.below.mono (by omega))⟩

/- A catalogue's bytes as numbers and texts one behind the other. No program in sight. -/

inductive Tok where
  | num (v : Int)
  | txt (s : ByteArray)
def Tok.bytes : Tok → List UInt8
  | .num v => uvarI v
  | .txt s => textB s
def topT (t : T4) : List Tok := [.num t.id, .txt t.name, .num t.limit, .num t.hor]
def toksC (nid : Int) (l : List T4) : List Tok := [.num nid, .num (l.length : Int)] ++ l.flatMap topT
theorem topT_bytes (l : List T4) : (l.flatMap topT).flatMap Tok.bytes = l.flatMap topB := by
  induction l with
  | nil => rfl
  | cons p r ih => simp only [List.flatMap_cons, List.flatMap_append, ih]; simp [topT, topB, Tok.bytes]
theorem bodyC_toks (nid : Int) (l : List T4) : bodyC nid l = (toksC nid l).flatMap Tok.bytes := by
  simp only [toksC, bodyC, List.flatMap_append, topT_bytes]
  simp [Tok.bytes]
theorem topT_len (l : List T4) : (l.flatMap topT).length = 4 * l.length := by
  induction l with
  | nil => rfl
  | cons p r ih => simp only [List.flatMap_cons, List.length_append, ih, List.length_cons]; simp [topT]; omega
theorem topT_inj : ∀ {a b : List T4}, a.length = b.length → a.flatMap topT = b.flatMap topT → a = b
  | [], [], _, _ => rfl
  | [], _ :: _, h, _ => by cases h
  | _ :: _, [], h, _ => by cases h
  | ⟨a1, a2, a3, a4⟩ :: a, ⟨b1, b2, b3, b4⟩ :: b, h, e => by
    simp only [List.flatMap_cons, topT, List.cons_append, List.nil_append, List.cons.injEq, Tok.num.injEq, Tok.txt.injEq] at e
    obtain ⟨rfl, rfl, rfl, rfl, e⟩ := e
    rw [topT_inj (by simpa using h) e]
theorem toksC_2 {nid a b : Int} {l : List T4} {ys : List Tok} (h : toksC nid l = [.num a, .num b] ++ ys) : nid = a ∧ (l.length : Int) = b ∧ l.flatMap topT = ys := by
  simp only [toksC, List.cons_append, List.nil_append, List.cons.injEq, Tok.num.injEq] at h
  exact h
theorem toksC_inj {nid nid' : Int} {l l' : List T4} {ys : List Tok} (h : toksC nid l = toksC nid' l' ++ ys) : nid = nid' ∧ l = l' ∧ ys = [] := by
  have e0 : toksC nid' l' = [.num nid', .num (l'.length : Int)] ++ l'.flatMap topT := rfl
  rw [e0, List.append_assoc] at h
  obtain ⟨h1, h2, h3⟩ := toksC_2 h
  have hl : l.length = l'.length := by omega
  have h4 : l.flatMap topT ++ [] = l'.flatMap topT ++ ys := by simpa using h3
  obtain ⟨e3, e4⟩ := List.append_inj h4 (by rw [topT_len, topT_len, hl])
  exact ⟨h1, topT_inj hl e3, e4.symm⟩
/-- The next topic of a list that begins with ps. -/
theorem tok_next {l ps : List T4} {ys : List Tok} (hk : ps.length < l.length) (h : l.flatMap topT = ps.flatMap topT ++ ys) : ∃ t ∈ l, ∃ zs, ys = topT t ++ zs := by
  have e1 : l = l.take ps.length ++ l[ps.length] :: l.drop (ps.length + 1) := by rw [← List.drop_eq_getElem_cons hk, List.take_append_drop]
  have e2 : l.flatMap topT = (l.take ps.length).flatMap topT ++ (topT l[ps.length] ++ (l.drop (ps.length + 1)).flatMap topT) := by
    conv => lhs; rw [e1]
    rw [List.flatMap_append, List.flatMap_cons]
  rw [e2] at h
  obtain ⟨_, h2⟩ := List.append_inj h (by rw [topT_len, topT_len, List.length_take]; omega)
  exact ⟨_, List.getElem_mem hk, _, h2.symm⟩

/-- What was read so far are the bytes of xs. -/
def ConC (l : List UInt8) (s : RSt) (xs : List Tok) : Prop := s.fl = false → l.take s.at_ = xs.flatMap Tok.bytes
/-- If the bytes are a right catalogue's, xs are its first parts. -/
def CanC (l : List UInt8) (s : RSt) (xs : List Tok) : Prop := ∀ nid tl, catR nid tl = true → l = bodyC nid tl → s.fl = false ∧ ∃ ys, toksC nid tl = xs ++ ys ∧ l.drop s.at_ = ys.flatMap Tok.bytes
theorem ConC.start (l : List UInt8) : ConC l ⟨0, false⟩ [] := fun _ => rfl
theorem CanC.start (l : List UInt8) : CanC l ⟨0, false⟩ [] := fun nid tl _ hl => ⟨rfl, _, rfl, by rw [hl, bodyC_toks]; rfl⟩
theorem ConC.next {l : List UInt8} {s s' : RSt} {xs : List Tok} {v : Nat} (h : ConC l s xs) (hu : nxS l s = (v, s')) : ConC l s' (xs ++ [.num (v : Int)]) := fun hf => by
  obtain ⟨h1, h2⟩ := nxS_ok hu hf
  rw [h2, h h1, List.flatMap_append]
  simp [uvarI, Tok.bytes]
theorem ConC.count {l : List UInt8} {s s' : RSt} {xs : List Tok} {v most : Nat} (h : ConC l s xs) (hu : cnS most l s = (v, s')) : ConC l s' (xs ++ [.num (v : Int)]) := by
  unfold cnS at hu
  split at hu
  · exact h.next hu
  · cases hu
    intro hf
    have := badS_fl l (nxS l s).2
    rw [hf] at this; cases this
theorem txS_ok {m : Nat} {l t : List UInt8} {s s' : RSt} (hu : txS m l s = (t, s')) (hf : s'.fl = false) : s.fl = false ∧ l.take s'.at_ = l.take s.at_ ++ textB ⟨t.toArray⟩ := by
  unfold txS at hu
  split at hu
  · rename_i hx; cases hu; rw [hx] at hf; cases hf
  · rename_i hx
    split at hu
    · cases hu; cases hf
    · rename_i v k hr
      split at hu
      · rename_i hv
        cases hu
        refine ⟨by simpa using hx, ?_⟩
        have h1 := rdE_inv hr
        have hb := rdE_bound hr
        simp only [List.length_drop] at hb
        have hl : ((l.drop (s.at_ + k)).take v).length = v := by simp only [List.length_take, List.length_drop]; omega
        show l.take (s.at_ + k + v) = _
        rw [List.take_add, List.take_add, h1, textB]
        have e : (⟨((l.drop (s.at_ + k)).take v).toArray⟩ : ByteArray).size = v := by
          show ((l.drop (s.at_ + k)).take v).toArray.size = v
          rw [List.size_toArray]; exact hl
        rw [e, List.append_assoc]
      · cases hu; cases hf
theorem ConC.tx {m : Nat} {l t : List UInt8} {s s' : RSt} {xs : List Tok} (h : ConC l s xs) (hu : txS m l s = (t, s')) : ConC l s' (xs ++ [.txt ⟨t.toArray⟩]) := fun hf => by
  obtain ⟨h1, h2⟩ := txS_ok hu hf
  rw [h2, h h1, List.flatMap_append]
  simp [Tok.bytes]
/-- A reading of a number below m. -/
def RdN (m : Nat) (l : List UInt8) (s : RSt) (v : Int) (s' : RSt) : Prop := ∀ n r, s.fl = false → l.drop s.at_ = uvar n ++ r → n < m → v = (n : Int) ∧ s'.fl = false ∧ l.drop s'.at_ = r
theorem RdN.uv {l : List UInt8} {s s' : RSt} {v : Nat} (hu : uvS l s = (v, s')) : RdN 4611686018427387904 l s (wrap64 (v : Int)) s' := fun n r hf hl hn => by
  have := uvS_canon hf hl (by omega)
  rw [hu] at this
  obtain ⟨h1, h2, h3⟩ := this
  simp only at h1 h2 h3
  subst h1
  exact ⟨wrap_small hn, h2, h3⟩
theorem RdN.uv0 {l : List UInt8} {s s' : RSt} {v : Nat} (hu : uvS l s = (v, s')) : RdN 4611686018427387904 l s (v : Int) s' := fun n r hf hl hn => by
  obtain ⟨h1, h2, h3⟩ := RdN.uv hu n r hf hl hn
  have := uvS_canon hf hl (by omega)
  rw [hu] at this
  exact ⟨by have := this.1; simp only at this; omega, h2, h3⟩
theorem RdN.nx {l : List UInt8} {s s' : RSt} {v : Nat} (hu : nxS l s = (v, s')) : RdN 4611686018427387904 l s (v : Int) s' := fun n r hf hl hn => by
  obtain ⟨h1, h2, h3⟩ := uvS_canon hf hl (by omega)
  unfold nxS at hu
  rw [if_pos (by omega)] at hu
  rw [hu] at h1 h2 h3
  exact ⟨by simp only at h1; omega, h2, h3⟩
theorem RdN.cn {l : List UInt8} {s s' : RSt} {v most : Nat} (hu : cnS most l s = (v, s')) (hm : most < 1000000) : RdN (most + 1) l s (v : Int) s' := fun n r hf hl hn => by
  obtain ⟨h1, h2, h3⟩ := RdN.nx (v := (nxS l s).1) (s' := (nxS l s).2) rfl n r hf hl (by omega)
  unfold cnS at hu
  rw [if_pos (by omega)] at hu
  rw [hu] at h1 h2 h3
  exact ⟨h1, h2, h3⟩
theorem CanC.first {l : List UInt8} {s : RSt} {v : Int} (hu : RdN 4611686018427387904 l ⟨0, false⟩ v s) : CanC l s [.num v] := fun nid tl hr hl => by
  obtain ⟨a1, a2, a3, _⟩ := catR_facts hr
  obtain ⟨h1, h2, h3⟩ := hu nid.toNat _ rfl (show l.drop 0 = _ by rw [List.drop_zero, hl, bodyC, uvarI, List.append_assoc]) (by omega)
  have e : v = nid := by omega
  subst e
  exact ⟨h2, .num (tl.length : Int) :: tl.flatMap topT, rfl, by rw [h3, List.flatMap_cons, topT_bytes]; rfl⟩
theorem CanC.second {l : List UInt8} {s s' : RSt} {v n : Int} {m : Nat} (h : CanC l s [.num v]) (hm : 17 ≤ m) (hu : RdN m l s n s') : CanC l s' ([.num v, .num n] ++ ([] : List T4).flatMap topT) := fun nid tl hr hl => by
  obtain ⟨a1, a2, a3, _⟩ := catR_facts hr
  obtain ⟨hf, ys, e1, e2⟩ := h nid tl hr hl
  simp only [toksC, List.cons_append, List.nil_append, List.cons.injEq] at e1
  obtain ⟨e0, rfl⟩ := e1
  rw [List.flatMap_cons, Tok.bytes, uvarI] at e2
  obtain ⟨h1, h2, h3⟩ := hu _ _ hf e2 (by omega)
  have e : n = (tl.length : Int) := by omega
  subst e
  exact ⟨h2, tl.flatMap topT, by rw [toksC, e0]; rfl, h3⟩
theorem CanC.top {l : List UInt8} {s s1 s2 s3 s4 : RSt} {v x1 x3 x4 : Int} {t : List UInt8} {n : Nat} {ps : List T4} (h : CanC l s ([.num v, .num (n : Int)] ++ ps.flatMap topT)) (hk : ps.length < n)
    (h1 : RdN 4611686018427387904 l s x1 s1) (h2 : txS 24 l s1 = (t, s2)) (h3 : RdN 4611686018427387904 l s2 x3 s3) (h4 : RdN 4611686018427387904 l s3 x4 s4) :
    CanC l s4 ([.num v, .num (n : Int)] ++ (ps ++ [(⟨x1, ⟨t.toArray⟩, x3, x4⟩ : T4)]).flatMap topT) := fun nid tl hr hl => by
  obtain ⟨_, _, _, hfa⟩ := catR_facts hr
  obtain ⟨hf, ys, e1, e2⟩ := h nid tl hr hl
  rw [List.append_assoc] at e1
  obtain ⟨g1, g2, g3⟩ := toksC_2 e1
  obtain ⟨tt, ht, zs, rfl⟩ := tok_next (by omega) g3
  obtain ⟨⟨b1, b2⟩, b3, ⟨b4, b5⟩, b6, b7⟩ := hfa tt ht
  obtain ⟨_, a2, _, _⟩ := catR_facts hr
  simp only [topT, List.cons_append, List.nil_append, List.flatMap_cons, Tok.bytes, uvarI] at e2
  obtain ⟨c1, c2, c3⟩ := h1 _ _ hf e2 (by omega)
  obtain ⟨d1, d2, d3⟩ := txS_canon (m := 24) c2 c3 b3 (by omega)
  rw [h2] at d1 d2 d3
  simp only at d1 d2 d3
  obtain ⟨p1, p2, p3⟩ := h3 _ _ d2 d3 (by omega)
  obtain ⟨q1, q2, q3⟩ := h4 _ _ p2 p3 (by omega)
  have ee : (⟨x1, ⟨t.toArray⟩, x3, x4⟩ : T4) = tt := by
    obtain ⟨y1, y2, y3, y4⟩ := tt
    simp only at b1 b2 b4 b5 b6 b7 c1 d1 p1 q1
    have f1 : x1 = y1 := by omega
    have f3 : x3 = y3 := by omega
    have f4 : x4 = y4 := by omega
    have f2 : (⟨t.toArray⟩ : ByteArray) = y2 := by rw [d1]
    rw [f1, f2, f3, f4]
  refine ⟨q2, zs, ?_, q3⟩
  rw [ee, List.flatMap_append, e1]
  simp
theorem ConC.top {l : List UInt8} {s s1 s2 s3 s4 : RSt} {x1 x3 x4 : Nat} {t : List UInt8} {xs : List Tok} {ps : List T4} (h : ConC l s (xs ++ ps.flatMap topT)) (h1 : nxS l s = (x1, s1)) (h2 : txS 24 l s1 = (t, s2)) (h3 : nxS l s2 = (x3, s3)) (h4 : nxS l s3 = (x4, s4)) :
    ConC l s4 (xs ++ (ps ++ [(⟨(x1 : Int), ⟨t.toArray⟩, (x3 : Int), (x4 : Int)⟩ : T4)]).flatMap topT) := by
  have := (((h.next h1).tx h2).next h3).next h4
  simpa [topT] using this
theorem cat_end {l : List UInt8} {s : RSt} {nid : Int} {tl : List T4} (hc : ConC l s (toksC nid tl)) (hf : s.fl = false) (ha : s.at_ = l.length) (hr : catR nid tl = true) : encC nid tl = wrapB 183 l := by
  have h := hc hf
  rw [ha, List.take_length] at h
  rw [encC, if_pos hr, bodyC_toks, ← h]
theorem cat_only {l : List UInt8} {s : RSt} {nid nid' : Int} {tl tl' : List T4} (hc : CanC l s (toksC nid tl)) (hle : s.at_ ≤ l.length) (hr : catR nid' tl' = true) (he : encC nid' tl' = wrapB 183 l) : (nid' = nid ∧ tl' = tl) ∧ s.fl = false ∧ s.at_ = l.length := by
  rw [encC, if_pos hr] at he
  obtain ⟨hf, ys, h1, h2⟩ := hc nid' tl' hr (wrapB_inj he).symm
  obtain ⟨e1, e2, e3⟩ := toksC_inj h1
  subst e3
  refine ⟨⟨e1, e2⟩, hf, ?_⟩
  have := congrArg List.length h2
  simp at this
  omega
theorem cat_ref {bs l : List UInt8} {s : RSt} {v : Int} {n : Nat} {ps : List T4} (hc : CanC l s ([.num v, .num (n : Int)] ++ ps.flatMap topT)) (hp : ps.length = n ∨ 16 < n) (hb : bs.drop 9 = l) :
    ∀ nid' tl', catR nid' tl' = true → encC nid' tl' = bs → nid' = v ∧ tl' = ps := by
  intro nid' tl' hr he
  have hlb : l = bodyC nid' tl' := by rw [← hb, ← he, encC, if_pos hr]; rfl
  obtain ⟨_, ys, h1, _⟩ := hc _ _ hr hlb
  rw [List.append_assoc] at h1
  obtain ⟨g1, g2, g3⟩ := toksC_2 h1
  obtain ⟨_, _, h16, _⟩ := catR_facts hr
  have hl : tl'.length = ps.length := by omega
  have h4 : tl'.flatMap topT ++ [] = ps.flatMap topT ++ ys := by simpa using g3
  obtain ⟨e3, _⟩ := List.append_inj h4 (by rw [topT_len, topT_len, hl])
  exact ⟨g1, topT_inj hl e3⟩
theorem topB_len {t : T4} (h : t.name.size ≤ 24) : (topB t).length ≤ 64 := by
  have h1 := uvar_le t.id.toNat
  have h2 := uvar_le t.limit.toNat
  have h3 := uvar_le t.hor.toNat
  have h4 := uvar_le t.name.size
  have hz : t.name.data.toList.length = t.name.size := by rw [Array.length_toList, ByteArray.size_data]
  simp only [topB, textB, uvarI, List.length_append, hz]
  omega
theorem tops_len : ∀ {l : List T4}, (∀ t ∈ l, t.name.size ≤ 24) → (l.flatMap topB).length ≤ 64 * l.length
  | [], _ => by simp
  | t :: l, h => by
    have h1 := topB_len (h t (by simp))
    have h2 := tops_len (l := l) fun x hx => h x (by simp [hx])
    simp only [List.flatMap_cons, List.length_append, List.length_cons]
    omega
theorem bodyC_len {nid : Int} {l : List T4} (h : catR nid l = true) : (bodyC nid l).length ≤ 1100 := by
  obtain ⟨_, _, h16, hf⟩ := catR_facts h
  have h1 := tops_len (l := l) fun t ht => (hf t ht).2.1
  have h2 := uvar_le nid.toNat
  have h3 := uvar_le (l.length : Int).toNat
  simp only [bodyC, uvarI, List.length_append]
  omega
theorem encC_small (nid : Int) (l : List T4) : (encC nid l).length ≤ 1109 := by
  unfold encC
  split
  · rename_i h
    have := bodyC_len h
    rw [wrapB_len]; omega
  · simp

/- DecodeCatalogue of the program. -/

/-- What DecodeCatalogue answers of the bytes bs. -/
def DCat (bs : List UInt8) (w w' : World) (e : Ending) : Prop :=
  (∃ (nid : Int) (tl : List T4) (b1 : Option Addr) (c1 : Nat), catR nid tl = true ∧ encC nid tl = bs ∧ (∀ nid' tl', catR nid' tl' = true → encC nid' tl' = bs → nid' = nid ∧ tl' = tl) ∧
    e = .returned (.tuple #[.agg #[.int .i64 nid, .slice b1 tl.length c1], .int .i64 0]) ∧ w'.ownsRow w.heap.size 60 4 (.slice b1 tl.length c1) tl.length (tl.flatMap quad)) ∨
  ((∀ nid tl, catR nid tl = true → encC nid tl ≠ bs) ∧ e = .returned (.tuple #[.agg #[.int .i64 0, .slice none 0 0], .int .i64 72]))

/-- What DecodeCatalogue knows ahead of its catalogue: the reader, the box of it, the answer's place. -/
structure CN (w : World) (p nb : Nat) (l : List UInt8) (s : RSt) (W : World) : Prop where
  rd : ORd W p l s
  below : Below w.heap.size w W
  res : Box W w.heap.size 28 #[.int .i64 0, .slice none 0 0]
  nbx : Box W nb 79 #[.pointer (some ⟨p, 0, none⟩)]
  ord : w.heap.size < p ∧ p < nb
section
variable {w W W' : World} {p nb : Nat} {l : List UInt8} {s s' : RSt}
theorem CN.chg {S : Nat → Prop} (d : CN w p nb l s W) (hc : Chg S W W') (hS : ∀ k, S k → nb < k) : CN w p nb l s W' := by
  obtain ⟨o1, o2⟩ := d.ord
  exact ⟨d.rd.chg hc fun k hk => by have := hS k hk; omega, d.below.trans (hc.below d.below.size fun k hk => by have := hS k hk; omega), d.res.chg hc fun e => by have := hS _ e; omega, d.nbx.chg hc fun e => by have := hS _ e; omega, d.ord⟩
theorem CN.next (d : CN w p nb l s W) (hb : Below W.heap.size W W') : CN w p nb l s W' := d.chg (Chg.of_below hb fun _ => False) fun _ e => e.elim
theorem CN.ncell (d : CN w p nb l s W) : W.cell? ⟨nb, 0, none⟩ = some (.pointer (some ⟨p, 0, none⟩)) := d.nbx.cell 0
theorem CN.step (d : CN w p nb l s W) (h : RAft p l s' W W') : CN w p nb l s' W' := by
  obtain ⟨o1, o2⟩ := d.ord
  obtain ⟨h1, hc⟩ := h
  exact ⟨h1, d.below.trans (hc.below d.below.size fun k hk => by omega), d.res.chg hc (by omega), d.nbx.chg hc (by omega), d.ord⟩
end
/-- .. and its catalogue: the number, the row. -/
structure CM (w : World) (p nb mb : Nat) (l : List UInt8) (s : RSt) (v1 : Int) (b1 : Option Addr) (k1 c1 : Nat) (ps : List T4) (W : World) : Prop where
  dn : CN w p nb l s W
  mbx : Box W mb 28 #[.int .i64 v1, .slice b1 k1 c1]
  hm : nb < mb
  r1 : W.ownsRow (mb + 1) 60 4 (.slice b1 k1 c1) k1 (ps.flatMap quad)
section
variable {w W W' w8 : World} {p nb mb k1 c1 : Nat} {l : List UInt8} {s s' : RSt} {v1 : Int} {b1 : Option Addr} {ps : List T4}
theorem CM.start (d : CN w p nb l s W) (m : Box W mb 28 #[.int .i64 v1, .slice none 0 0]) (hm : nb < mb) : CM w p nb mb l s v1 none 0 0 [] W :=
  ⟨d, m, hm, nil_own _ _ _ _⟩
theorem CM.m1 (d : CM w p nb mb l s v1 b1 k1 c1 ps W) : W.cell? ⟨mb, 1, none⟩ = some (.slice b1 k1 c1) := d.mbx.cell 1
theorem CM.next (d : CM w p nb mb l s v1 b1 k1 c1 ps W) (hb : Below W.heap.size W W') : CM w p nb mb l s v1 b1 k1 c1 ps W' :=
  ⟨d.dn.next hb, d.mbx.below hb d.mbx.lt, d.hm, ownsRow_block d.r1 fun k hk => hb.block k (d.r1.lt k hk).2⟩
theorem CM.step (d : CM w p nb mb l s v1 b1 k1 c1 ps W) (h : RAft p l s' W W') : CM w p nb mb l s' v1 b1 k1 c1 ps W' := by
  have o := d.dn.ord
  have hm := d.hm
  exact ⟨d.dn.step h, d.mbx.chg h.2 (by omega), d.hm, ownsRow_block d.r1 fun k hk => h.2.block k (d.r1.lt k hk).2 (by have := (d.r1.lt k hk).1; omega)⟩
/-- A topic is appended, and the slice laid into its field. -/
theorem CM.top {g cap : Nat} {q : T4} (d : CM w p nb mb l s v1 b1 k1 c1 ps W) (hg : W.grownBy w8 (Value.slice b1 k1 c1).ownBlock) (hr : w8.ownsRow (mb + 1) 60 4 (.slice (some ⟨g, 0, none⟩) (k1 + 1) cap) (k1 + 1) (ps.flatMap quad ++ quad q)) :
    CM w p nb mb l s v1 (some ⟨g, 0, none⟩) (k1 + 1) cap (ps ++ [q]) (w8.setCell ⟨mb, 1, none⟩ (.slice (some ⟨g, 0, none⟩) (k1 + 1) cap)) := by
  have hlt : ∀ k, (Value.slice b1 k1 c1).ownBlock = some k → mb + 1 ≤ k := fun k hk => (d.r1.lt k hk).1
  have hm := d.hm
  have q1 : CN w p nb l s w8 := d.dn.chg (Chg.of_grown hg) fun k hk => by have := hlt k hk.symm; omega
  refine ⟨q1.chg (S := fun k => k = mb) ((Chg.refl (fun k => k = mb) w8).set1 rfl _ _) fun k hk => by omega, ?_, d.hm, ?_⟩
  · have := (d.mbx.grown hg fun e => by have := hlt _ e.symm; omega).set_ 1 (.slice (some ⟨g, 0, none⟩) (k1 + 1) cap)
    simpa using this
  · rw [List.flatMap_append]
    have h3 : (ps.flatMap quad ++ [q].flatMap quad) = ps.flatMap quad ++ quad q := by simp
    rw [h3]
    exact ownsRow_block hr fun k hk => Below.heap_setCell _ _ _ _ (by show k ≠ mb; have := (hr.lt k hk).1; omega)
end
/-- Every number of it is small, every name short. -/
def SmT (ps : List T4) : Prop := ∀ t ∈ ps, (0 ≤ t.id ∧ t.id < 4611686018427387904) ∧ t.name.size ≤ 24
theorem SmT.nil : SmT [] := fun x h => by cases h
theorem SmT.next {ps : List T4} {l t : List UInt8} {s s1 s2 : RSt} {x : Nat} {y z : Int} (h : SmT ps) (hu : nxS l s = (x, s1)) (ht : txS 24 l s1 = (t, s2)) (ha : s1.at_ ≤ l.length) : SmT (ps ++ [⟨(x : Int), ⟨t.toArray⟩, y, z⟩]) := fun q hq => by
  have h1 := nxS_lt l s
  rw [hu] at h1
  have h2 := (txS_le (most := 24) ha).2.2
  rw [ht] at h2
  simp only [List.mem_append, List.mem_singleton] at hq
  rcases hq with hq | rfl
  · exact h q hq
  · refine ⟨⟨?_, ?_⟩, ?_⟩
    · show (0 : Int) ≤ (x : Int); omega
    · simp only at h1; show (x : Int) < _; omega
    · show t.toArray.size ≤ 24
      rw [List.size_toArray]; exact h2
theorem SmT.wf {ps : List T4} (h : SmT ps) : ∀ t ∈ ps, (Lit.int .i64 t.id).wf = true ∧ t.name.size ≤ maxLen := fun x hx => by
  obtain ⟨⟨h1, h2⟩, h3⟩ := h x hx
  exact ⟨WalkArith.wf_i64 ⟨by omega, by omega⟩, by unfold maxLen; omega⟩
theorem dcat_yes {bs l : List UInt8} {w W W' : World} {p nb mb k1 c1 : Nat} {st : RSt} {v1 : Int} {b1 : Option Addr} {ps : List T4} (d : CM w p nb mb l st v1 b1 k1 c1 ps W)
    (hs : ps.length = k1) (hco : ConC l st (toksC v1 ps)) (hca : CanC l st (toksC v1 ps)) (hle : st.at_ ≤ l.length) (hE : st.fl = false ∧ st.at_ = l.length) (hr : catR v1 ps = true) (hbl : bs = wrapB 183 l)
    (hc : Chg (fun k => k = w.heap.size) W W') : DCat bs w W' (.returned (.tuple #[.agg #[.int .i64 v1, .slice b1 k1 c1], .int .i64 0])) := by
  have o := d.dn.ord
  have hm := d.hm
  subst hs
  refine .inl ⟨v1, ps, b1, c1, hr, ?_, ?_, rfl, ?_⟩
  · rw [hbl]; exact cat_end hco hE.1 hE.2 hr
  · intro nid' tl' hr' he'
    exact (cat_only hca hle hr' (he'.trans hbl)).1
  · exact ownsRow_low (ownsRow_block d.r1 fun k hk => hc.block k (d.r1.lt k hk).2 (by have := (d.r1.lt k hk).1; omega)) (by omega)
theorem chg2 (W : World) (B : Nat) (b0 b1 : Value) : Chg (fun k => k = B) W ((W.setCell ⟨B, 0, none⟩ b0).setCell ⟨B, 1, none⟩ b1) :=
  ((Chg.refl (fun k => k = B) W).set1 rfl _ _).set1 rfl _ _
theorem toksC_fin {v1 : Int} {n1 : Nat} {ps : List T4} (hp : ps.length = n1) : ([.num v1, .num (n1 : Int)] : List Tok) ++ ps.flatMap topT = toksC v1 ps := by
  subst hp; rfl

set_option maxRecDepth 100000 in
set_option maxHeartbeats 16000000 in
theorem manDecodeC (A : Option Addr) (n c : Nat) (bs : List UInt8) (w : World) (hA : Rd w w.heap.size A (bv bs)) (hn : bs.length = n) (hnc : n ≤ c) (hmx : n ≤ 140737488355000) :
    Calls Try.prog 34 #[.slice A n c] w fun e w' => DCat bs w w' e ∧ Below w.heap.size w w' := by
  have hb0 : Below w.heap.size w (w.alloc (.cells #[.int .i64 0, .slice none 0 0] 28)) := (Below.refl _ _).alloc (Nat.le_refl _) _
  have HB := Lib.hid hb0
  have HA := Lib.hid (hA.below hb0)
  have Hn := Lib.hid hn
  have HR0 := Lib.hid (Box.new w 28 #[.int .i64 0, .slice none 0 0])
  by_cases hx : ∃ l : List UInt8, l.length < 4294967296 ∧ bs = wrapB 183 l
  case neg =>
    have HN : Hid (∀ body : List UInt8, body.length < 4294967296 → bs ≠ wrapB 183 body) := fun body h1 h2 => hx ⟨body, h1, h2⟩
    have HNo : Hid (∀ nid tl, catR nid tl = true → encC nid tl ≠ bs) := fun nid tl hr he => by
      have h1 := bodyC_len hr
      rw [encC, if_pos hr] at he
      exact HN.out _ (by omega) he.symm
    clear hx hA hn hb0
    go_enter Try.func34, Try.ntmps34
    go_wp2_with (go_at_call 53; refine (octUnwrapNo 183 A n c bs _ HN.out (HA.out.mono (by simp)) Hn.out hnc hmx).mono ?_; rintro e w1 ⟨v, rfl, hb1⟩; have hz := HR0.out.below hb1 (by simp); have hzc := hz.cell; have hzl := hz.lt; have hzf := hz.free; have HB1 := Lib.hid (HB.out.trans (hb1.mono (by simp))); clear hb1 hz)
    refine bodyPost_ret (v := .tuple #[.agg #[.int .i64 0, .slice none 0 0], .int .i64 72]) ?_ rfl ?_
    · simp [results, Try.results34, go_sem, hzc]
    refine ⟨.inr ⟨HNo.out, rfl⟩, ?_⟩
    repeat (first | with_reducible exact HB1.out | refine Below.setCell ?_ (by simp) _)
  obtain ⟨i1, hi1, hz1, hs1, hy1⟩ := info_parts info_topic
  obtain ⟨l, hl32, hbl⟩ := hx
  have Hbl := Lib.hid hbl
  have hlx : l.length ≤ 4294967296 := by omega
  have Hlx : Hid (l.length ≤ 140737488355328) := by show _ ≤ _; omega
  clear hbl hA hn hb0
  rcases h1 : nxS l ⟨0, false⟩ with ⟨v1, s1⟩
  rcases h6 : cnS 16 l s1 with ⟨n1, s6⟩
  have hn1 : n1 ≤ 16 := by have := cnS_le 16 (l := l) (s := s1); rw [h6] at this; exact this
  have V1 := Lib.hid h1
  have V6 := Lib.hid h6
  clear h1 h6
  go_enter Try.func34, Try.ntmps34
  go_wp2_with (first
    | (go_at_call 53; refine (octUnwrapYes 183 A n c bs l _ Hbl.out hl32 (HA.out.mono (by simp)) Hn.out hnc hmx).mono ?_; rintro e w1 ⟨bb, cb, rfl, hrd, hb1⟩; have K1 := Lib.hid (And.intro hrd (And.intro (HB.out.trans (hb1.mono (by simp))) (HR0.out.below hb1 (by simp)))); clear hrd hb1)
    | (go_at_call 54; refine (octNewR bb l.length cb l _ K1.out.1 rfl Hlx.out).mono ?_; rintro e w2 ⟨p, rfl, hR, hp, hb2⟩; have hwp := K1.out.2.2.lt; have hpl := hR.lt; have D0 := Lib.hid (show CN w p w2.heap.size l ⟨0, false⟩ (w2.alloc (.cells #[.pointer (some ⟨p, 0, none⟩)] 79)) from ⟨hR.below (Below.al' _ _), (K1.out.2.1.trans (hb2.mono K1.out.2.1.size)).alloc (Nat.le_trans K1.out.2.1.size hb2.size) _, (K1.out.2.2.below hb2 hwp).alloc _, Box.new _ _ _, by omega, hpl⟩); clear hR hb2 K1)
    | (go_at_call 55; refine (octNext p l ⟨0, false⟩ _ D0.out.rd Hlx.out).mono ?_; rintro e w3 ⟨he, ha⟩; rw [V1.out] at he ha; simp only at he ha; subst he; have hd := D0.out.step ha; have hlt3 := hd.nbx.lt; have D1 := Lib.hid (CM.start (hd.next (Below.al' w3 (.cells #[.int .i64 v1, .slice none 0 0] 28))) (Box.new w3 28 #[.int .i64 v1, .slice none 0 0]) hlt3); have hnc1 := D1.out.dn.ncell; clear ha D0 hd)
    | (go_at_call 56; refine (octCount p 16 (by omega) l s1 _ D1.out.dn.rd Hlx.out).mono ?_; rintro e w8 ⟨he, ha⟩; rw [V6.out] at he ha; simp only at he ha; subst he; have D8 := Lib.hid (D1.out.step ha); clear ha D1 hnc1))
  generalize hmb : w3.heap.size = mb at D8
  go_loopw [24] (fun i wr => ∃ (k : Nat) (ps : List T4) (b : Option Addr) (cc : Nat) (st : RSt), k ≤ n1 ∧ i = .int .i64 k ∧ ps.length = k ∧ CM w p w2.heap.size mb l st v1 b k cc ps wr ∧ ConC l st (([.num (v1 : Int), .num (n1 : Int)] : List Tok) ++ ps.flatMap topT) ∧ CanC l st (([.num (v1 : Int), .num (n1 : Int)] : List Tok) ++ ps.flatMap topT) ∧ SmT ps)
    (fun i _ => n1 - (intOf i).toNat)
  case atStart =>
    refine ⟨0, [], none, 0, s6, Nat.zero_le _, rfl, rfl, D8.out, ?_, ?_, SmT.nil⟩
    · simpa using ((ConC.start l).next V1.out).count V6.out
    · exact (CanC.first (.nx V1.out)).second (by omega) (.cn V6.out (by omega))
  case round =>
    clear D8
    obtain ⟨k, ps, b, cc, st, hk, rfl, hpl2, hD, hCo, hCa, hSm⟩ := hrel
    have HD := Lib.hid hD
    have HP := Lib.hid (And.intro hpl2 (And.intro hCo (And.intro hCa hSm)))
    have hmc := hD.m1
    have hncl := hD.dn.ncell
    have hml := hD.mbx.lt
    have hmf := hD.mbx.free
    clear hD hpl2 hCo hCa hSm
    by_cases hlt : k < n1
    · rcases hv1 : nxS l st with ⟨x1, t1⟩
      rcases hv2 : txS 24 l t1 with ⟨x2, t2⟩
      rcases hv3 : nxS l t2 with ⟨x3, t3⟩
      rcases hv4 : nxS l t3 with ⟨x4, t4⟩
      have hta := nxS_le (l := l) HD.out.dn.rd.le
      rw [hv1] at hta
      have HTa := Lib.hid hta
      have X1 := Lib.hid hv1
      have X2 := Lib.hid hv2
      have X3 := Lib.hid hv3
      have X4 := Lib.hid hv4
      clear hv1 hv2 hv3 hv4 hta
      go_wp2
      have HDd := Lib.hid (HD.out.next (below_drew1 _))
      have hS0 := And.intro HDd.out.dn.ncell HDd.out.m1
      refine WT.start (fun w' => w'.cell? ⟨w2.heap.size, 0, none⟩ = some (.pointer (some ⟨p, 0, none⟩)) ∧ w'.cell? ⟨mb, 1, none⟩ = some (.slice b k cc)) 15 (by kernel_rfl) ?_
      refine WT.take 0 (v := ?_) rfl (by kernel_rfl) (by kernel_rfl) (by kernel_rfl) (by kernel_rfl) (fun _ _ _ h => h) (Or.inl ⟨by rfl, ?hy⟩) hS0 ?_
      case hy => first | (intro w hSw; go_simp; done) | (intro w hSw; go_simp; with_reducible rfl)
      simp only [Act.put, List.setIfInBounds_toArray, List.set_cons_zero, List.set_cons_succ]
      refine WT.take 1 (v := ?_) rfl (by kernel_rfl) (by kernel_rfl) (by kernel_rfl) (by kernel_rfl) (fun _ _ _ h => h) (Or.inl ⟨by rfl, ?hy⟩) hS0 ?_
      case hy => first | (intro w hSw; go_simp; done) | (intro w hSw; go_simp; with_reducible rfl)
      simp only [Act.put, List.setIfInBounds_toArray, List.set_cons_zero, List.set_cons_succ]
      refine WT.take 2 (v := ?_) rfl (by kernel_rfl) (by kernel_rfl) (by kernel_rfl) (by kernel_rfl) (fun _ _ _ h => h) (Or.inl ⟨by rfl, ?hy⟩) hS0 ?_
      case hy => first | (intro w hSw; go_simp; done) | (intro w hSw; go_simp; with_reducible rfl)
      simp only [Act.put, List.setIfInBounds_toArray, List.set_cons_zero, List.set_cons_succ]
      refine WT.take 4 (v := ?_) rfl (by kernel_rfl) (by kernel_rfl) (by kernel_rfl) (by kernel_rfl) (fun _ _ _ h => h) (Or.inl ⟨by rfl, ?hy⟩) hS0 ?_
      case hy => first | (intro w hSw; go_simp; done) | (intro w hSw; go_simp; with_reducible rfl)
      simp only [Act.put, List.setIfInBounds_toArray, List.set_cons_zero, List.set_cons_succ]
      refine WT.take 5 (v := ?_) rfl (by kernel_rfl) (by kernel_rfl) (by kernel_rfl) (by kernel_rfl) (fun _ _ _ h => h) (Or.inl ⟨by rfl, ?hy⟩) hS0 ?_
      case hy => first | (intro w hSw; go_simp; done) | (intro w hSw; go_simp; with_reducible rfl)
      simp only [Act.put, List.setIfInBounds_toArray, List.set_cons_zero, List.set_cons_succ]
      refine WT.take 7 (v := ?_) rfl (by kernel_rfl) (by kernel_rfl) (by kernel_rfl) (by kernel_rfl) (fun _ _ _ h => h) (Or.inl ⟨by rfl, ?hy⟩) hS0 ?_
      case hy => first | (intro w hSw; go_simp; done) | (intro w hSw; go_simp; with_reducible rfl)
      simp only [Act.put, List.setIfInBounds_toArray, List.set_cons_zero, List.set_cons_succ]
      refine WT.take 9 (v := ?_) rfl (by kernel_rfl) (by kernel_rfl) (by kernel_rfl) (by kernel_rfl) (fun _ _ _ h => h) (Or.inl ⟨by rfl, ?hy⟩) hS0 ?_
      case hy => first | (intro w hSw; go_simp; done) | (intro w hSw; go_simp; with_reducible rfl)
      simp only [Act.put, List.setIfInBounds_toArray, List.set_cons_zero, List.set_cons_succ]
      refine WT.step 3 rfl (by kernel_rfl) (by decide) fun K hK => ?_
      go_simp
      go_at_call 55
      refine (octNext p l st _ HDd.out.dn.rd Hlx.out).mono ?_
      rintro e w10 ⟨he, ha⟩
      rw [X1.out] at he ha
      simp only at he ha
      subst he
      have G1 := Lib.hid (HDd.out.step ha)
      clear ha HDd hS0
      have hS1 := And.intro G1.out.dn.ncell G1.out.m1
      go_simp
      refine hK.out _ _ hS1 ?_
      clear hK K
      refine WT.step 6 rfl (by kernel_rfl) (by decide) fun K hK => ?_
      go_simp
      go_at_call 64
      refine (octTx p 24 l t1 _ G1.out.dn.rd Hlx.out (by omega)).mono ?_
      rintro e w11 ⟨he, ha⟩
      rw [X2.out] at he ha
      simp only [strV] at he ha
      subst he
      have G2 := Lib.hid (G1.out.step ha)
      clear ha G1 hS1
      have hS2 := And.intro G2.out.dn.ncell G2.out.m1
      go_simp
      refine hK.out _ _ hS2 ?_
      clear hK K
      refine WT.step 8 rfl (by kernel_rfl) (by decide) fun K hK => ?_
      go_simp
      go_at_call 55
      refine (octNext p l t2 _ G2.out.dn.rd Hlx.out).mono ?_
      rintro e w12 ⟨he, ha⟩
      rw [X3.out] at he ha
      simp only at he ha
      subst he
      have G3 := Lib.hid (G2.out.step ha)
      clear ha G2 hS2
      have hS3 := And.intro G3.out.dn.ncell G3.out.m1
      go_simp
      refine hK.out _ _ hS3 ?_
      clear hK K
      refine WT.step 10 rfl (by kernel_rfl) (by decide) fun K hK => ?_
      go_simp
      go_at_call 55
      refine (octNext p l t3 _ G3.out.dn.rd Hlx.out).mono ?_
      rintro e w13 ⟨he, ha⟩
      rw [X4.out] at he ha
      simp only at he ha
      subst he
      have G4 := Lib.hid (G3.out.step ha)
      clear ha G3 hS3
      have hS4 := And.intro G4.out.dn.ncell G4.out.m1
      go_simp
      refine hK.out _ _ hS4 ?_
      clear hK K
      refine WT.step 11 rfl (by kernel_rfl) (by decide) fun K hK => ?_
      go_simp
      refine hK.out _ _ hS4 ?_
      clear hK K
      refine WT.step 12 rfl (by kernel_rfl) (by decide) fun K hK => ?_
      go_simp
      have G5 := Lib.hid (G4.out.next (Below.al' w13 (.cells #[.int .i64 x1, .string ⟨x2.toArray⟩, .int .i64 x3, .int .i64 x4] 60)))
      refine hK.out _ _ (And.intro G5.out.dn.ncell G5.out.m1) ?_
      clear hK K
      refine WT.step 13 rfl (by kernel_rfl) (by decide) fun K hK => ?_
      refine step_append_lies _ (by rfl) _ _ _ (by rfl) (mb + 1) 60 i1 _ 4 40 Try.underlying26 hi1 hz1 hs1 hy1 rfl (by omega) (.slice b k cc) k (ps.flatMap quad) (by rfl) G5.out.r1
            ⟨w13.heap.size, 0, none⟩ 1 1 (quad ⟨(x1 : Int), ⟨x2.toArray⟩, (x3 : Int), (x4 : Int)⟩) (by rfl) (by rfl) (World.news_of_block (cs := #[.int .i64 x1, .string ⟨x2.toArray⟩, .int .i64 x3, .int .i64 x4]) (t := 60) (fr := (0, 0)) (heap_alloc_new w13 _)) (by simp [quad, Value.oneCell']) (by omega) (by unfold maxLen; omega) (by omega) (by have := G4.out.mbx.lt; simp; omega) (w13.heap.size + 1) (by simp) ?_
      intro g cap w14 hown hgrow hat hlt4
      have gr1 := (G5.out.dn.chg (Chg.of_grown hgrow) (fun j hj => by have := (G5.out.r1.lt j hj.symm).1; have := G5.out.hm; omega)).ncell
      have hq := G5.out.mbx.grown hgrow (fun e => by have := (G5.out.r1.lt _ e.symm).1; omega)
      have hqc := hq.cell
      have hqf := hq.free
      have hql := hq.lt
      have hq6 : w14.cell? ⟨mb, 1, none⟩ = some (.slice b k cc) := hq.cell 1
      have D9 := Lib.hid (G5.out.top hgrow hown)
      clear hq hown hgrow hat G5 G4
      go_simp
      refine hK.out _ _ (And.intro gr1 hq6) ?_
      clear hK K
      refine WT.step 14 rfl (by kernel_rfl) (by decide) fun K hK => ?_
      go_simp
      refine hK.out _ _ (And.intro gr1 hq6) ?_
      clear hK K
      refine WT.last 15 rfl (by kernel_rfl) rfl fun K hK => ?_
      go_simp
      refine hK.out _ _ ?_
      clear hK K
      refine WT.done (by kernel_rfl) ?_
      go_wp2
      go_roundw
      case rel => exact ⟨k + 1, ps ++ [⟨(x1 : Int), ⟨x2.toArray⟩, (x3 : Int), (x4 : Int)⟩], _, _, t4, by omega, by go_num, by simp [HP.out.1], D9.out, HP.out.2.1.top X1.out X2.out X3.out X4.out, HP.out.2.2.1.top (by have := HP.out.1; omega) (.nx X1.out) X2.out (.nx X3.out) (.nx X4.out), HP.out.2.2.2.next X1.out X2.out HTa.out⟩
      case measure => simp [intOf]; omega
    · obtain rfl : k = n1 := by omega
      have hle := HD.out.dn.rd.le
      have HF := Lib.hid (show ConC l st (toksC v1 ps) ∧ CanC l st (toksC v1 ps) ∧ SmT ps by rw [← toksC_fin HP.out.1]; exact HP.out.2)
      have hrc := HD.out.dn.res.cell
      have hrl := HD.out.dn.res.lt
      have hrf := HD.out.dn.res.free
      have hmk := HD.out.mbx.cell
      have hord := HD.out.dn.ord
      have hfd := field0
      by_cases hE : st.fl = false ∧ st.at_ = l.length
      case neg =>
        have HNo : Hid (∀ nid tl, catR nid tl = true → encC nid tl ≠ bs) := fun nid tl hr he => hE (cat_only HF.out.2.1 hle hr (he.trans Hbl.out)).2
        have HE := Lib.hid hE
        clear hE
        go_wp2_with (go_at_call 57; refine (octEnd p l st _ HD.out.dn.rd).mono ?_; rintro e w10 ⟨x, y, rfl, hx, hb6⟩; have hx0 : x ≠ 0 := (fun h => HE.out (hx.mpr h)); have hxb : (x != 0) = true := (by simpa using hx0); have hd := HD.out.next hb6; have hsc := hd.dn.res.cell; have hsl' := hd.dn.res.lt; have hsf := hd.dn.res.free; have hmk2 := hd.mbx.cell; have hml2 := hd.mbx.lt; have D10 := Lib.hid hd; clear hx hb6 hd)
        refine bodyPost_ret (v := .tuple #[.agg #[.int .i64 0, .slice none 0 0], .int .i64 72]) ?_ rfl ?_
        · simp [results, Try.results34, go_sem, hsc]
        refine ⟨.inr ⟨HNo.out, rfl⟩, ?_⟩
        repeat (first | with_reducible exact D10.out.dn.below | refine Below.setCell ?_ (by simp) _)
      have HE := Lib.hid hE
      clear hE
      by_cases hr : catR v1 ps = true
      case neg =>
        have HNo : Hid (∀ nid tl, catR nid tl = true → encC nid tl ≠ bs) := fun nid tl hr' he => by
          obtain ⟨⟨rfl, rfl⟩, _⟩ := cat_only HF.out.2.1 hle hr' (he.trans Hbl.out)
          exact hr hr'
        have HQ := Lib.hid (catE_bad (by simpa using hr))
        clear hr
        go_wp2_with (first
          | (go_at_call 57; refine (octEnd p l st _ HD.out.dn.rd).mono ?_; rintro e w10 ⟨x, y, rfl, hx, hb6⟩; obtain rfl : x = 0 := (hx.mp HE.out); have hd := HD.out.next hb6; have hsc := hd.dn.res.cell; have hsl' := hd.dn.res.lt; have hsf := hd.dn.res.free; have hmk2 := hd.mbx.cell; have hml2 := hd.mbx.lt; have D10 := Lib.hid hd; clear hx hb6 hd)
          | (go_at_call 12; rw [show k = ps.length from HP.out.1.symm]; refine (checkCat_any v1 _ cc ps _ (ownsRow_rd D10.out.r1) HF.out.2.2.wf).mono ?_; rintro e w11 ⟨he, hb7⟩; rw [← HQ.out] at he; subst he; have hd := D10.out.next hb7; have htc := hd.dn.res.cell; have htl := hd.dn.res.lt; have htf := hd.dn.res.free; have hmk3 := hd.mbx.cell; have hml3 := hd.mbx.lt; have D11 := Lib.hid hd; clear hb7 hd))
        refine bodyPost_ret (v := .tuple #[.agg #[.int .i64 0, .slice none 0 0], .int .i64 72]) ?_ rfl ?_
        · simp [results, Try.results34, go_sem, htc]
        refine ⟨.inr ⟨HNo.out, rfl⟩, ?_⟩
        repeat (first | with_reducible exact D11.out.dn.below | refine Below.setCell ?_ (by simp) _)
      have HQ := Lib.hid (catE_good hr)
      have HR := Lib.hid hr
      clear hr
      go_wp2_with (first
        | (go_at_call 57; refine (octEnd p l st _ HD.out.dn.rd).mono ?_; rintro e w10 ⟨x, y, rfl, hx, hb6⟩; obtain rfl : x = 0 := (hx.mp HE.out); have hd := HD.out.next hb6; have hsc := hd.dn.res.cell; have hsl' := hd.dn.res.lt; have hsf := hd.dn.res.free; have hmk2 := hd.mbx.cell; have hml2 := hd.mbx.lt; have D10 := Lib.hid hd; clear hx hb6 hd)
        | (go_at_call 12; rw [show k = ps.length from HP.out.1.symm]; refine (checkCat_any v1 _ cc ps _ (ownsRow_rd D10.out.r1) HF.out.2.2.wf).mono ?_; rintro e w11 ⟨he, hb7⟩; rw [← HQ.out] at he; subst he; have hd := D10.out.next hb7; have htc := hd.dn.res.cell; have htl := hd.dn.res.lt; have htf := hd.dn.res.free; have hmk3 := hd.mbx.cell; have hml3 := hd.mbx.lt; have D11 := Lib.hid hd; clear hb7 hd))
      refine bodyPost_ret (v := .tuple #[.agg #[.int .i64 v1, .slice b k cc], .int .i64 0]) ?_ rfl ?_
      · simp [results, Try.results34, go_sem, htc]
      refine ⟨dcat_yes D11.out HP.out.1 HF.out.1 HF.out.2.1 hle HE.out HR.out Hbl.out (chg2 _ _ _ _), ?_⟩
      repeat (first | with_reducible exact D11.out.dn.below | refine Below.setCell ?_ (by simp) _)

/- DecodeCatalogue of the document's answer. -/

structure KN (w : World) (p : Nat) (l : List UInt8) (s : RSt) (W : World) : Prop where
  rd : RRd W p l s
  below : Below w.heap.size w W
  res : Box W w.heap.size 28 #[.int .i64 0, .slice none 0 0]
  ord : w.heap.size < p
section
variable {w W W' : World} {p : Nat} {l : List UInt8} {s s' : RSt}
theorem KN.chg {S : Nat → Prop} (d : KN w p l s W) (hc : Chg S W W') (hS : ∀ k, S k → p < k) : KN w p l s W' := by
  have o1 := d.ord
  exact ⟨d.rd.chg hc hS, d.below.trans (hc.below d.below.size fun k hk => by have := hS k hk; omega), d.res.chg hc fun e => by have := hS _ e; omega, d.ord⟩
theorem KN.next (d : KN w p l s W) (hb : Below W.heap.size W W') : KN w p l s W' := d.chg (Chg.of_below hb fun _ => False) fun _ e => e.elim
theorem KN.step (d : KN w p l s W) (h : SAft p l s' W W') : KN w p l s' W' := by
  have o1 := d.ord
  obtain ⟨h1, hc⟩ := h
  exact ⟨h1, d.below.trans (hc.below d.below.size fun k hk => by omega), d.res.chg hc (by omega), d.ord⟩
end
structure KM (w : World) (p mb : Nat) (l : List UInt8) (s : RSt) (v1 : Int) (b1 : Option Addr) (k1 c1 : Nat) (ps : List T4) (W : World) : Prop where
  rn : KN w p l s W
  mbx : Box W mb 28 #[.int .i64 v1, .slice b1 k1 c1]
  hm : p < mb
  r1 : W.ownsRow (mb + 1) 60 4 (.slice b1 k1 c1) k1 (ps.flatMap quad)
section
variable {w W W' w8 : World} {p mb k1 c1 : Nat} {l : List UInt8} {s s' : RSt} {v1 : Int} {b1 : Option Addr} {ps : List T4}
theorem KM.start (d : KN w p l s W) (m : Box W mb 28 #[.int .i64 v1, .slice none 0 0]) (hm : p < mb) : KM w p mb l s v1 none 0 0 [] W :=
  ⟨d, m, hm, nil_own _ _ _ _⟩
theorem KM.next (d : KM w p mb l s v1 b1 k1 c1 ps W) (hb : Below W.heap.size W W') : KM w p mb l s v1 b1 k1 c1 ps W' :=
  ⟨d.rn.next hb, d.mbx.below hb d.mbx.lt, d.hm, ownsRow_block d.r1 fun k hk => hb.block k (d.r1.lt k hk).2⟩
theorem KM.step (d : KM w p mb l s v1 b1 k1 c1 ps W) (h : SAft p l s' W W') : KM w p mb l s' v1 b1 k1 c1 ps W' := by
  have o := d.rn.ord
  have hm := d.hm
  exact ⟨d.rn.step h, d.mbx.chg h.2 (by omega), d.hm, ownsRow_block d.r1 fun k hk => h.2.block k (d.r1.lt k hk).2 (by have := (d.r1.lt k hk).1; omega)⟩
theorem KM.top {g cap : Nat} {q : T4} (d : KM w p mb l s v1 b1 k1 c1 ps W) (hg : W.grownBy w8 (Value.slice b1 k1 c1).ownBlock) (hr : w8.ownsRow (mb + 1) 60 4 (.slice (some ⟨g, 0, none⟩) (k1 + 1) cap) (k1 + 1) (ps.flatMap quad ++ quad q)) :
    KM w p mb l s v1 (some ⟨g, 0, none⟩) (k1 + 1) cap (ps ++ [q]) (w8.setCell ⟨mb, 1, none⟩ (.slice (some ⟨g, 0, none⟩) (k1 + 1) cap)) := by
  have hlt : ∀ k, (Value.slice b1 k1 c1).ownBlock = some k → mb + 1 ≤ k := fun k hk => (d.r1.lt k hk).1
  have hm := d.hm
  have q1 : KN w p l s w8 := d.rn.chg (Chg.of_grown hg) fun k hk => by have := hlt k hk.symm; omega
  refine ⟨q1.chg (S := fun k => k = mb) ((Chg.refl (fun k => k = mb) w8).set1 rfl _ _) fun k hk => by omega, ?_, d.hm, ?_⟩
  · have := (d.mbx.grown hg fun e => by have := hlt _ e.symm; omega).set_ 1 (.slice (some ⟨g, 0, none⟩) (k1 + 1) cap)
    simpa using this
  · rw [List.flatMap_append]
    have h3 : (ps.flatMap quad ++ [q].flatMap quad) = ps.flatMap quad ++ quad q := by simp
    rw [h3]
    exact ownsRow_block hr fun k hk => Below.heap_setCell _ _ _ _ (by show k ≠ mb; have := (hr.lt k hk).1; omega)
theorem KM.set0 (d : KM w p mb l s v1 none 0 0 [] W) (u : Int) : KM w p mb l s u none 0 0 [] (W.setCell ⟨mb, 0, none⟩ (.int .i64 u)) :=
  KM.start (d.rn.chg (S := fun k => k = mb) ((Chg.refl (fun k => k = mb) W).set1 rfl _ _) fun k hk => by have := d.hm; omega) (by simpa using d.mbx.set_ 0 (.int .i64 u)) d.hm
end
/-- .. and one topic in its box. -/
structure KP (w : World) (p mb pb : Nat) (l : List UInt8) (s : RSt) (v1 : Int) (b1 : Option Addr) (k1 c1 : Nat) (ps : List T4) (x : Int) (y : ByteArray) (z u : Int) (W : World) : Prop where
  rm : KM w p mb l s v1 b1 k1 c1 ps W
  pbx : Box W pb 60 #[.int .i64 x, .string y, .int .i64 z, .int .i64 u]
  hp : mb < pb
  f1 : ∀ k, (Value.slice b1 k1 c1).ownBlock = some k → k < pb
section
variable {w W W' : World} {p mb k1 c1 pb : Nat} {l : List UInt8} {s s' : RSt} {v1 : Int} {b1 : Option Addr} {ps : List T4} {x x' z z' u u' : Int} {y y' : ByteArray}
theorem KP.start (d : KM w p mb l s v1 b1 k1 c1 ps W) : KP w p mb W.heap.size l s v1 b1 k1 c1 ps 0 ByteArray.empty 0 0 (W.alloc (.cells #[.int .i64 0, .string ByteArray.empty, .int .i64 0, .int .i64 0] 60)) :=
  ⟨d.next (Below.al' _ _), Box.new _ _ _, d.mbx.lt, fun k hk => (d.r1.lt k hk).2⟩
theorem KP.step (d : KP w p mb pb l s v1 b1 k1 c1 ps x y z u W) (h : SAft p l s' W W') : KP w p mb pb l s' v1 b1 k1 c1 ps x y z u W' :=
  ⟨d.rm.step h, d.pbx.chg h.2 (by have := d.hp; have := d.rm.hm; omega), d.hp, d.f1⟩
theorem KP.set_ (d : KP w p mb pb l s v1 b1 k1 c1 ps x y z u W) (i : Nat) (v : Value) (h : Box (W.setCell ⟨pb, i, none⟩ v) pb 60 #[.int .i64 x', .string y', .int .i64 z', .int .i64 u']) : KP w p mb pb l s v1 b1 k1 c1 ps x' y' z' u' (W.setCell ⟨pb, i, none⟩ v) := by
  have hp := d.hp
  have hm := d.rm.hm
  have hc : Chg (fun k => k = pb) W (W.setCell ⟨pb, i, none⟩ v) := (Chg.refl (fun k => k = pb) W).set1 rfl _ _
  exact ⟨⟨d.rm.rn.chg hc fun k hk => by omega, d.rm.mbx.chg hc (by omega), d.rm.hm, ownsRow_block d.rm.r1 fun k hk => hc.block k (d.rm.r1.lt k hk).2 (by have := d.f1 k hk; omega)⟩, h, d.hp, d.f1⟩
theorem KP.set0 (d : KP w p mb pb l s v1 b1 k1 c1 ps x y z u W) (v : Int) : KP w p mb pb l s v1 b1 k1 c1 ps v y z u (W.setCell ⟨pb, 0, none⟩ (.int .i64 v)) := d.set_ 0 _ (by simpa using d.pbx.set_ 0 (.int .i64 v))
theorem KP.set1 (d : KP w p mb pb l s v1 b1 k1 c1 ps x y z u W) (v : ByteArray) : KP w p mb pb l s v1 b1 k1 c1 ps x v z u (W.setCell ⟨pb, 1, none⟩ (.string v)) := d.set_ 1 _ (by simpa using d.pbx.set_ 1 (.string v))
theorem KP.set2 (d : KP w p mb pb l s v1 b1 k1 c1 ps x y z u W) (v : Int) : KP w p mb pb l s v1 b1 k1 c1 ps x y v u (W.setCell ⟨pb, 2, none⟩ (.int .i64 v)) := d.set_ 2 _ (by simpa using d.pbx.set_ 2 (.int .i64 v))
theorem KP.set3 (d : KP w p mb pb l s v1 b1 k1 c1 ps x y z u W) (v : Int) : KP w p mb pb l s v1 b1 k1 c1 ps x y z v (W.setCell ⟨pb, 3, none⟩ (.int .i64 v)) := d.set_ 3 _ (by simpa using d.pbx.set_ 3 (.int .i64 v))
end
theorem dcat_yes2 {bs l : List UInt8} {w W W' : World} {p mb k1 c1 : Nat} {st : RSt} {v1 : Int} {b1 : Option Addr} {ps : List T4} (d : KM w p mb l st v1 b1 k1 c1 ps W)
    (hs : ps.length = k1) (hon : ∀ nid' tl', catR nid' tl' = true → encC nid' tl' = bs → nid' = v1 ∧ tl' = ps) (hr : catR v1 ps = true) (he : encC v1 ps = bs)
    (hc : Chg (fun k => k = w.heap.size) W W') : DCat bs w W' (.returned (.tuple #[.agg #[.int .i64 v1, .slice b1 k1 c1], .int .i64 0])) := by
  have o := d.rn.ord
  have hm := d.hm
  subst hs
  exact .inl ⟨v1, ps, b1, c1, hr, he, hon, rfl, ownsRow_low (ownsRow_block d.r1 fun k hk => hc.block k (d.r1.lt k hk).2 (by have := (d.r1.lt k hk).1; omega)) (by omega)⟩

set_option maxRecDepth 100000 in
set_option maxHeartbeats 16000000 in
theorem refDecodeC (A : Option Addr) (n c : Nat) (bs : List UInt8) (w : World) (hA : Rd w w.heap.size A (bv bs)) (hn : bs.length = n) (hnc : n ≤ c) (hmx : n ≤ 140737488351232) :
    Calls Try.prog 36 #[.slice A n c] w fun e w' => DCat bs w w' e ∧ Below w.heap.size w w' := by
  have hb0 : Below w.heap.size w (w.alloc (.cells #[.int .i64 0, .slice none 0 0] 28)) := (Below.refl _ _).alloc (Nat.le_refl _) _
  have HB := Lib.hid hb0
  by_cases h9 : n < 9
  case pos =>
    have HNo : Hid (∀ nid tl, catR nid tl = true → encC nid tl ≠ bs) := fun nid tl hr he => by
      have h1 := congrArg List.length he
      rw [encC, if_pos hr, wrapB_len] at h1
      omega
    clear hA hb0 hn
    go_enter Try.func36, Try.ntmps36
    go_wp2
    refine bodyPost_ret (v := .tuple #[.agg #[.int .i64 0, .slice none 0 0], .int .i64 72]) ?_ rfl ?_
    · simp [results, Try.results36, go_sem]
    · refine ⟨.inr ⟨HNo.out, rfl⟩, ?_⟩
      repeat (first | with_reducible exact HB.out | refine Below.setCell ?_ (by simp) _)
  obtain ⟨i1, hi1, hz1, hs1, hy1⟩ := info_parts info_topic
  have hsl : ∀ W, (Instr.slice 40 (.slice A n c) (some (.int .i64 9)) none none).run Try.prog W = .ok (.slice (tailA A c 9) (n - 9) (c - 9)) W := fun _ => run_tail _ 40 Try.underlying40 sizeU8 A n c 9 (by omega)
  have hlen : (bs.drop 9).length = n - 9 := by simp [hn]
  have HAt := Lib.hid ((hA.tail_ (cap := c) 9 (by omega)).below hb0)
  have HA := Lib.hid hA
  have Hn := Lib.hid hn
  have hmx' : n ≤ 140737488355328 := by omega
  generalize hl : bs.drop 9 = l at hlen HAt
  have Hl := Lib.hid hl
  have Hlen := Lib.hid hlen
  have Hlx : Hid (l.length ≤ 140737488355328) := by show _ ≤ _; omega
  have HR0 := Lib.hid (Box.new w 28 #[.int .i64 0, .slice none 0 0])
  clear hA hn hb0 hl hlen
  rcases h1 : uvS l ⟨0, false⟩ with ⟨v1, s1⟩
  rcases h6 : uvS l s1 with ⟨n1, s6⟩
  have q1 := uvS_le (l := l) (s := ⟨0, false⟩) (Nat.zero_le _)
  rw [h1] at q1
  have q6 := uvS_le q1.1
  rw [h6] at q6
  have hv1 := q1.2.2
  have hv6 := q6.2.2
  simp only at hv1 hv6
  clear q1 q6
  have HC := Lib.hid ((CanC.first (.uv h1)).second (by omega) (.uv0 h6))
  have V1 := Lib.hid h1
  have V6 := Lib.hid h6
  clear h1 h6
  go_enter Try.func36, Try.ntmps36
  go_wp2_with (first
    | (go_at_call 58; refine (refNewR _ _ _ l _ (HAt.out.mono (by simp)) Hlen.out (by omega)).mono ?_; rintro e w2 ⟨p, rfl, hR, hp, hb2⟩; have hwp : w.heap.size < p := (by simp at hp; omega); have hpl := hR.lt; have hres := HR0.out.below hb2 (by simp); have D0 := Lib.hid (KM.start (w := w) (v1 := 0) (KN.next (W' := w2.alloc (.cells #[.int .i64 0, .slice none 0 0] 28)) ⟨hR, HB.out.trans (hb2.mono (by simp)), hres, hwp⟩ (Below.al' _ _)) (Box.new w2 28 _) hpl); clear hR hp hb2 hres)
    | (go_at_call 59; refine (refUv p l _ _ D0.out.rn.rd Hlx.out).mono ?_; rintro e wa1 ⟨he, ha⟩; rw [V1.out] at he ha; simp only at he ha; subst he; have D1 := Lib.hid (D0.out.step ha); have hc1 := D1.out.mbx.cell; have hf1 := D1.out.mbx.free; have hl1 := D1.out.mbx.lt; clear ha D0)
    | (go_at_call 59; refine (refUv p l _ _ (D1.out.set0 _).rn.rd Hlx.out).mono ?_; rintro e wa6 ⟨he, ha⟩; rw [V6.out] at he ha; simp only at he ha; subst he; have D6 := Lib.hid ((D1.out.set0 _).step ha); have hc6 := D6.out.mbx.cell; have hf6 := D6.out.mbx.free; have hl6 := D6.out.mbx.lt; clear ha D1))
  go_loopw [7] (fun i wr => ∃ (k : Nat) (ps : List T4) (b : Option Addr) (cc : Nat) (st : RSt), k ≤ n1 ∧ k ≤ 17 ∧ i = .int .u64 k ∧ ps.length = k ∧ KM w p w2.heap.size l st (wrap64 (v1 : Int)) b k cc ps wr ∧ CanC l st (([.num (wrap64 (v1 : Int)), .num (n1 : Int)] : List Tok) ++ ps.flatMap topT))
    (fun i _ => 17 - (intOf i).toNat)
  case atStart => exact ⟨0, [], none, 0, s6, Nat.zero_le _, by omega, rfl, rfl, D6.out, HC.out⟩
  case round =>
    clear D6 hc6 hf6 hl6
    obtain ⟨k, ps, b, cc, st, hk, hk17, rfl, hpl2, hD, hCa⟩ := hrel
    have HD := Lib.hid hD
    have HP := Lib.hid (And.intro hpl2 hCa)
    have hmc := hD.mbx.cell
    have hml := hD.mbx.lt
    have hmf := hD.mbx.free
    clear hD hpl2 hCa
    by_cases hlt : k < n1 ∧ k ≤ 16
    · obtain ⟨hlt, hk16⟩ := hlt
      rcases hv1' : uvS l st with ⟨x1, t1⟩
      rcases hv2 : txS 24 l t1 with ⟨x2, t2⟩
      rcases hv3 : uvS l t2 with ⟨x3, t3⟩
      rcases hv4 : uvS l t3 with ⟨x4, t4⟩
      have q1 := uvS_le HD.out.rn.rd.le
      rw [hv1'] at q1
      have q2 := txS_le (most := 24) q1.1
      rw [hv2] at q2
      have q3 := uvS_le q2.1
      rw [hv3] at q3
      have q4 := uvS_le q3.1
      rw [hv4] at q4
      have hx1 := q1.2.2
      have hx3 := q3.2.2
      have hx4 := q4.2.2
      simp only at hx1 hx3 hx4
      clear q1 q2 q3 q4
      have X1 := Lib.hid hv1'
      have X2 := Lib.hid hv2
      have X3 := Lib.hid hv3
      have X4 := Lib.hid hv4
      clear hv1' hv2 hv3 hv4
      have P0 := Lib.hid (KP.start HD.out)
      have hmb0 : w2.heap.size < wr.heap.size := hml
      go_wp2_with (first
        | (go_at_call 59; refine (refUv p l _ _ P0.out.rm.rn.rd Hlx.out).mono ?_; rintro e wb1 ⟨he, ha⟩; rw [X1.out] at he ha; simp only at he ha; subst he; have P1 := Lib.hid (P0.out.step ha); have hpc1 := P1.out.pbx.cell; have hpf1 := P1.out.pbx.free; have hpl1 := P1.out.pbx.lt; clear ha P0 hmc hml hmf HD)
        | (go_at_call 65; refine (refTx p 24 l _ _ (P1.out.set0 _).rm.rn.rd Hlx.out (by omega)).mono ?_; rintro e wb2 ⟨he, ha⟩; rw [X2.out] at he ha; simp only [strV] at he ha; subst he; have P2 := Lib.hid ((P1.out.set0 _).step ha); have hpc2 := P2.out.pbx.cell; have hpf2 := P2.out.pbx.free; have hpl2 := P2.out.pbx.lt; clear ha P1 hpc1 hpf1 hpl1)
        | (go_at_call 59; refine (refUv p l _ _ (P2.out.set1 _).rm.rn.rd Hlx.out).mono ?_; rintro e wb3 ⟨he, ha⟩; rw [X3.out] at he ha; simp only at he ha; subst he; have P3 := Lib.hid ((P2.out.set1 _).step ha); have hpc3 := P3.out.pbx.cell; have hpf3 := P3.out.pbx.free; have hpl3 := P3.out.pbx.lt; clear ha P2 hpc2 hpf2 hpl2)
        | (go_at_call 59; refine (refUv p l _ _ (P3.out.set2 _).rm.rn.rd Hlx.out).mono ?_; rintro e wb4 ⟨he, ha⟩; rw [X4.out] at he ha; simp only at he ha; subst he; have P4 := Lib.hid ((P3.out.set2 _).step ha); have hpc4 := P4.out.pbx.cell; have hpf4 := P4.out.pbx.free; have hpl4 := P4.out.pbx.lt; have hmc4 := (P4.out.set3 (wrap64 (x4 : Int))).rm.mbx.cell; have hmf4 := (P4.out.set3 (wrap64 (x4 : Int))).rm.mbx.free; have hml4 := P4.out.rm.mbx.lt; clear ha P3 hpc3 hpf3 hpl3)
        | (at_builtin
           have D7 := (P4.out.set3 (wrap64 (x4 : Int))).rm.next (Below.al' _ (.cells #[.int .i64 (wrap64 (x1 : Int)), .string ⟨x2.toArray⟩, .int .i64 (wrap64 (x3 : Int)), .int .i64 (wrap64 (x4 : Int))] 60))
           have hrn := rd_new (wb4.setCell ⟨wr.heap.size, 3, none⟩ (.int .i64 (wrap64 (x4 : Int)))) #[.int .i64 (wrap64 (x1 : Int)), .string ⟨x2.toArray⟩, .int .i64 (wrap64 (x3 : Int)), .int .i64 (wrap64 (x4 : Int))] 60
           refine wpList_app1 _ rfl (.tmp 51) (.tmp 53) _ rfl (w2.heap.size + 1) 60 i1 _ 4 40 Try.underlying26 hi1 hz1 hs1 hy1 rfl (by omega) (.slice b k cc) k (ps.flatMap quad) rfl D7.r1 _ _ 1 1 (quad ⟨wrap64 (x1 : Int), ⟨x2.toArray⟩, wrap64 (x3 : Int), wrap64 (x4 : Int)⟩) rfl rfl (by simpa [quad] using hrn) (by simp [quad, Value.oneCell']) (by unfold maxLen; omega) (by omega) (by simp; omega) (by omega) ?_
           intro g cap w8 hO hca hcb hrow hg hwh
           unfold maxLen at hcb
           have hq := D7.mbx.grown hg (fun e => by have := (D7.r1.lt _ e.symm).1; omega)
           have hqc := hq.cell
           have hqf := hq.free
           have hql := hq.lt
           have D9 := Lib.hid (D7.top hg hrow)
           clear D7 hO hrow hg hq hwh hrn P4))
      go_wp2
      go_roundw
      case rel => exact ⟨k + 1, ps ++ [⟨wrap64 (x1 : Int), ⟨x2.toArray⟩, wrap64 (x3 : Int), wrap64 (x4 : Int)⟩], _, _, t4, by omega, by omega, by go_num, by simp [HP.out.1], D9.out, HP.out.2.top (by have := HP.out.1; omega) (.uv X1.out) X2.out (.uv X3.out) (.uv X4.out)⟩
      case measure => simp [intOf]; omega
    · have HPL := Lib.hid (show ps.length = n1 ∨ 16 < n1 by have := HP.out.1; omega)
      rcases (show ¬ k < n1 ∨ (k < n1 ∧ ¬ k ≤ 16) by omega) with hx | ⟨hx, hy⟩
      all_goals
        have HON := Lib.hid (cat_ref HP.out.2 HPL.out Hl.out)
        have hrc := HD.out.rn.res.cell
        have hrl := HD.out.rn.res.lt
        have hrf := HD.out.rn.res.free
        clear hlt
        by_cases hr : catR (wrap64 (v1 : Int)) ps = true
        case neg =>
          have HNo : Hid (∀ nid tl, catR nid tl = true → encC nid tl ≠ bs) := fun nid tl hr' he => by
            obtain ⟨rfl, rfl⟩ := HON.out _ _ hr' he
            exact hr hr'
          have HQ := Lib.hid (catE_bad (by simpa using hr))
          clear hr
          go_wp2_with (go_at_call 33; rw [show k = ps.length from HP.out.1.symm]; refine (refEncodeC (wrap64 (v1 : Int)) _ cc ps _ (ownsRow_rd HD.out.r1)).mono ?_; rintro e w11 ⟨eb, ec, rfl, hown, hb7⟩; rw [← HQ.out]; have ED := Lib.hid (ownsRow_rd hown); have hd := HD.out.next hb7; have htc := hd.rn.res.cell; have htl := hd.rn.res.lt; have htf := hd.rn.res.free; have hmk3 := hd.mbx.cell; have hml3 := hd.mbx.lt; have D10 := Lib.hid hd; clear hb7 hd hown)
          refine bodyPost_ret (v := .tuple #[.agg #[.int .i64 0, .slice none 0 0], .int .i64 72]) ?_ rfl ?_
          · simp [results, Try.results36, go_sem, htc]
          refine ⟨.inr ⟨HNo.out, rfl⟩, ?_⟩
          repeat (first | with_reducible exact D10.out.rn.below | refine Below.setCell ?_ (by simp) _)
        have HR := Lib.hid hr
        have HQ := Lib.hid (catE_good hr)
        have Hln := Lib.hid (show (encC (wrap64 (v1 : Int)) ps).length ≤ 140737488355328 by have := encC_small (wrap64 (v1 : Int)) ps; omega)
        clear hr
        by_cases he : bs = encC (wrap64 (v1 : Int)) ps
        case neg =>
          have HNo : Hid (∀ nid tl, catR nid tl = true → encC nid tl ≠ bs) := fun nid tl hr' he' => by
            obtain ⟨rfl, rfl⟩ := HON.out _ _ hr' he'
            exact he he'.symm
          have HT := Lib.hid (decide_eq_false he)
          clear he
          go_wp2_with (first
            | (go_at_call 33; rw [show k = ps.length from HP.out.1.symm]; refine (refEncodeC (wrap64 (v1 : Int)) _ cc ps _ (ownsRow_rd HD.out.r1)).mono ?_; rintro e w11 ⟨eb, ec, rfl, hown, hb7⟩; rw [← HQ.out]; have ED := Lib.hid (ownsRow_rd hown); have hd := HD.out.next hb7; have htc := hd.rn.res.cell; have htl := hd.rn.res.lt; have htf := hd.rn.res.free; have hmk3 := hd.mbx.cell; have hml3 := hd.mbx.lt; have D10 := Lib.hid hd; clear hb7 hd hown)
            | (go_at_call 60; refine (refSame A eb n _ c ec bs _ _ Hn.out rfl ((HA.out.below D10.out.rn.below).mono D10.out.rn.below.size) ED.out hmx' Hln.out).mono ?_; rintro e w12 ⟨he, hb8⟩; rw [HT.out] at he; subst he; have hd := D10.out.next hb8; have huc := hd.rn.res.cell; have hul := hd.rn.res.lt; have huf := hd.rn.res.free; have hmk4 := hd.mbx.cell; have hml4 := hd.mbx.lt; have D11 := Lib.hid hd; clear hb8 hd))
          refine bodyPost_ret (v := .tuple #[.agg #[.int .i64 0, .slice none 0 0], .int .i64 72]) ?_ rfl ?_
          · simp [results, Try.results36, go_sem, huc]
          refine ⟨.inr ⟨HNo.out, rfl⟩, ?_⟩
          repeat (first | with_reducible exact D11.out.rn.below | refine Below.setCell ?_ (by simp) _)
        have HE := Lib.hid he.symm
        have HT := Lib.hid (decide_eq_true he)
        clear he
        go_wp2_with (first
          | (go_at_call 33; rw [show k = ps.length from HP.out.1.symm]; refine (refEncodeC (wrap64 (v1 : Int)) _ cc ps _ (ownsRow_rd HD.out.r1)).mono ?_; rintro e w11 ⟨eb, ec, rfl, hown, hb7⟩; rw [← HQ.out]; have ED := Lib.hid (ownsRow_rd hown); have hd := HD.out.next hb7; have htc := hd.rn.res.cell; have htl := hd.rn.res.lt; have htf := hd.rn.res.free; have hmk3 := hd.mbx.cell; have hml3 := hd.mbx.lt; have D10 := Lib.hid hd; clear hb7 hd hown)
          | (go_at_call 60; refine (refSame A eb n _ c ec bs _ _ Hn.out rfl ((HA.out.below D10.out.rn.below).mono D10.out.rn.below.size) ED.out hmx' Hln.out).mono ?_; rintro e w12 ⟨he, hb8⟩; rw [HT.out] at he; subst he; have hd := D10.out.next hb8; have huc := hd.rn.res.cell; have hul := hd.rn.res.lt; have huf := hd.rn.res.free; have hmk4 := hd.mbx.cell; have hml4 := hd.mbx.lt; have D11 := Lib.hid hd; clear hb8 hd))
        refine bodyPost_ret (v := .tuple #[.agg #[.int .i64 (wrap64 (v1 : Int)), .slice b k cc], .int .i64 0]) ?_ rfl ?_
        · simp [results, Try.results36, go_sem, huc]
        refine ⟨dcat_yes2 D11.out HP.out.1 HON.out HR.out HE.out (chg2 _ _ _ _), ?_⟩
        repeat (first | with_reducible exact D11.out.rn.below | refine Below.setCell ?_ (by simp) _)

/- ManifestCatalogues: spoiltCat, and the law walked whole. -/

set_option maxRecDepth 100000 in
set_option maxHeartbeats 8000000 in
theorem spoiltCat_any (B n1 c1 : Nat) (b1 : Option Addr) (nid : Int) (xs : List Value) (w : World) (r1 : w.ownsRow B 60 4 (.slice b1 n1 c1) n1 xs) (hB : B ≤ w.heap.size) (hm1 : n1 ≤ 1000) :
    Calls Try.prog 35 #[catV nid (.slice b1 n1 c1)] w fun e w' =>
      e = .returned (.tuple #[]) ∧ Chg (fun k => (Value.slice b1 n1 c1).ownBlock = some k) w w' := by
  obtain ⟨i1, hi1, hz1, hs1, hy1⟩ := info_parts info_topic
  have HL1 := Lib.hid (fun k (hk : (Value.slice b1 n1 c1).ownBlock = some k) => (r1.lt k hk).2)
  have R := Lib.hid r1
  clear r1
  go_enter Try.func35, Try.ntmps35
  go_wp2
  go_loopw [2] (fun i wr => ∃ (k : Nat) (xs' : List Value), k ≤ n1 ∧ i = .int .i64 k ∧ wr.ownsRow B 60 4 (.slice b1 n1 c1) n1 xs' ∧
      Chg (fun k => (Value.slice b1 n1 c1).ownBlock = some k) w wr ∧ Box wr w.heap.size 28 #[.int .i64 nid, .slice b1 n1 c1])
    (fun i _ => n1 - (intOf i).toNat)
  case atStart => exact ⟨0, xs, Nat.zero_le _, rfl, R.out.alloc _, (Chg.refl _ _).alloc _, Box.new _ _ _⟩
  case round =>
    obtain ⟨k, xs', hk, rfl, h1, hC, hX⟩ := hrel
    have hcx := hX.cell
    by_cases hlt : k < n1
    · obtain ⟨g, cap, hv, hnc, hcm, hown⟩ := Own.of_row h1 (by omega)
      cases hv
      have hk0 : (0 : Int) ≤ k := by omega
      have hk1 : (k : Int) < n1 := by omega
      have hyl := h1.1
      obtain ⟨u0, hck0⟩ : ∃ u, wr.cell? ⟨g, k * 4, none⟩ = some u := ⟨_, hown.cell (i := k * 4) (by omega)⟩
      obtain ⟨u1, hck1⟩ : ∃ u, wr.cell? ⟨g, k * 4 + 1, none⟩ = some u := ⟨_, hown.cell (i := k * 4 + 1) (by omega)⟩
      obtain ⟨u2, hck2⟩ : ∃ u, wr.cell? ⟨g, k * 4 + 2, none⟩ = some u := ⟨_, hown.cell (i := k * 4 + 2) (by omega)⟩
      obtain ⟨u3, hck3⟩ : ∃ u, wr.cell? ⟨g, k * 4 + 3, none⟩ = some u := ⟨_, hown.cell (i := k * 4 + 3) (by omega)⟩
      have hfk := hown.free
      have H := Lib.hid (And.intro h1 (And.intro hC hX))
      have hgw : g ≠ w.heap.size := by have := HL1.out g rfl; omega
      clear h1 hC hX hown hyl
      go_wp2
      go_roundw
      case rel =>
        refine ⟨k + 1, _, by omega, by go_num, ownsRow_put (ownsRow_put (ownsRow_put (ownsRow_put H.out.1 _) _) _) _, ?_, ?_⟩
        · exact (((H.out.2.1.setCell (p := ⟨g, k * 4, none⟩) (.inl rfl) _).setCell (p := ⟨g, k * 4 + 1, none⟩) (.inl rfl) _).setCell (p := ⟨g, k * 4 + 2, none⟩) (.inl rfl) _).setCell (p := ⟨g, k * 4 + 3, none⟩) (.inl rfl) _
        · repeat (first | with_reducible exact H.out.2.2 | refine Box.far ?_ (by simpa using hgw.symm) _)
      case measure => simp [intOf]; omega
    · have H := Lib.hid (And.intro h1 hC)
      have hsz0 := hC.size
      clear h1 hC
      go_wp2
      go_loopw [3, 4] (fun s i wr => ∃ (q : Nat) (A1 : Option Addr) (d1 : Nat) (xs' : List Value), q ≤ 64 ∧ s = .slice A1 (n1 + q) d1 ∧ i = .int .i64 q ∧
          wr.ownsRow B 60 4 (.slice A1 (n1 + q) d1) (n1 + q) xs' ∧
          (∀ j, (Value.slice A1 (n1 + q) d1).ownBlock = some j → (Value.slice b1 n1 c1).ownBlock = some j ∨ w.heap.size ≤ j) ∧
          Chg (fun k => (Value.slice b1 n1 c1).ownBlock = some k) w wr)
        (fun _ i _ => 64 - (intOf i).toNat)
      case atStart => exact ⟨0, b1, c1, xs', by omega, rfl, rfl, H.out.1, fun j hj => .inl hj, H.out.2⟩
      case round =>
        clear H hcx
        obtain ⟨q, A1, d1, xs', hq, rfl, rfl, h1, hw1, hC⟩ := hrel
        by_cases hlt3 : q < 64
        · have hsz := hC.size
          have H := Lib.hid (And.intro h1 (And.intro hw1 hC))
          clear h1 hw1 hC
          go_wp2_with
            (at_builtin
             refine wpList_app1 _ rfl (.tmp 25) (.tmp 27) _ rfl B 60 i1 _ 4 40 Try.underlying26 hi1 hz1 hs1 hy1 rfl (by omega) (.slice A1 (n1 + q) d1) (n1 + q) xs' rfl (H.out.1.alloc _) _ _ 1 1 [.int .i64 (-99), .string ByteArray.empty, .int .i64 0, .int .i64 0] rfl rfl (rd_new _ _ _) (by simp [Value.oneCell']) (by unfold maxLen; omega) (by omega) (by simp <;> omega) (by omega) ?_
             intro g cap w8 hO hca hcb hrow hg hwg
             obtain ⟨x1, x4, x6⟩ := H.out
             have hC8 := Chg.grown (x6.alloc (.cells #[.int .i64 (-99), .string ByteArray.empty, .int .i64 0, .int .i64 0] 60)) hg (fun k e => (x4 k e).imp (fun h => h) fun h => h)
             have hwn : ∀ j, g = j → (Value.slice b1 n1 c1).ownBlock = some j ∨ w.heap.size ≤ j := fun j hj => by
               subst hj
               rcases hwg with h | h
               · exact x4 _ h.symm
               · right; simp at h; omega
             have H8 := Lib.hid (And.intro hrow (And.intro hwn hC8))
             clear hO hrow hg hwg hC8 hwn x1 x4 x6 H)
          go_wp2
          go_roundw
          case rel =>
            obtain ⟨x1, x2, x3⟩ := H8.out
            refine ⟨q + 1, some ⟨g, 0, none⟩, cap, _, by omega, rfl, by go_num, x1, fun j hj => ?_, x3⟩
            have e1 : g = j := by simpa [Value.ownBlock] using hj
            exact x2 j e1
          case measure => simp [intOf]; omega
        · have H := Lib.hid hC
          clear h1 hw1 hC
          go_wp2
          go_end0
          exact ⟨rfl, H.out⟩

/-- What ManifestCatalogues knows between its calls. -/
structure CSC (w : World) (M N : Array Value) (bn g : Nat) (l : List T4) (W : World) : Prop where
  m : Box W w.heap.size 28 M
  n : Box W bn 28 N
  og : Own W (w.heap.size + 1) g 60 (l.flatMap quad ++ [.int .i64 (-77), .string ByteArray.empty, .int .i64 0, .int .i64 0])
  below : Below w.heap.size w W
  far : bn ≠ g
section
variable {w : World} {M N : Array Value} {bn g : Nat} {l l' : List T4} {W W' : World}
theorem CSC.next (s : CSC w M N bn g l W) (hb : Below W.heap.size W W') : CSC w M N bn g l W' :=
  ⟨s.m.below hb s.m.lt, s.n.below hb s.n.lt, s.og.below hb s.og.lt, s.below.trans (hb.mono s.below.size), s.far⟩
theorem CSC.cat (s : CSC w M N bn g l W) (hc : Chg (fun x => x = g) W W') (og : Own W' (w.heap.size + 1) g 60 (l'.flatMap quad ++ [.int .i64 (-77), .string ByteArray.empty, .int .i64 0, .int .i64 0])) : CSC w M N bn g l' W' := by
  have f1 := s.far
  have g1 := og.1
  exact ⟨s.m.chg hc (by omega), s.n.chg hc (by omega), og, s.below.trans (hc.below s.below.size (by intro x hx; omega)), s.far⟩
end
theorem octEncodeC_len (nid : Int) (A : Option Addr) (c n : Nat) (l : List T4) (w : World) (hn : l.length = n) (hA : Rd w w.heap.size A (l.flatMap quad)) (hws : ∀ t ∈ l, (Lit.int .i64 t.id).wf = true ∧ t.name.size ≤ maxLen) :
    Calls Try.prog 32 #[.agg #[.int .i64 nid, .slice A n c]] w fun e w' => (∃ v, e = .returned v) ∧ Below w.heap.size w w' := by
  subst hn
  exact (octEncodeC nid A c l w hA hws).mono fun e w' ⟨b, cap, h, _, hb⟩ => ⟨⟨_, h⟩, hb⟩
theorem sameCat_n (nid : Int) (A A' : Option Addr) (c c' n : Nat) (l : List T4) (w : World) (hn : l.length = n) (hA : Rd w w.heap.size A (l.flatMap quad)) (hA' : Rd w w.heap.size A' (l.flatMap quad)) (hmx : n ≤ maxLen) :
    Calls Try.prog 37 #[.agg #[.int .i64 nid, .slice A n c], .agg #[.int .i64 nid, .slice A' n c']] w fun e w' => e = .returned (.bool true) ∧ Below w.heap.size w w' := by
  subst hn
  exact sameCat_eq nid A A' c c' l w hA hA' hmx
/-- What either DecodeCatalogue answers, said once. -/
theorem dcat_one (bs : List UInt8) : ∃ (i0 : Int) (P0 : List T4) (er : Int), P0.length ≤ 64 ∧ ∀ (w w' : World) (e : Ending), DCat bs w w' e → ∃ (b1 : Option Addr) (c1 : Nat),
    e = .returned (.tuple #[.agg #[.int .i64 i0, .slice b1 P0.length c1], .int .i64 er]) ∧ w'.ownsRow w.heap.size 60 4 (.slice b1 P0.length c1) P0.length (P0.flatMap quad) := by
  by_cases hx : ∃ nid tl, catR nid tl = true ∧ encC nid tl = bs
  · obtain ⟨i0, P0, hr, he⟩ := hx
    refine ⟨i0, P0, 0, by have := (catR_facts hr).2.2.1; omega, ?_⟩
    rintro w w' e (⟨nid, tl, b1, c1, h1, h2, h3, h4, h5⟩ | ⟨h1, h2⟩)
    · obtain ⟨rfl, rfl⟩ := h3 _ _ hr he
      exact ⟨b1, c1, h4, h5⟩
    · exact absurd he (h1 _ _ hr)
  · refine ⟨0, [], 72, by simp, ?_⟩
    rintro w w' e (⟨nid, tl, b1, c1, h1, h2, _⟩ | ⟨h1, h2⟩)
    · exact absurd ⟨_, _, h1, h2⟩ hx
    · exact ⟨none, 0, h2, nil_own _ _ _ _⟩
theorem dcat_ret {bs : List UInt8} {w w' : World} {e : Ending} (h : DCat bs w w' e) : ∃ v, e = .returned v := by
  obtain ⟨_, _, _, _, h1⟩ := dcat_one bs
  obtain ⟨_, _, h2, _⟩ := h1 w w' e h
  exact ⟨_, h2⟩

set_option maxRecDepth 100000 in
set_option maxHeartbeats 8000000 in
theorem manifestCatalogues_any (nid : Int) (A A3 : Option Addr) (c n e : Nat) (l : List T4) (bs : List UInt8) (w : World)
    (hA : Rd w w.heap.size A (l.flatMap quad)) (hA3 : Rd w w.heap.size A3 (bv bs))
    (ha : l.length * 40 ≤ 140737488351232) (hn : bs.length = n) (hne : n ≤ e) (hmx : n ≤ 140737488351232)
    (hws : ∀ t ∈ l, (Lit.int .i64 t.id).wf = true ∧ t.name.size ≤ maxLen) :
    Calls Try.prog 6 #[.agg #[.int .i64 nid, .slice A l.length c], .slice A3 n e] w fun ee w' =>
      ee = .returned (.bool true) ∧ Below w.heap.size w w' := by
  have hr : ∀ W, Below w.heap.size w W → Rd W W.heap.size A (l.flatMap quad) ∧ Rd W W.heap.size A3 (bv bs) := fun W hb =>
    ⟨(hA.below hb).mono hb.size, (hA3.below hb).mono hb.size⟩
  have Hr := Lib.hid hr
  have hr2 : ∀ W, Below w.heap.size w W → Rd W (w.heap.size + 1) A (l.flatMap quad) := fun W hb => (hA.below hb).mono (by omega)
  have HrB := Lib.hid hr2
  have H0 := Lib.hid (And.intro (show Below w.heap.size w (w.alloc (.cells #[.int .i64 nid, .slice A l.length c] 28)) from (Below.refl _ _).alloc (Nat.le_refl _) _) (Box.new w 28 #[.int .i64 nid, .slice A l.length c]))
  have Hws := Lib.hid hws
  have Hn := Lib.hid hn
  have hms : l.length < maxLen := by unfold maxLen; omega
  have Hm := Lib.hid hms
  generalize hse : encC nid l = enc
  have hel := encC_small nid l
  rw [hse] at hel
  have HE := Lib.hid hse
  have Hel := Lib.hid hel
  generalize hye : catE nid l = ye
  have HY := Lib.hid hye
  generalize hnl : enc.length = nl
  have HNL := Lib.hid hnl
  clear hr hr2 hA hA3 hws hms hse hel hye hnl
  obtain ⟨i0, P0, er, hP0, hone⟩ := dcat_one bs
  generalize hp0 : P0.length = p0 at hone hP0
  have HS := Lib.hid hp0
  have HO := Lib.hid hone
  clear hone hp0
  go_enter Try.func6, Try.ntmps6
  go_wp2_with (first
    | (go_at_call 8
       refine (copiedCat_any nid A c l _ (Hr.out _ H0.out.1).1 ha).mono ?_
       rintro e1 w1 ⟨g, c1, rfl, hb1, hg1, hcc⟩
       have y2 := (H0.out.2.below hb1 (by simp <;> omega))
       have z2 := y2.cell
       have hs1 : w.heap.size + 1 ≤ w1.heap.size := by have := hb1.size; simp at this; omega
       have hs1a : w.heap.size < w1.heap.size := by omega
       have hgB := hg1.1
       simp only [World.size_alloc] at hgB
       have T1 := Lib.hid (show CSC w #[.int .i64 nid, .slice A l.length c] #[.int .i64 nid, .slice (some ⟨g, 0, none⟩) l.length c1] w1.heap.size g l (w1.alloc (.cells #[.int .i64 nid, .slice (some ⟨g, 0, none⟩) l.length c1] 28)) from
         ⟨y2.alloc _, Box.new _ _ _, (hg1.le (by simp)).alloc _, (H0.out.1.trans (hb1.mono (by simp <;> omega))).alloc (by omega) _, by have := hg1.lt; omega⟩)
       clear hb1 hg1 y2)
    | (go_at_call 13
       refine (movedCat_any nid g c1 l _ _ _ T1.out.og (Nat.le_of_lt Hm.out) Hws.out).mono ?_
       rintro e3 w3 ⟨ps, hlp, hwss, rfl, og3, hc3⟩
       have S3 := T1.out.cat hc3 og3
       have Hl3 := Lib.hid (And.intro hlp hwss)
       clear hlp hwss og3 hc3
       have q31 := S3.m.cell
       have q33 := S3.n.cell
       have T3 := Lib.hid S3
       clear S3 T1 z2)
    | (go_at_call 32
       refine (octEncodeC_len nid _ c1 _ ps _ Hl3.out.1 T3.out.og.rd_pre Hl3.out.2).mono ?_
       rintro e4 w4 ⟨⟨r4, rfl⟩, hb4⟩
       have S4 := T3.out.next hb4
       have q41 := S4.m.cell
       have q43 := S4.n.cell
       have T4 := Lib.hid S4
       clear S4 T3 hb4 q31 q33)
    | (go_at_call 14
       refine (backCat_any nid nid g c1 c A l ps _ _ _ (T4.out.og) (HrB.out _ T4.out.below) (by have := T4.out.og.lt; have := T4.out.og.1; omega) Hl3.out.1.symm (Nat.le_of_lt Hm.out)).mono ?_
       rintro e5 w5 ⟨rfl, og5, hc5⟩
       have S5 := T4.out.cat hc5 og5
       have q51 := S5.m.cell
       have q53 := S5.n.cell
       have T5 := Lib.hid S5
       clear S5 T4 hc5 og5 q41 q43)
    | (go_at_call 32
       refine (octEncodeC nid _ c1 l _ T5.out.og.rd_pre Hws.out).mono ?_
       rintro e6 w6 ⟨b6, cap6, rfl, hx6, hb6⟩
       rw [HE.out, HNL.out] at hx6
       rw [HE.out, HY.out, HNL.out]
       have S6 := T5.out.next hb6
       have q61 := S6.m.cell
       have q63 := S6.n.cell
       have X6 := Lib.hid (ownsRow_rd hx6)
       have T6 := Lib.hid S6
       clear S6 T5 hb6 hx6 q51 q53)
    | (go_at_call 32
       refine (octEncodeC nid _ c1 l _ T6.out.og.rd_pre Hws.out).mono ?_
       rintro e7 w7 ⟨b7, cap7, rfl, hx7, hb7⟩
       rw [HE.out, HNL.out] at hx7
       rw [HE.out, HY.out, HNL.out]
       have S7 := T6.out.next hb7
       have q71 := S7.m.cell
       have q73 := S7.n.cell
       have R7 := Lib.hid hx7
       have B7 := Lib.hid hb7
       clear S7 hb7 hx7 q61 q63)
    | (go_at_call 22
       refine (marked_any _ nl cap7 b7 enc _ R7.out HNL.out B7.out.size (by have := Hel.out; have := HNL.out; omega)).mono ?_
       rintro e8 w8 ⟨rfl, hc8⟩
       rw [show ((nl + 64 : Nat) : Int) = (nl : Int) + 64 by omega]
       have hnls : nl ≤ 1109 := by have := Hel.out; have := HNL.out; omega
       have hb8 := B7.out.trans (hc8.below B7.out.size fun k hk => (R7.out.lt k hk).1)
       have S8 := T6.out.next hb8
       have q81 := S8.m.cell
       have q83 := S8.n.cell
       have X8 := Lib.hid ((X6.out.below hb8).mono hb8.size)
       have T8 := Lib.hid S8
       clear S8 T6 X6 R7 B7 hb8 hc8 q71 q73)
    | (go_at_call 33
       refine (refEncodeC nid A c l _ (Hr.out _ T8.out.below).1).mono ?_
       rintro e9 w9 ⟨b9, cap9, rfl, hx9, hb9⟩
       rw [HE.out, HNL.out] at hx9
       rw [HE.out, HY.out, HNL.out]
       have S9 := T8.out.next hb9
       have q91 := S9.m.cell
       have q93 := S9.n.cell
       have X9 := Lib.hid (And.intro ((X8.out.below hb9).mono hb9.size) (ownsRow_rd hx9))
       have T9 := Lib.hid S9
       clear S9 T8 X8 hb9 hx9 q81 q83)
    | (go_at_call 24
       refine (roomy_any A3 n e bs _ (Hr.out _ T9.out.below).2 Hn.out (by omega)).mono ?_
       rintro e10 w10 ⟨gf, cf, rfl, hcf, hcm, hof, hb10⟩
       clear hcm
       rw [bv_app] at hof
       have F10 := Lib.hid (And.intro hof hb10)
       clear hof hb10)
    | (go_at_call 26
       refine (flipped_any _ gf n _ bs (bv [165, 90, 167, 91]) _ F10.out.1 Hn.out (by omega)).mono ?_
       rintro e11 w11 ⟨rfl, ho11, hc11⟩
       have F11 := Lib.hid (And.intro ho11 (F10.out.2.trans (hc11.below F10.out.2.size (fun k hk => by rw [hk]; exact F10.out.1.1))))
       clear ho11 hc11 F10)
    | (go_at_call 34
       refine (manDecodeC _ n _ (bs.map flip1) _ F11.out.1.rd_pre (by rw [List.length_map]; exact Hn.out) (by omega) (by omega)).mono ?_
       rintro e12 w12 ⟨hdm, hb12⟩
       obtain ⟨v12, rfl⟩ := dcat_ret hdm
       have F12 := Lib.hid (And.intro (F11.out.1.below hb12 F11.out.1.lt) (F11.out.2.trans (hb12.mono F11.out.2.size)))
       clear hdm hb12 F11)
    | (go_at_call 26
       refine (flipped_any _ gf n _ (bs.map flip1) (bv [165, 90, 167, 91]) _ F12.out.1 (by rw [List.length_map]; exact Hn.out) (by omega)).mono ?_
       rintro e13 w13 ⟨rfl, ho13, hc13⟩
       rw [flip_flip] at ho13
       have F13 := Lib.hid (And.intro ho13 (F12.out.2.trans (hc13.below F12.out.2.size (fun k hk => by rw [hk]; exact F12.out.1.1))))
       clear ho13 hc13 F12)
    | (go_at_call 34
       refine (manDecodeC _ n _ bs _ F13.out.1.rd_pre Hn.out (by omega) (by omega)).mono ?_
       rintro e14 w14 ⟨hdm, hb14⟩
       obtain ⟨pb1, pc1, rfl, pr1⟩ := HO.out _ _ _ hdm
       have F14 := Lib.hid (And.intro (F13.out.1.below hb14 F13.out.1.lt) (F13.out.2.trans (hb14.mono F13.out.2.size)))
       have P14 := Lib.hid (ownsRow_rd pr1)
       clear hdm hb14 F13 pr1)
    | (go_at_call 34
       refine (manDecodeC _ n _ bs _ (F14.out.1.alloc _).rd_pre Hn.out (by omega) (by omega)).mono ?_
       rintro e15 w15 ⟨hdm, hb15⟩
       obtain ⟨ob1, oc1, rfl, or1⟩ := HO.out _ _ _ hdm
       have O15 := Lib.hid (And.intro or1 hb15)
       clear hdm hb15 or1)
    | (go_at_call 35
       refine (spoiltCat_any _ p0 oc1 ob1 i0 _ _ (O15.out.1.alloc _) (by have := O15.out.2.size; simp at this ⊢; omega) (by omega)).mono ?_
       rintro e16 w16 ⟨rfl, hc16⟩
       have hb16 : Below (w14.alloc (.cells #[.int .i64 i0, .slice pb1 p0 pc1] 28)).heap.size (w14.alloc (.cells #[.int .i64 i0, .slice pb1 p0 pc1] 28)) w16 := (O15.out.2.alloc O15.out.2.size _).trans (hc16.below (by have := O15.out.2.size; simp at this ⊢; omega) (fun k hk => (O15.out.1.lt k hk).1))
       have hp16 := (Box.new w14 28 #[.int .i64 i0, .slice pb1 p0 pc1]).below hb16 (by simp)
       have hbb := (Below.al' w14 (.cells #[.int .i64 i0, .slice pb1 p0 pc1] 28)).trans (hb16.mono (by simp))
       have F16 := Lib.hid (And.intro (F14.out.1.below hbb F14.out.1.lt) (And.intro (F14.out.2.trans (hbb.mono F14.out.2.size)) (And.intro hp16 ((P14.out.below hbb).mono hbb.size))))
       clear hc16 hb16 hp16 hbb F14 P14 O15)
    | (go_at_call 34
       refine (manDecodeC _ n _ bs _ F16.out.1.rd_pre Hn.out (by omega) (by omega)).mono ?_
       rintro e17 w17 ⟨hdm, hb17⟩
       obtain ⟨lb1, lc1, rfl, lr1⟩ := HO.out _ _ _ hdm
       have hbb := hb17.alloc hb17.size (.cells #[.int .i64 i0, .slice lb1 p0 lc1] 28)
       have hl17 : Rd (w17.alloc (.cells #[.int .i64 i0, .slice lb1 p0 lc1] 28)) (w17.alloc (.cells #[.int .i64 i0, .slice lb1 p0 lc1] 28)).heap.size lb1 (P0.flatMap quad) := ((ownsRow_rd lr1).below (Below.al' w17 _)).mono (Below.al' w17 _).size
       have F17 := Lib.hid (And.intro (F16.out.1.below hbb F16.out.1.lt) (And.intro (F16.out.2.1.trans (hbb.mono F16.out.2.1.size)) (And.intro (F16.out.2.2.1.below hbb F16.out.2.2.1.lt) (And.intro ((F16.out.2.2.2.below hbb).mono hbb.size) (And.intro (Box.new w17 28 #[.int .i64 i0, .slice lb1 p0 lc1]) hl17)))))
       clear hdm hb17 hbb F16 lr1 hl17)
    | (go_at_call 36
       refine (refDecodeC A3 n e bs _ (Hr.out _ (T9.out.next (F17.out.2.1)).below).2 Hn.out hne (by omega)).mono ?_
       rintro e18 w18 ⟨hdm, hb18⟩
       obtain ⟨qb1, qc1, rfl, qr1⟩ := HO.out _ _ _ hdm
       have ZN := Lib.hid (show ∀ W', Below (w18.alloc (.cells #[.int .i64 i0, .slice qb1 p0 qc1] 28)).heap.size (w18.alloc (.cells #[.int .i64 i0, .slice qb1 p0 qc1] 28)) W' →
           CSC w #[.int .i64 nid, .slice A l.length c] #[.int .i64 nid, .slice (some ⟨g, 0, none⟩) l.length c1] w1.heap.size g l W' ∧ Rd W' W'.heap.size b6 (bv enc) ∧ Rd W' W'.heap.size b9 (bv enc) ∧ Rd W' W'.heap.size (some ⟨gf, 0, none⟩) (bv bs ++ bv [165, 90, 167, 91]) ∧
           Rd W' W'.heap.size pb1 (P0.flatMap quad) ∧ Rd W' W'.heap.size lb1 (P0.flatMap quad) ∧ Rd W' W'.heap.size qb1 (P0.flatMap quad) ∧
           Box W' w14.heap.size 28 #[.int .i64 i0, .slice pb1 p0 pc1] ∧ Box W' w17.heap.size 28 #[.int .i64 i0, .slice lb1 p0 lc1] ∧ Box W' w18.heap.size 28 #[.int .i64 i0, .slice qb1 p0 qc1] from fun W' hb => by
         have b17 := (Below.al' w18 (.cells #[.int .i64 i0, .slice qb1 p0 qc1] 28)).trans (hb.mono (by simp))
         have b16 := hb18.trans (b17.mono hb18.size)
         have b9 := F17.out.2.1.trans (b16.mono F17.out.2.1.size)
         refine ⟨T9.out.next b9, (X9.out.1.below b9).mono b9.size, (X9.out.2.below b9).mono b9.size, ?_, (F17.out.2.2.2.1.below b16).mono b16.size, (F17.out.2.2.2.2.2.below b16).mono b16.size, ((ownsRow_rd qr1).below b17).mono b17.size, F17.out.2.2.1.below b16 F17.out.2.2.1.lt, F17.out.2.2.2.2.1.below b16 F17.out.2.2.2.2.1.lt, (Box.new w18 28 #[.int .i64 i0, .slice qb1 p0 qc1]).below hb (by simp)⟩
         have := F17.out.1.below b16 F17.out.1.lt
         exact Own.rd_pre (ts := []) (by simpa using this))
       obtain ⟨y18a, _, _, _, _, _, _, y18b, y18c, y18d⟩ := ZN.out _ (Below.refl _ _)
       have qca18 := y18a.m.cell
       have qla18 := y18a.m.lt
       have qcb18 := y18a.n.cell
       have qlb18 := y18a.n.lt
       have qcc18 := y18b.cell
       have qlc18 := y18b.lt
       have qcd18 := y18c.cell
       have qld18 := y18c.lt
       have qce18 := y18d.cell
       have qle18 := y18d.lt
       clear hdm hb18 qr1 T9 X9 F17 y18a y18b y18c y18d q91 q93)
    | (go_at_call 29
       obtain ⟨_, z2, z3, _⟩ := ZN.out _ (Below.refl _ _)
       (with_reducible refine (lawSame b6 b9 nl nl cap6 cap9 enc enc _ HNL.out HNL.out z2 z3 (by have := Hel.out; have := HNL.out; omega) (by have := Hel.out; have := HNL.out; omega)).mono ?_)
       rintro e19 w19 ⟨rfl, hb19⟩
       rw [decide_eq_true rfl]
       obtain ⟨y19a, _, _, _, _, _, _, y19b, y19c, y19d⟩ := ZN.out _ hb19
       have qca19 := y19a.m.cell
       have qla19 := y19a.m.lt
       have qcb19 := y19a.n.cell
       have qlb19 := y19a.n.lt
       have qcc19 := y19b.cell
       have qlc19 := y19b.lt
       have qcd19 := y19c.cell
       have qld19 := y19c.lt
       have qce19 := y19d.cell
       have qle19 := y19d.lt
       have B19 := Lib.hid hb19
       clear hb19 z2 z3 y19a y19b y19c y19d)
    | (go_at_call 20
       obtain ⟨z1, _⟩ := ZN.out _ B19.out
       refine (keptCat_any nid g c1 A c l _ _ z1.og (Hr.out _ z1.below).1 hcc Hm.out).mono ?_
       rintro e20 w20 ⟨rfl, hb20⟩
       have hb20' := B19.out.trans (hb20.mono B19.out.size)
       obtain ⟨y20a, _, _, _, _, _, _, y20b, y20c, y20d⟩ := ZN.out _ hb20'
       have qca20 := y20a.m.cell
       have qla20 := y20a.m.lt
       have qcb20 := y20a.n.cell
       have qlb20 := y20a.n.lt
       have qcc20 := y20b.cell
       have qlc20 := y20b.lt
       have qcd20 := y20c.cell
       have qld20 := y20c.lt
       have qce20 := y20d.cell
       have qle20 := y20d.lt
       have B20 := Lib.hid hb20'
       clear hb20 hb20' z1 y20a y20b y20c y20d B19)
    | (go_at_call 37
       obtain ⟨_, _, _, _, z4, _, z6, _⟩ := ZN.out _ B20.out
       (with_reducible refine (sameCat_n i0 pb1 qb1 pc1 qc1 p0 P0 _ HS.out z4 z6 (by unfold maxLen; omega)).mono ?_)
       rintro e21 w21 ⟨rfl, hb21⟩
       have hb21' := B20.out.trans (hb21.mono B20.out.size)
       obtain ⟨y21a, _, _, _, _, _, _, y21b, y21c, y21d⟩ := ZN.out _ hb21'
       have qca21 := y21a.m.cell
       have qla21 := y21a.m.lt
       have qcb21 := y21a.n.cell
       have qlb21 := y21a.n.lt
       have qcc21 := y21b.cell
       have qlc21 := y21b.lt
       have qcd21 := y21c.cell
       have qld21 := y21c.lt
       have qce21 := y21d.cell
       have qle21 := y21d.lt
       have B21 := Lib.hid hb21'
       clear hb21 hb21' z4 z6 y21a y21b y21c y21d B20)
    | (go_at_call 37
       obtain ⟨_, _, _, _, _, z5, z6, _⟩ := ZN.out _ B21.out
       (with_reducible refine (sameCat_n i0 lb1 qb1 lc1 qc1 p0 P0 _ HS.out z5 z6 (by unfold maxLen; omega)).mono ?_)
       rintro e22 w22 ⟨rfl, hb22⟩
       have hb22' := B21.out.trans (hb22.mono B21.out.size)
       obtain ⟨y22a, _, _, _, _, _, _, y22b, y22c, y22d⟩ := ZN.out _ hb22'
       have qca22 := y22a.m.cell
       have qla22 := y22a.m.lt
       have qcb22 := y22a.n.cell
       have qlb22 := y22a.n.lt
       have qcc22 := y22b.cell
       have qlc22 := y22b.lt
       have qcd22 := y22c.cell
       have qld22 := y22c.lt
       have qce22 := y22d.cell
       have qle22 := y22d.lt
       have B22 := Lib.hid hb22'
       clear hb22 hb22' z5 z6 y22a y22b y22c y22d B21)
    | (go_at_call 24
       obtain ⟨z1, _⟩ := ZN.out _ B22.out
       refine (roomy_any A3 n e bs _ (Hr.out _ z1.below).2 Hn.out (by omega)).mono ?_
       rintro e23 w23 ⟨gr, cr, rfl, hcr, _, hor, hb23⟩
       have hb23' := B22.out.trans (hb23.mono B22.out.size)
       obtain ⟨y23a, _, _, _, _, _, _, y23b, y23c, y23d⟩ := ZN.out _ hb23'
       have qca23 := y23a.m.cell
       have qla23 := y23a.m.lt
       have qcb23 := y23a.n.cell
       have qlb23 := y23a.n.lt
       have qcc23 := y23b.cell
       have qlc23 := y23b.lt
       have qcd23 := y23c.cell
       have qld23 := y23c.lt
       have qce23 := y23d.cell
       have qle23 := y23d.lt
       have B23 := Lib.hid (And.intro hb23' hor)
       clear hb23 hb23' z1 y23a y23b y23c y23d B22 hor)
    | (go_at_call 29
       obtain ⟨_, _, _, z4, _⟩ := ZN.out _ B23.out.1
       rw [← bv_app] at z4
       (with_reducible refine (lawSame _ _ (n + 4) (n + 4) cf cr (bs ++ [165, 90, 167, 91]) (bs ++ [165, 90, 167, 91]) _ (by simp [Hn.out]) (by simp [Hn.out]) z4 (Own.rd_pre (ts := []) (by simpa using B23.out.2)) (by omega) (by omega)).mono ?_)
       rintro e24 w24 ⟨rfl, hb24⟩
       rw [decide_eq_true rfl]
       have hb24' := B23.out.1.trans (hb24.mono B23.out.1.size)
       have B24 := Lib.hid hb24'
       clear hb24 hb24' z4 B23))
  go_ret
  refine ⟨?_, (ZN.out _ B24.out).1.below⟩
  simp
end Go.Proofs.Ytjgdjfmgkmegfaa
