import Derived.Test.YtnecafhakkjbpaaSm32
/- Load: what one file of an image makes of a disk. -/
namespace Go.Proofs.Ytnecafhakkjbpaa
open Go.RowKit Go.Maps

theorem MD.entry {w : World} {b f : Nat} {l : List KE} (h : MD w b l) {k : ByteArray} (hg : getL k l = none) (hk : k.size ≤ 32) (hl : l.length < 1000000000000) :
    ∃ (st : Int) (w1 : World), (Instr.mapEntry 62 (.map (some b)) (.string k)).run Try.prog w = .ok (.tuple #[.pointer none, .int .i64 st]) w1 ∧ w.grownBy w1 (some b) ∧
      ∀ w2 : World, w2.heap[b]? = w1.heap[b]? → ∃ w3, (Instr.entryStore 62 (.map (some b)) (.int .i64 st) (.pointer (some ⟨f, 0, none⟩))).run Try.prog w2 = .ok () w3 ∧ MD w3 b (putL k f l) ∧ w2.grownBy w3 (some b) := by
  obtain ⟨h1, h2, D, hF⟩ := id h
  have hkey := WideMaps.keyOf_string_mk Try.underlying9 (s := k) (by unfold maxLen; omega)
  have hh : Maps.has D (.string k.data.toList) = false := by
    rw [Bool.eq_false_iff]
    intro hh
    obtain ⟨p, hp, e⟩ := (hF.has_ _).1 hh
    exact get_none.1 hg p hp (bytes_eq e)
  obtain ⟨st, w1, r1, g1, hst⟩ := own_entry hF.own kstr Try.underlying62 (by rw [hF.size h1]; unfold maxLen; omega) (fun W => Try.zeroValue76 W) hkey (ptrR_mk f) (fun zd => atKey_of_not_has hh zd) ⟨.nil, .held 0, by intro e; cases e⟩
  refine ⟨st, w1, r1, g1, fun w2 hw2 => ?_⟩
  obtain ⟨w3, r3, o3, g3⟩ := hst w2 hw2
  exact ⟨w3, r3, h.put' hF hk o3, g3⟩
theorem DM.load {w w' : World} {L : Nat → Nat} {d ms mf k : Nat} {fb : List Nat} {s : Dk} {vc : Value} {n : ByteArray} (h : DM w L d fb s ms mf vc) (hd : s.dchs = []) (hk : k < s.files.length)
    (hms : MD w' ms (putL n (fb.getD k 0) (s.safe.map (bk fb)))) (hmf : MD w' mf (putL n (fb.getD k 0) (s.safe.map (bk fb)))) (hc : Chg (fun b => b = ms ∨ b = mf) w w') : DM w' L d fb { s with safe := putL n k s.safe } ms mf vc := by
  have hn : ∀ b, b < w.heap.size → L b ≠ 2 → L b ≠ 3 → w'.heap[b]? = w.heap[b]? := fun b hb h2 h3 => hc.block b hb fun e => by
    rcases e with rfl | rfl
    · exact h2 h.lms
    · exact h3 h.lmf
  have hsn : ({ s with safe := putL n k s.safe } : Dk).seen = putL n k s.safe := by unfold Dk.seen; rw [hd]; rfl
  refine ⟨(hn d h.box.lt (by rw [h.ld]; omega) (by rw [h.ld]; omega)).trans h.box, h.ld, h.lms, h.lmf, ?_, ?_, row_block h.rc fun b hb => hn b (h.rc.lt b hb).2 (by rw [h.lc b hb]; omega) (by rw [h.lc b hb]; omega), h.lc, h.fl, fun j x hx => ?_, fun b hb => Nat.lt_of_lt_of_le (h.lab b hb) hc.size, fun p hp => ?_, h.dids⟩
  · rw [hsn, put_map]; exact hms
  · show MD w' mf ((putL n k s.safe).map (bk fb))
    rw [put_map]; exact hmf
  · obtain ⟨vs, vf, vcc, us, hF⟩ := h.files j x hx
    exact ⟨vs, vf, vcc, us, hF.keep hc.size (fun b hb h1 _ => hn b hb (by omega) (by omega)) (fun _ _ => rfl)⟩
  · rcases mem_put.1 hp with rfl | hp
    · exact hk
    · exact h.ids p hp.1
theorem set_last {α : Type} (l : List α) (x y : α) : (l ++ [x]).set l.length y = l ++ [y] := by simp
/-- A new file with bytes, twice in rows of their own. -/
theorem DM.filled {w w1 w2 : World} {L : Nat → Nat} {d ms mf m : Nat} {fb : List Nat} {s : Dk} {vc v1 v2 : Value} {bs : List UInt8} (h : DM w L d fb s ms mf vc) (hok : s.Ok) (hm : bs.length = m)
    (hb1 : Below (w.alloc (.cells newF 89)).heap.size (w.alloc (.cells newF 89)) w1) (hb2 : Below w1.heap.size w1 w2) (hr1 : w1.ownsRow (w.alloc (.cells newF 89)).heap.size 5 1 v1 m (bv bs)) (hr2 : w2.ownsRow w1.heap.size 5 1 v2 m (bv bs)) :
    ∃ L', DM ((w2.setCell ⟨w.heap.size, 0, none⟩ v1).setCell ⟨w.heap.size, 1, none⟩ v2) L' d (fb ++ [w.heap.size]) { s with files := s.files ++ [⟨bs, []⟩] } ms mf vc ∧ (∀ b, b < w.heap.size → L' b = L b) ∧ ∀ b, L' b ≠ 0 → L b ≠ 0 ∨ w.heap.size ≤ b := by
  subst hm
  have hN := h.new hok
  have hz0 : (w.alloc (.cells newF 89)).heap.size = w.heap.size + 1 := by simp
  have hz1 := hb1.size
  have hz2 := hb2.size
  have hv1 : ∀ b, v1.ownBlock = some b → w.heap.size + 1 ≤ b ∧ b < w1.heap.size := fun b hb => by have := hr1.lt b hb; omega
  have hv2 : ∀ b, v2.ownBlock = some b → w1.heap.size ≤ b ∧ b < w2.heap.size := fun b hb => hr2.lt b hb
  refine ⟨fun b => if v1.ownBlock = some b then 8 * s.files.length + 9 else if v2.ownBlock = some b then 8 * s.files.length + 10 else if b = w.heap.size then 8 * s.files.length + 8 else L b, ?_, fun b hb => ?_, fun b hb => ?_⟩
  · have hc : Chg (fun b => b = w.heap.size) (w.alloc (.cells newF 89)) ((w2.setCell ⟨w.heap.size, 0, none⟩ v1).setCell ⟨w.heap.size, 1, none⟩ v2) :=
      ((Chg.of_below (hb1.trans (hb2.mono hz1)) (fun b => b = w.heap.size)).setCell (p := ⟨w.heap.size, 0, none⟩) (.inl rfl) v1).setCell (p := ⟨w.heap.size, 1, none⟩) (.inl rfl) v2
    have hbox : Box w2 w.heap.size 89 newF := ((Box.new w 89 newF).next hb1).next hb2
    have hbox2 : Box ((w2.setCell ⟨w.heap.size, 0, none⟩ v1).setCell ⟨w.heap.size, 1, none⟩ v2) w.heap.size 89 #[v1, v2, .slice none 0 0] := by simpa using (hbox.set_ 0 v1).set_ 1 v2
    have hr1' : ((w2.setCell ⟨w.heap.size, 0, none⟩ v1).setCell ⟨w.heap.size, 1, none⟩ v2).ownsRow (w.alloc (.cells newF 89)).heap.size 5 1 v1 bs.length (bv bs) :=
      row_far (row_far (row_next hr1 hb2) (fun k hk => by have := hv1 k hk; show k ≠ w.heap.size; omega) v1) (fun k hk => by have := hv1 k hk; show k ≠ w.heap.size; omega) v2
    have hr2' : ((w2.setCell ⟨w.heap.size, 0, none⟩ v1).setCell ⟨w.heap.size, 1, none⟩ v2).ownsRow w1.heap.size 5 1 v2 bs.length (bv bs) :=
      row_far (row_far hr2 (fun k hk => by have := hv2 k hk; show k ≠ w.heap.size; omega) v1) (fun k hk => by have := hv2 k hk; show k ≠ w.heap.size; omega) v2
    have hF := hN.file (k := s.files.length) (x' := ⟨bs, []⟩) (vs := v1) (vf := v2) (vcc := .slice none 0 0) (us := []) (by simp [Dk.newf])
      (L' := fun b => if v1.ownBlock = some b then 8 * s.files.length + 9 else if v2.ownBlock = some b then 8 * s.files.length + 10 else if b = w.heap.size then 8 * s.files.length + 8 else L b)
      (w' := (w2.setCell ⟨w.heap.size, 0, none⟩ v1).setCell ⟨w.heap.size, 1, none⟩ v2)
      (fun b hb => by
        have n1 : ¬ v1.ownBlock = some b := fun e => by have := hv1 b e; omega
        have n2 : ¬ v2.ownBlock = some b := fun e => by have := hv2 b e; omega
        simp only [n1, n2, if_false])
      (fun b hb hne => by
        by_cases n1 : v1.ownBlock = some b
        · have := hv1 b n1; simp; omega
        · by_cases n2 : v2.ownBlock = some b
          · have := hv2 b n2; simp; omega
          · simp only [n1, n2, if_false] at hne
            by_cases n3 : b = w.heap.size
            · omega
            · rw [if_neg n3] at hne
              have := h.lab b hne
              omega)
      (fun b hb => by
        by_cases n1 : v1.ownBlock = some b
        · right; simp only [n1, if_true]; omega
        · by_cases n2 : v2.ownBlock = some b
          · right; simp only [n1, n2, if_false, if_true]; omega
          · left
            have n3 : ¬ b = w.heap.size := by omega
            simp only [n1, n2, n3, if_false]
            rcases Nat.eq_zero_or_pos (L b) with h0 | h0
            · exact h0
            · have := h.lab b (by omega); omega)
      (by
        have e : (fb ++ [w.heap.size]).getD s.files.length 0 = w.heap.size := by rw [← h.fl]; simp
        rw [e]
        refine ⟨hbox2, ?_, row_le hr1' (Nat.zero_le _), fun b hb => by simp only [hb, if_true], row_le hr2' (Nat.zero_le _), fun b hb => ?_, nil_own _ _ _ _, fun b hb => (by cases hb), rfl, fun i c u hi => (by simp at hi)⟩
        · have n1 : ¬ v1.ownBlock = some w.heap.size := fun e => by have := hv1 _ e; omega
          have n2 : ¬ v2.ownBlock = some w.heap.size := fun e => by have := hv2 _ e; omega
          simp only [n1, n2, if_false, if_true]
        · have n1 : ¬ v1.ownBlock = some b := fun e => by have := hv1 _ e; have := hv2 _ hb; omega
          simp only [n1, hb, if_false, if_true])
      (hc.mono fun b _ e => by subst e; simp)
    have e : s.newf.setF s.files.length ⟨bs, []⟩ = { s with files := s.files ++ [⟨bs, []⟩] } := by
      show ({ s with files := (s.files ++ [Fl.new]).set s.files.length ⟨bs, []⟩ } : Dk) = _
      rw [set_last]
    rw [e] at hF
    exact hF
  · have n1 : ¬ v1.ownBlock = some b := fun e => by have := hv1 b e; omega
    have n2 : ¬ v2.ownBlock = some b := fun e => by have := hv2 b e; omega
    have n3 : ¬ b = w.heap.size := by omega
    simp only [n1, n2, n3, if_false]
  · by_cases n1 : v1.ownBlock = some b
    · right; have := hv1 b n1; omega
    · by_cases n2 : v2.ownBlock = some b
      · right; have := hv2 b n2; omega
      · by_cases n3 : b = w.heap.size
        · right; omega
        · left
          simp only [n1, n2, n3, if_false] at hb
          exact hb
end Go.Proofs.Ytnecafhakkjbpaa
