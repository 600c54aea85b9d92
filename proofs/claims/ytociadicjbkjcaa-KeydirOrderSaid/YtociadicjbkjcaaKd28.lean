import Derived.Test.YtociadicjbkjcaaKd27
namespace Go.Proofs.Ytociadicjbkjcaa
open Go.RowKit Go.Maps

theorem ext_get (p : ByteArray) (m j : Nat) (h : j < m) (hp : m ≤ p.size) (h' : j < (p.extract 0 m).size) : (p.extract 0 m)[j] = p[j]'(by omega) := by
  show (p.extract 0 m).data[j]'(by simpa using h') = p.data[j]'(by show j < p.size; omega)
  simp only [ByteArray.data_extract, Array.getElem_extract, Nat.zero_add]
theorem back_of (W : World) (b m cap : Nat) (p : ByteArray) (hm : m < p.size) (hcell : ∀ j, j ≤ m → ∀ hj : j < p.size, W.cell? ⟨b, j, none⟩ = some (.int .u8 (p[j].toNat : Int))) :
    (convert 103 9 (.slice (some ⟨b, 0, none⟩) (m + 1) cap)).run Try.prog (W.setCell ⟨b, m, none⟩ (.int .u8 (((p[m].toNat : Int) + 1) % 256))) =
      .ok (.string ⟨(p.data.toList.take m ++ [p[m] + 1]).toArray⟩) (W.setCell ⟨b, m, none⟩ (.int .u8 (((p[m].toNat : Int) + 1) % 256))) := by
  have hl : (p.data.toList.take m ++ [p[m] + 1]).length = m + 1 := by
    have : p.data.toList.length = p.size := by simp
    rw [List.length_append, List.length_take, List.length_singleton]; omega
  have h := run_convert_bytes_back (P := Try.prog) (W.setCell ⟨b, m, none⟩ (.int .u8 (((p[m].toNat : Int) + 1) % 256))) 103 9 5 ⟨b, 0, none⟩ cap (p.data.toList.take m ++ [p[m] + 1]) Try.underlying103 Try.underlying5 Try.underlying9 ?_
  · rw [hl] at h
    exact h
  · intro j hj
    rw [hl] at hj
    have ha : (⟨b, 0, none⟩ : Addr).add j = ⟨b, j, none⟩ := by
      unfold Addr.add
      split
      · rename_i h0; rw [h0]
      · simp
    rw [ha]
    by_cases hjm : j = m
    · subst hjm
      have e : (p.data.toList.take j ++ [p[j] + 1])[j]'(by rw [hl]; omega) = p[j] + 1 := by
        rw [List.getElem_append_right (by rw [List.length_take]; omega)]
        simp
      rw [e, World.cell?_setCell_same' _ _ _ (by rw [hcell j (Nat.le_refl _) hm]; rfl), UInt8.toNat_add]
      simp
    · have e : (p.data.toList.take m ++ [p[m] + 1])[j]'(by rw [hl]; omega) = p[j]'(by omega) := by
        rw [List.getElem_append_left (by rw [List.length_take]; have : p.data.toList.length = p.size := by simp
                                         omega), List.getElem_take]
        rfl
      rw [e, World.cell?_setCell_other _ _ _ _ (by intro e'; injection e' with _ e' _; omega)]
      exact hcell j (by omega) (by omega)
theorem bytes_of (W : World) (s : ByteArray) (n : Nat) (hn : s.size = n) : ∃ (b cap : Nat) (W2 : World), (convert 9 103 (.string s)).run Try.prog W = .ok (.slice (some ⟨b, 0, none⟩) n cap) W2 ∧ n ≤ cap ∧ W.heap.size ≤ b ∧ b < W2.heap.size ∧ Below W.heap.size W W2 ∧
    (∀ j (hj : j < s.size), W2.cell? ⟨b, j, none⟩ = some (.int .u8 (s[j].toNat : Int))) ∧ ∀ j, j < n → W2.frozen? ⟨b, j, none⟩ = false := by
  subst hn
  have h := run_bytes_of_string (P := Try.prog) W 9 103 5 s Try.underlying9 Try.underlying103 Try.underlying5
  have hg := grownCap_ge W s.size 0 5
  generalize grownCap W s.size 0 5 = cap at h hg
  have hz : (bytesRow s cap).size = cap := by unfold bytesRow; simp; omega
  have hC : ∀ j (hj : j < s.size), (bytesRow s cap)[j]? = some (.int .u8 (s[j].toNat : Int)) := fun j hj => by
    unfold bytesRow
    rw [Array.getElem?_append_left (by simpa using hj), Array.getElem?_map, Array.getElem?_eq_getElem (by simpa using hj)]
    rfl
  generalize bytesRow s cap = C at h hz hC
  refine ⟨W.heap.size, cap, _, h, hg, Nat.le_refl _, by simp, ?_, fun j hj => ?_, fun j hj => ?_⟩
  · exact (show Below W.heap.size W W.drew from ⟨rfl, rfl, rfl, Nat.le_refl _, fun _ _ => rfl⟩).alloc (Nat.le_refl _) _
  · rw [← hC j hj]
    exact World.cell?_alloc_mark W.drew C _ _ j
  · refine (World.frozen?_alloc_mark W.drew C _ C.size (C.size + 1) j).trans ?_
    simp
    omega

set_option maxRecDepth 100000 in
set_option maxHeartbeats 4000000 in
theorem after_any (p : ByteArray) (w : World) (hz : p.size ≤ maxLen) :
    Calls Try.prog 45 #[.string p] w fun e w' => AftR p e ∧ Below w.heap.size w w' := by
  unfold maxLen at hz
  go_enter Try.func45, Try.ntmps45
  go_wp2
  go_loopw [4] (fun l wr => ∃ (pos : Nat) (last : Int), wr = w.iter p pos ∧ l = .int .i64 last ∧ pos ≤ p.size ∧ AInv p pos last) (fun _ wr => p.size - wr.iterPos w.heap.size)
  case atStart => exact ⟨0, -1, rfl, rfl, Nat.zero_le _, AInv.start p⟩
  case round =>
    obtain ⟨pos, last, rfl, rfl, hps, hI⟩ := hrel
    have HI := Lib.hid hI
    clear hI
    by_cases hp : pos < p.size
    · have hnx : ∀ ty, (Instr.next (.pointer (some ⟨w.heap.size, 0, none⟩)) true ty).run Try.prog (w.iter p pos) = _ := fun ty => run_next_any w p pos ty hp
      have HD := Lib.hid (dec_cont p pos hp)
      cases pos with
      | zero =>
        go_wp2
        go_roundw
        case rel => exact ⟨0 + (Utf8.decode p 0).2, last, by simp, rfl, HD.out.2.1, HI.out.miss hp (.inl rfl)⟩
        case measure => have := HD.out; simp; omega
      | succ m =>
        have hm : m < p.size := by omega
        have hm0 : (0 : Int) ≤ m := by omega
        have hm1 : (m : Int) < p.size := by omega
        have HG := Lib.hid (get_str p m hm)
        by_cases h255 : p[m].toNat = 255
        · have h255' : decide ((p[m].toNat : Int) = 255) = true := decide_eq_true (by omega)
          have h255'' : (p[m].toNat : Int) = 255 := by omega
          go_wp2
          go_roundw
          case rel => exact ⟨m + 1 + (Utf8.decode p (m + 1)).2, last, by simp, rfl, HD.out.2.1, HI.out.miss hp (.inr ⟨m, rfl, by rw [HG.out]; exact h255⟩)⟩
          case measure => have := HD.out; simp; omega
        · have h255' : decide ((p[m].toNat : Int) = 255) = false := decide_eq_false (by omega)
          have h255'' : ¬ (p[m].toNat : Int) = 255 := by omega
          go_wp2
          go_roundw
          case rel => exact ⟨m + 1 + (Utf8.decode p (m + 1)).2, m, by simp, by go_num, HD.out.2.1, AInv.hit hp (by rw [HG.out]; exact h255)⟩
          case measure => have := HD.out; simp; omega
    · have hpe : pos = p.size := by omega
      rw [hpe] at HI
      clear hpe
      have hnx : ∀ ty, (Instr.next (.pointer (some ⟨w.heap.size, 0, none⟩)) true ty).run Try.prog (w.iter p pos) = _ := fun ty => run_next_end w p pos ty hp
      obtain ⟨W1, hW1⟩ : ∃ W1, w.iter p pos = W1 := ⟨_, rfl⟩
      have hb1 : Below w.heap.size w W1 := by rw [← hW1]; exact (Below.refl _ _).alloc (Nat.le_refl _) _
      rw [hW1] at hnx ⊢
      have HB := Lib.hid hb1
      clear hW1 hb1
      rcases (show (p.size = 0 ∧ last = -1) ∨ (∃ m, ∃ hm : m < p.size, p.size = m + 1 ∧ p[m].toNat = 255 ∧ last = -1 ∧ ALast p (-1)) ∨ (∃ m j : Nat, ∃ hm : m < p.size, p.size = m + 1 ∧ p[m].toNat = 255 ∧ last = (j : Int) ∧ ALast p (j : Int)) ∨ (∃ m, ∃ hm : m < p.size, p.size = m + 1 ∧ p[m].toNat ≠ 255 ∧ ALast p (m : Int)) by
        rcases Nat.eq_zero_or_pos p.size with h0 | h0
        · refine .inl ⟨h0, ?_⟩
          rcases HI.out.1 with h | ⟨j, _, h, _⟩
          · exact h
          · omega
        · obtain ⟨m, hs⟩ : ∃ m, p.size = m + 1 := ⟨p.size - 1, by omega⟩
          have hm : m < p.size := by omega
          by_cases h255 : p[m].toNat = 255
          · have hf := HI.out.fin (.inr ⟨m, hs, by rw [get_str p m hm]; exact h255⟩)
            rcases hf.1 with h | ⟨j, h, _⟩
            · exact .inr (.inl ⟨m, hm, hs, h255, h, by rw [h] at hf; exact hf⟩)
            · exact .inr (.inr (.inl ⟨m, j, hm, hs, h255, h, by rw [h] at hf; exact hf⟩))
          · exact .inr (.inr (.inr ⟨m, hm, hs, h255, ALast.top hs (by rw [get_str p m hm]; exact h255)⟩))) with ⟨hs, rfl⟩ | ⟨m, hm, hs, h255, rfl, hA⟩ | ⟨m, j, hm, hs, h255, rfl, hA⟩ | ⟨m, hm, hs, h255, hA⟩
      · have hs' : (p.size : Int) = 0 := by omega
        go_wp2
        go_ret2
        exact ⟨.inl ⟨rfl, fun b hb => by
          have hl : p.data.toList.length = p.size := by simp
          have hnil : p.data.toList = [] := List.eq_nil_of_length_eq_zero (by omega)
          rw [hnil] at hb
          cases hb⟩, HB.out⟩
      · have hs' : (p.size : Int) = m + 1 := by omega
        have h255' : decide ((p[m].toNat : Int) = 255) = true := decide_eq_true (by omega)
        have h255'' : (p[m].toNat : Int) = 255 := by omega
        have HA := Lib.hid hA
        clear hA
        go_wp2
        go_ret2
        exact ⟨.inl ⟨rfl, HA.out.none_⟩, HB.out⟩
      · have hs' : (p.size : Int) = m + 1 := by omega
        have h255' : decide ((p[m].toNat : Int) = 255) = true := decide_eq_true (by omega)
        have h255'' : (p[m].toNat : Int) = 255 := by omega
        have hjp : j < p.size := hA.some_.1
        have HA := Lib.hid hA
        clear hA
        have hm0 : (0 : Int) ≤ j := by omega
        have hsx : (p.extract 0 (j + 1)).size = j + 1 := by simp; omega
        obtain ⟨b, cap, W2, hconv, hcap, hbl, hbt, hb2, hcell, hfz⟩ := bytes_of W1 (p.extract 0 (j + 1)) (j + 1) hsx
        have hcm := hcell j (by omega)
        have hcl : ∀ i, i ≤ j → ∀ hj : i < p.size, W2.cell? ⟨b, i, none⟩ = some (.int .u8 (p[i].toNat : Int)) := fun i hj hp' => by rw [hcell i (by omega), ext_get p (j + 1) i (by omega) (by omega)]
        rw [ext_get p (j + 1) j (by omega) (by omega)] at hcm
        have hfm := hfz j (by omega)
        have hback := back_of W2 b j cap p hjp hcl
        have HB2 := Lib.hid hb2
        clear hb2 hcell hfz hcl
        go_wp2
        go_ret2
        obtain ⟨hj, hne, hall⟩ := HA.out.some_
        refine ⟨.inr ⟨p.data.toList.take j, p[j], _, _, rfl, hall, hne, by simp⟩, ?_⟩
        exact (HB.out.trans (HB2.out.mono HB.out.size)).setCell (p := ⟨b, j, none⟩) (by have := HB.out.size; show w.heap.size ≤ b; omega) _
      · have hs' : (p.size : Int) = m + 1 := by omega
        have h255' : decide ((p[m].toNat : Int) = 255) = false := decide_eq_false (by omega)
        have h255'' : ¬ (p[m].toNat : Int) = 255 := by omega
        have HA := Lib.hid hA
        clear hA
        have hm0 : (0 : Int) ≤ m := by omega
        have hsx : (p.extract 0 (m + 1)).size = m + 1 := by simp; omega
        obtain ⟨b, cap, W2, hconv, hcap, hbl, hbt, hb2, hcell, hfz⟩ := bytes_of W1 (p.extract 0 (m + 1)) (m + 1) hsx
        have hcm := hcell m (by omega)
        have hcl : ∀ j, j ≤ m → ∀ hj : j < p.size, W2.cell? ⟨b, j, none⟩ = some (.int .u8 (p[j].toNat : Int)) := fun j hj hp' => by rw [hcell j (by omega), ext_get p (m + 1) j (by omega) (by omega)]
        rw [ext_get p (m + 1) m (by omega) (by omega)] at hcm
        have hfm := hfz m (by omega)
        have hback := back_of W2 b m cap p hm hcl
        have HB2 := Lib.hid hb2
        clear hb2 hcell hfz hcl
        go_wp2
        go_ret2
        obtain ⟨hj, hne, hall⟩ := HA.out.some_
        refine ⟨.inr ⟨p.data.toList.take m, p[m], _, _, rfl, hall, hne, by simp⟩, ?_⟩
        exact (HB.out.trans (HB2.out.mono HB.out.size)).setCell (p := ⟨b, m, none⟩) (by have := HB.out.size; show w.heap.size ≤ b; omega) _
end Go.Proofs.Ytociadicjbkjcaa
