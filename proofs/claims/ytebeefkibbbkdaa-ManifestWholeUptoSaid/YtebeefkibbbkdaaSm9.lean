import Derived.Test.YtebeefkibbbkdaaSm8
import Derived.Laws.IdiomStrings
/- Names. -/
namespace Go.Proofs.Ytebeefkibbbkdaa
open Go.RowKit Go.Maps

theorem bytes_of (W : World) (s : ByteArray) (n : Nat) (hn : s.size = n) : ∃ (b cap : Nat) (W2 : World), (convert 9 22 (.string s)).run Try.prog W = .ok (.slice (some ⟨b, 0, none⟩) n cap) W2 ∧ n ≤ cap ∧ W.heap.size ≤ b ∧ b < W2.heap.size ∧ Below W.heap.size W W2 ∧
    (∀ j (hj : j < s.size), W2.cell? ⟨b, j, none⟩ = some (.int .u8 (s[j].toNat : Int))) := by
  subst hn
  have h := run_bytes_of_string (P := Try.prog) W 9 22 5 s Try.underlying9 Try.underlying22 Try.underlying5
  have hg := grownCap_ge W s.size 0 5
  generalize grownCap W s.size 0 5 = cap at h hg
  have hz : (bytesRow s cap).size = cap := by unfold bytesRow; simp; omega
  have hC : ∀ j (hj : j < s.size), (bytesRow s cap)[j]? = some (.int .u8 (s[j].toNat : Int)) := fun j hj => by
    unfold bytesRow
    rw [Array.getElem?_append_left (by simpa using hj), Array.getElem?_map, Array.getElem?_eq_getElem (by simpa using hj)]
    rfl
  generalize bytesRow s cap = C at h hz hC
  refine ⟨W.heap.size, cap, _, h, hg, Nat.le_refl _, by simp, ?_, fun j hj => ?_⟩
  · exact (show Below W.heap.size W W.drew from ⟨rfl, rfl, rfl, Nat.le_refl _, fun _ _ => rfl⟩).alloc (Nat.le_refl _) _
  · rw [← hC j hj]
    exact World.cell?_alloc_mark W.drew C _ _ j
theorem nameB_yes {c : UInt8} : nameB c = true ↔ (97 ≤ c.toNat ∧ c.toNat ≤ 122) ∨ (48 ≤ c.toNat ∧ c.toNat ≤ 57) ∨ c.toNat = 46 ∨ c.toNat = 45 ∨ c.toNat = 95 := by
  unfold nameB
  simp only [Bool.or_eq_true, Bool.and_eq_true, decide_eq_true_eq, beq_iff_eq]
  omega
theorem goodN_head {n : ByteArray} {c : UInt8} {r : List UInt8} (h : n.data.toList = c :: r) : goodN n = (decide (n.size ≤ 32) && !(c.toNat == 46) && !(c.toNat == 45) && !(c.toNat == 95) && n.data.toList.all nameB) := by
  have hs : 1 ≤ n.size := by
    have := congrArg List.length h
    simp at this; omega
  have e : ∀ k : UInt8, (some c == some k) = (c.toNat == k.toNat) := fun k => by
    rw [Bool.eq_iff_iff]
    simp only [beq_iff_eq, Option.some.injEq]
    exact ⟨fun h => by rw [h], fun h => UInt8.toNat_inj.1 h⟩
  unfold goodN
  rw [h, decide_eq_true hs, List.head?_cons, e, e, e]
  simp only [Bool.true_and]
  rfl
theorem all_take {l : List UInt8} {j : Nat} (hj : j < l.length) : (l.take (j + 1)).all nameB = ((l.take j).all nameB && nameB l[j]) := by
  rw [List.take_succ_eq_append_getElem hj, List.all_append]; simp

set_option maxRecDepth 100000 in
set_option maxHeartbeats 4000000 in
theorem goodName_any (s : ByteArray) (w : World) (hz : s.size ≤ maxLen) :
    Calls Try.prog 44 #[.string s] w fun e w' => e = .returned (.bool (goodN s)) ∧ Below w.heap.size w w' := by
  unfold maxLen at hz
  by_cases h0 : s.size = 0
  · have hg := Lib.hid (show goodN s = false by unfold goodN; simp [h0])
    have he : s.toList = [] := by rw [ByteArray.toList_eq]; exact List.eq_nil_of_length_eq_zero (by simpa using h0)
    have he2 : s.toList.isEmpty = true := by rw [he]; rfl
    go_enter Try.func44, Try.ntmps44
    go_wp2
    go_ret
    exact ⟨ret_bool (by rw [hg.out]), Below.refl _ _⟩
  · have he : ¬ s.toList = [] := fun e => h0 (by rw [ByteArray.toList_eq] at e; have := congrArg List.length e; simpa using this)
    have he2 : s.toList.isEmpty = false := by simpa using he
    by_cases h32 : 32 < s.size
    · have hg := Lib.hid (show goodN s = false by unfold goodN; simp; omega)
      go_enter Try.func44, Try.ntmps44
      go_wp2
      go_ret
      exact ⟨ret_bool (by rw [hg.out]), Below.refl _ _⟩
    · have hl : 0 < s.size := by omega
      have hc : s.data.toList = s[0] :: s.data.toList.drop 1 := by
        have := List.drop_eq_getElem_cons (i := 0) (l := s.data.toList) (by simpa using hl)
        rw [List.drop_zero] at this
        exact this
      have hG := Lib.hid (goodN_head hc)
      have hci : (s.data.toList[0]'(by simpa using hl)) = s[0] := rfl
      have h01 : (0 : Int) < s.size := by omega
      clear hc
      rcases (show s[0].toNat = 46 ∨ s[0].toNat = 45 ∨ s[0].toNat = 95 ∨ (s[0].toNat ≠ 46 ∧ s[0].toNat ≠ 45 ∧ s[0].toNat ≠ 95) by omega) with hx | hx | hx | hx
      case inl | inr.inl | inr.inr.inl =>
        have hxi : (s[0].toNat : Int) = _ := congrArg Int.ofNat hx
        have hg := Lib.hid (show goodN s = false by rw [hG.out]; simp [hx])
        clear hG hci
        go_enter Try.func44, Try.ntmps44
        go_wp2
        go_ret
        exact ⟨ret_bool (by rw [hg.out]), Below.refl _ _⟩
      have hx1 : ¬ (s[0].toNat : Int) = 46 := by omega
      have hx2 : ¬ (s[0].toNat : Int) = 45 := by omega
      have hx3 : ¬ (s[0].toNat : Int) = 95 := by omega
      have hg := Lib.hid (show goodN s = s.data.toList.all nameB by rw [hG.out]; simp [hx.1, hx.2.1, hx.2.2]; omega)
      have e1 : ((s[0].toNat : Int) == 46) = false := by simpa using hx1
      have e2 : ((s[0].toNat : Int) == 45) = false := by simpa using hx2
      have e3 : ((s[0].toNat : Int) == 95) = false := by simpa using hx3
      have e4 : decide ((32 : Int) < s.size) = false := by simp; omega
      obtain ⟨b, cap, W2, hconv, hcap, hbl, hbt, hb2, hcell⟩ := bytes_of w s s.size rfl
      have HC := Lib.hid (And.intro hcell (And.intro True.intro hb2))
      clear hG hci hx hcell hb2
      go_enter Try.func44, Try.ntmps44
      go_wp2
      go_loop [30] (fun i => ∃ j : Nat, j ≤ s.size ∧ i = .int .i64 j ∧ (s.data.toList.take j).all nameB = true) (fun i => s.size - (intOf i).toNat)
      case atStart => exact ⟨0, Nat.zero_le _, rfl, rfl⟩
      case round =>
        obtain ⟨j, hj, rfl, ha⟩ := hrel
        by_cases hlt : j < s.size
        · have hjs : j < s.size := hlt
          have hcj := HC.out.1 j hjs
          have hj0 : (0 : Int) ≤ j := by omega
          have hj1 : (j : Int) < s.size := by omega
          have HA := Lib.hid (show (s.data.toList.take (j + 1)).all nameB = nameB s[j] by rw [all_take (by simpa using hjs), ha]; rfl)
          have HB := Lib.hid (fun (h : nameB s[j] = false) => show s.data.toList.all nameB = false by
            rw [← Bool.not_eq_true, List.all_eq_true]
            intro h2
            have h3 := h2 s[j] (List.getElem_mem (l := s.data.toList) (by simpa using hjs))
            rw [h] at h3; cases h3)
          clear ha
          generalize s[j] = c at hcj HA HB
          clear hjs
          have hcl := c.toNat_lt
          by_cases hb : nameB c = true
          · rcases nameB_yes.1 hb with h1 | h1 | h1 | h1 | h1
            all_goals
              have hi0 : (0 : Int) ≤ (c.toNat : Int) := by omega
              have hi1 : (c.toNat : Int) < 97 ∨ True := .inr trivial
              clear hi1
            · have a1 : ¬ (c.toNat : Int) < 97 := by omega
              have a2 : ¬ (122 : Int) < c.toNat := by omega
              go_wp2
              go_round
              case rel => exact ⟨j + 1, by omega, by go_num, by rw [HA.out, hb]⟩
              case measure => simp [intOf]; omega
            · have a1 : (c.toNat : Int) < 97 := by omega
              have a2 : ¬ (c.toNat : Int) < 48 := by omega
              have a3 : ¬ (57 : Int) < c.toNat := by omega
              go_wp2
              go_round
              case rel => exact ⟨j + 1, by omega, by go_num, by rw [HA.out, hb]⟩
              case measure => simp [intOf]; omega
            all_goals
              have a1 : (c.toNat : Int) = _ := congrArg Int.ofNat h1
              go_wp2
              go_round
              case rel => exact ⟨j + 1, by omega, by go_num, by rw [HA.out, hb]⟩
              case measure => simp [intOf]; omega
          · have hb' : nameB c = false := by simpa using hb
            have hbad : ¬ ((97 ≤ c.toNat ∧ c.toNat ≤ 122) ∨ (48 ≤ c.toNat ∧ c.toNat ≤ 57) ∨ c.toNat = 46 ∨ c.toNat = 45 ∨ c.toNat = 95) := fun h => hb (nameB_yes.2 h)
            have HBB := Lib.hid (HB.out hb')
            have b1 : ¬ (c.toNat : Int) = 46 := by omega
            have b2 : ¬ (c.toNat : Int) = 45 := by omega
            have b3 : ¬ (c.toNat : Int) = 95 := by omega
            have n1 : ((c.toNat : Int) != 46) = true := by rw [bne_iff_ne]; exact b1
            have n2 : ((c.toNat : Int) != 45) = true := by rw [bne_iff_ne]; exact b2
            have n3 : ((c.toNat : Int) != 95) = true := by rw [bne_iff_ne]; exact b3
            rcases (show c.toNat < 48 ∨ (57 < c.toNat ∧ c.toNat < 97) ∨ 122 < c.toNat by omega) with h1 | ⟨h1, h2⟩ | h1
            · have a1 : (c.toNat : Int) < 97 := by omega
              have a2 : (c.toNat : Int) < 48 := by omega
              clear hbad hb hb' HB
              go_wp2
              go_ret
              exact ⟨ret_bool (by rw [hg.out, HBB.out]), HC.out.2.2⟩
            · have a1 : (c.toNat : Int) < 97 := by omega
              have a2 : ¬ (c.toNat : Int) < 48 := by omega
              have a3 : (57 : Int) < c.toNat := by omega
              clear hbad hb hb' HB
              go_wp2
              go_ret
              exact ⟨ret_bool (by rw [hg.out, HBB.out]), HC.out.2.2⟩
            · have a1 : ¬ (c.toNat : Int) < 97 := by omega
              have a2 : (122 : Int) < c.toNat := by omega
              have a3 : ¬ (c.toNat : Int) < 48 := by omega
              have a4 : (57 : Int) < c.toNat := by omega
              clear hbad hb hb' HB
              go_wp2
              go_ret
              exact ⟨ret_bool (by rw [hg.out, HBB.out]), HC.out.2.2⟩
        · have hjn : j = s.size := by omega
          have HT := Lib.hid (show s.data.toList.all nameB = true by rw [List.take_of_length_le (by simp; omega)] at ha; exact ha)
          clear ha
          go_wp2
          go_ret
          exact ⟨ret_bool (by rw [hg.out, HT.out]), HC.out.2.2⟩
end Go.Proofs.Ytebeefkibbbkdaa
