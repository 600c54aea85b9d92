import Derived.Test.YtifimeohdgnehaaRd4
namespace Go.Proofs.Ytifimeohdgnehaa
open Go.RowKit Go.Maps

set_option maxRecDepth 100000 in
set_option maxHeartbeats 2000000 in
theorem octNewR (A : Option Addr) (n c : Nat) (l : List UInt8) (w : World) (hA : Rd w w.heap.size A (bv l)) (hn : l.length = n) (hmx : n ≤ 140737488355328) :
    Calls Try.prog 34 #[.slice A n c] w fun e w' => ∃ p, e = .returned (.pointer (some ⟨p, 0, none⟩)) ∧ ORd w' p l ⟨0, false⟩ ∧ w.heap.size ≤ p ∧ Below w.heap.size w w' := by
  obtain ⟨i0, hi0, hz0, hs0, hy0⟩ := info_parts info_u8
  have HA := Lib.hid hA
  have Hn := Lib.hid hn
  clear hA hn
  go_enter Try.func34, Try.ntmps34
  go_wp2_with (at_builtin
               refine wpList_app _ rfl (.const (.slice none 0 0)) (.tmp 3) _ rfl w.heap.size 5 i0 _ 1 1 Try.underlying26 hi0 hz0 hs0 hy0 rfl (by omega) (.slice none 0 0) 0 [] rfl (World.ownsRow_nil _ _ _ _) _ A n c (bv l) rfl (by rw [bv_len, Hn.out, Nat.mul_one]) HA.out (one_bv _) (by unfold maxLen; omega) (by omega) (Nat.le_refl _) ?_
               intro v1 w1 hown hg _
               rw [Nat.zero_add, List.nil_append] at hown
               obtain ⟨b1, cap1, rfl⟩ := ownsRow_slice hown
               have H1 := Lib.hid (And.intro hown hg)
               clear hown hg)
  go_ret
  refine ⟨w1.heap.size, rfl, ⟨b1, cap1, 0, 0, ?_, ?_, ?_, Nat.zero_le _, fun e => by cases e⟩, H1.out.2.size, ?_⟩
  · rw [Hn.out]; exact Box.new w1 _ _
  · have h1 := ownsRow_rd H1.out.1
    exact h1.keep fun q hq => World.cell?_alloc_lt _ _ _ hq
  · rw [Hn.out]
    rcases H1.out.1.2 with ⟨hv, h0⟩ | ⟨g, c', cur, hv, _, _, hnc, _⟩
    · omega
    · injection hv with _ _ e2
      omega
  · exact ((Below.refl w.heap.size w).grown H1.out.2 (Nat.le_refl _) (fun k hk => by cases hk)).alloc H1.out.2.size _

/-- What Text answers, as a value. -/
def strV (l : List UInt8) : Value := .string ⟨l.toArray⟩

set_option maxRecDepth 100000 in
set_option maxHeartbeats 4000000 in
theorem octTx (p m : Nat) (l : List UInt8) (s : RSt) (w : World) (h : ORd w p l s) (hmx : l.length ≤ 140737488355328) (hm : m ≤ 1000000) :
    Calls Try.prog 38 #[.pointer (some ⟨p, 0, none⟩), .int .i64 m] w fun e w' => e = .returned (strV (txS m l s).1) ∧ RAft p l (txS m l s).2 w w' := by
  obtain ⟨b, cap, er, ea, h⟩ := h
  have hle := h.le
  have H := Lib.hid h
  obtain ⟨at_, fl⟩ := s
  simp only at hle
  clear h
  by_cases hbad : fl = true ∨ rdE (l.drop at_) = none
  · have HT : Hid ((txS m l ⟨at_, fl⟩).1 = [] ∧ (txS m l ⟨at_, fl⟩).2 = (uvS l ⟨at_, fl⟩).2 ∧ (uvS l ⟨at_, fl⟩).2.fl = true) := by
      show _ ∧ _
      rcases hbad with rfl | hr
      · exact ⟨rfl, rfl, rfl⟩
      · cases fl with
        | true => exact ⟨rfl, rfl, rfl⟩
        | false => unfold txS uvS; rw [hr]; exact ⟨rfl, rfl, rfl⟩
    generalize hu : uvS l ⟨at_, fl⟩ = u at HT
    have Hu := Lib.hid hu
    clear hu hbad
    go_enter Try.func38, Try.ntmps38
    go_wp2_with (first
      | (go_at_call 60; refine (octPlace p b cap er ea l _ _ H.out).mono ?_; rintro e w1 ⟨rfl, rfl⟩)
      | (go_at_call 36; refine (octUvX p b cap er ea l _ _ H.out hmx).mono ?_; rintro e w1 ⟨he, h1, h2⟩; rw [Hu.out] at he h1; subst he; obtain ⟨b2, cap2, er2, ea2, hx⟩ := h1; have hc2 := hx.box.cell; have hl2 := hx.box.lt; rw [HT.out.2.2] at hc2; have HX := Lib.hid (And.intro hx h2); clear hx h2))
    go_ret
    rw [HT.out.1, HT.out.2.1]
    exact ⟨rfl, ⟨_, _, _, _, HX.out.1⟩, HX.out.2⟩
  obtain rfl : fl = false := by cases fl with
    | true => exact absurd (.inl rfl) hbad
    | false => rfl
  rcases hr : rdE (l.drop at_) with _ | ⟨v, k⟩
  · exact absurd (.inr hr) hbad
  have hb := rdE_bound hr
  rw [List.length_drop] at hb
  obtain ⟨b1, b2, b3⟩ := hb
  have HU : Hid (uvS l ⟨at_, false⟩ = (v, ⟨at_ + k, false⟩)) := by unfold uvS; rw [hr]; rfl
  by_cases hok : v ≤ m ∧ v ≤ l.length - (at_ + k)
  · have HT : Hid (txS m l ⟨at_, false⟩ = ((l.drop (at_ + k)).take v, ⟨at_ + k + v, false⟩)) := by unfold txS; rw [hr]; exact if_pos hok
    obtain ⟨o1, o2⟩ := hok
    have o3 : (v : Int) ≤ m := by omega
    have o4 : (v : Int) ≤ (l.length : Int) - (at_ + k : Nat) := by omega
    clear hbad hr
    go_enter Try.func38, Try.ntmps38
    go_wp2_with (first
      | (go_at_call 60; refine (octPlace p b cap er ea l _ _ H.out).mono ?_; rintro e w1 ⟨rfl, rfl⟩)
      | (go_at_call 36; refine (octUvX p b cap er ea l _ _ H.out hmx).mono ?_; rintro e w1 ⟨he, h1, h2⟩; rw [HU.out] at he h1; subst he; obtain ⟨b2', cap2, er2, ea2, hx⟩ := h1; have hc2 := hx.box.cell; have hl2 := hx.box.lt; simp only at hc2; have HX := Lib.hid (And.intro hx h2); clear hx h2)
      | (go_at_call 37; refine (octRest p b2' cap2 er2 ea2 l _ _ HX.out.1 hmx).mono ?_; rintro e w2 ⟨rfl, nd, rfl⟩)
      | (go_at_call 62; refine (octTake p b2' cap2 v er2 ea2 l (at_ + k) _ (HX.out.1.drewN _) (by omega) hmx).mono ?_; rintro e w3 ⟨rfl, h3, h4⟩; have hstr := fun W hW => run_str W p (tailA b2' cap2 (at_ + k)) v (cap2 - (at_ + k)) ((l.drop (at_ + k)).take v) (by simp; omega) hW; have hst2 := hstr w3 (((h3.rd).tail_ (at_ + k) h3.cap_).take_ v); clear hstr; have HY := Lib.hid (And.intro h3 h4); clear h3 h4))
    go_ret
    rw [HT.out]
    exact ⟨rfl, ⟨_, _, _, _, HY.out.1⟩, (HX.out.2.drewN nd).trans HY.out.2⟩
  · have HT : Hid (txS m l ⟨at_, false⟩ = ([], ⟨l.length, true⟩)) := by unfold txS; rw [hr]; exact if_neg hok
    have HN : Hid (∀ x : Int, (14 : Int) ≠ 0 ∧ (10 : Int) ≠ 0) := fun _ => ⟨by decide, by decide⟩
    clear hbad hr
    by_cases o1 : v ≤ m
    · have o3 : (v : Int) ≤ m := by omega
      have o4 : (l.length : Int) - (at_ + k : Nat) < (v : Int) := by omega
      clear hok
      go_enter Try.func38, Try.ntmps38
      go_wp2_with (first
        | (go_at_call 60; refine (octPlace p b cap er ea l _ _ H.out).mono ?_; rintro e w1 ⟨rfl, rfl⟩)
        | (go_at_call 36; refine (octUvX p b cap er ea l _ _ H.out hmx).mono ?_; rintro e w1 ⟨he, h1, h2⟩; rw [HU.out] at he h1; subst he; obtain ⟨b2', cap2, er2, ea2, hx⟩ := h1; have hc2 := hx.box.cell; have hl2 := hx.box.lt; simp only at hc2; have HX := Lib.hid (And.intro hx h2); clear hx h2)
        | (go_at_call 37; refine (octRest p b2' cap2 er2 ea2 l _ _ HX.out.1 hmx).mono ?_; rintro e w2 ⟨rfl, nd, rfl⟩)
        | (go_at_call 61; refine (octFailAt1 p b2' cap2 er2 ea2 _ _ l (at_ + k) _ (HX.out.1.drewN _) (HN.out 0).2).mono ?_; rintro e w3 ⟨rfl, h3, h4⟩; have HY := Lib.hid (And.intro h3 h4); clear h3 h4))
      go_ret
      rw [HT.out]
      exact ⟨rfl, ⟨_, _, _, _, HY.out.1⟩, (HX.out.2.drewN nd).trans HY.out.2⟩
    · have o3 : (m : Int) < v := by omega
      clear hok
      go_enter Try.func38, Try.ntmps38
      go_wp2_with (first
        | (go_at_call 60; refine (octPlace p b cap er ea l _ _ H.out).mono ?_; rintro e w1 ⟨rfl, rfl⟩)
        | (go_at_call 36; refine (octUvX p b cap er ea l _ _ H.out hmx).mono ?_; rintro e w1 ⟨he, h1, h2⟩; rw [HU.out] at he h1; subst he; obtain ⟨b2', cap2, er2, ea2, hx⟩ := h1; have hc2 := hx.box.cell; have hl2 := hx.box.lt; simp only at hc2; have HX := Lib.hid (And.intro hx h2); clear hx h2)
        | (go_at_call 61; refine (octFailAt1 p b2' cap2 er2 ea2 _ _ l (at_ + k) _ HX.out.1 (HN.out 0).1).mono ?_; rintro e w3 ⟨rfl, h3, h4⟩; have HY := Lib.hid (And.intro h3 h4); clear h3 h4))
      go_ret
      rw [HT.out]
      exact ⟨rfl, ⟨_, _, _, _, HY.out.1⟩, HX.out.2.trans HY.out.2⟩
end Go.Proofs.Ytifimeohdgnehaa
