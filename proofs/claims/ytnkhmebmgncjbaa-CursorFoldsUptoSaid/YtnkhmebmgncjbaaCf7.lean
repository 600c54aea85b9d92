import Derived.Test.YtnkhmebmgncjbaaCf6
namespace Go.Proofs.Ytnkhmebmgncjbaa
open Go.RowKit Go.Maps

def markQ : PA := ⟨{ data := #[109, 97, 114, 107] }, ByteArray.empty, -77, 0⟩
def markR : RC := ⟨-78, 0, 0, 0, 0, ByteArray.empty, ByteArray.empty⟩
theorem KeysP.mark {l : List PA} (h : KeysP l) : KeysP (l ++ [markQ]) := fun p hp => by
  rcases List.mem_append.1 hp with h1 | h1
  · exact h p h1
  · rw [List.mem_singleton.1 h1]; show (4 : Nat) ≤ maxLen; unfold maxLen; omega
theorem KeysR.mark {l : List RC} (h : KeysR l) : KeysR (l ++ [markR]) := fun p hp => by
  rcases List.mem_append.1 hp with h1 | h1
  · exact h p h1
  · rw [List.mem_singleton.1 h1]; exact Nat.zero_le _
theorem KeysP.take {l : List PA} (h : KeysP l) (n : Nat) : KeysP (l.take n) := fun p hp => h p (List.mem_of_mem_take hp)
theorem KeysR.take {l : List RC} (h : KeysR l) (n : Nat) : KeysR (l.take n) := fun p hp => h p (List.mem_of_mem_take hp)
theorem KeysR.set {l : List RC} (h : KeysR l) (i : Nat) {p : RC} (hp : p.key.size ≤ maxLen) : KeysR (l.set i p) := fun q hq => by
  rcases List.mem_or_eq_of_mem_set hq with h1 | rfl
  · exact h q h1
  · exact hp
theorem prow_gr {w W : World} {v : Value} {l L : List PA} {m : Nat} (h : PRow w W v l) (hL : l = L) (hm : L.length = m) : ∃ b cap, v = .slice b m cap ∧ GR 29 4 p4 w.heap.size W.heap.size W b m cap L ∧ Below w.heap.size w W := by
  subst hL hm
  obtain ⟨b, c, rfl⟩ := row_slice h.1
  exact ⟨b, c, rfl, GR.mk' h.1 rfl, h.2⟩
theorem foldPG {a : List PA} {r : List RC} {L : List PA} {m : Nat} (hL : foldL a r = L) (hm : L.length = m) (A A' : Option Addr) (n c n' c' : Nat) (w : World) (hA : Rd w w.heap.size A (a.flatMap p4)) (hA' : Rd w w.heap.size A' (r.flatMap r7)) (hn : a.length = n) (hn' : r.length = n')
    (hmx : n ≤ 10000000) (hmx' : n' ≤ 10000000) (hk : KeysP a) (hk' : KeysR r) :
    Calls Try.prog 4 #[.slice A n c, .slice A' n' c'] w fun e w' => ∃ b cap, e = .returned (.slice b m cap) ∧ GR 29 4 p4 w.heap.size w'.heap.size w' b m cap L ∧ Below w.heap.size w w' :=
  (foldP A A' n c n' c' a r w hA hA' hn hn' (by omega) (by omega) hk hk').mono fun e w' ⟨v, h1, h2⟩ => by
    obtain ⟨b, cap, rfl, h3, h4⟩ := prow_gr h2 hL hm
    exact ⟨b, cap, h1, h3, h4⟩
theorem foldRG {a : List PA} {r : List RC} {L : List PA} {m : Nat} (hL : foldL a r = L) (hm : L.length = m) (A A' : Option Addr) (n c n' c' : Nat) (w : World) (hA : Rd w w.heap.size A (a.flatMap p4)) (hA' : Rd w w.heap.size A' (r.flatMap r7)) (hn : a.length = n) (hn' : r.length = n')
    (hmx : n ≤ 10000000) (hmx' : n' ≤ 10000000) (hk : KeysP a) (hk' : KeysR r) :
    Calls Try.prog 5 #[.slice A n c, .slice A' n' c'] w fun e w' => ∃ b cap, e = .returned (.slice b m cap) ∧ GR 29 4 p4 w.heap.size w'.heap.size w' b m cap L ∧ Below w.heap.size w w' :=
  (foldR A A' n c n' c' a r w hA hA' hn hn' (by omega) (by omega) hk hk').mono fun e w' ⟨v, h1, h2⟩ => by
    obtain ⟨b, cap, rfl, h3, h4⟩ := prow_gr h2 hL hm
    exact ⟨b, cap, h1, h3, h4⟩
theorem foldAny (A A' : Option Addr) (n c n' c' : Nat) (a : List PA) (r : List RC) (w : World) (hA : Rd w w.heap.size A (a.flatMap p4)) (hA' : Rd w w.heap.size A' (r.flatMap r7)) (hn : n ≤ a.length) (hn' : n' ≤ r.length)
    (hmx : n ≤ 10000000) (hmx' : n' ≤ 10000000) (hk : KeysP a) (hk' : KeysR r) :
    Calls Try.prog 4 #[.slice A n c, .slice A' n' c'] w fun e w' => ∃ v, e = .returned v ∧ Below w.heap.size w w' :=
  (foldP A A' n c n' c' (a.take n) (r.take n') w (hA.part_ n) (hA'.part_ n') (by rw [List.length_take]; omega) (by rw [List.length_take]; omega) (by omega) (by omega) (hk.take n) (hk'.take n')).mono fun e w' ⟨v, h1, h2⟩ => ⟨v, h1, h2.2⟩

set_option maxRecDepth 100000 in
set_option maxHeartbeats 16000000 in
theorem cursorFolds_any (A A' : Option Addr) (n c n' c' : Nat) (a : List PA) (r : List RC) (w : World) (hA : Rd w w.heap.size A (a.flatMap p4)) (hA' : Rd w w.heap.size A' (r.flatMap r7)) (hn : a.length = n) (hn' : r.length = n') (hmx : n ≤ 2000000) (hmx' : n' ≤ 2000000) (hk : KeysP a) (hk' : KeysR r) :
    Calls Try.prog 3 #[.slice A n c, .slice A' n' c'] w fun ee w' => ee = .returned (.bool true) ∧ Below w.heap.size w w' := by
  obtain ⟨i0, hi0, hz0, hs0, hy0⟩ := info_parts info_pa
  obtain ⟨i1, hi1, hz1, hs1, hy1⟩ := info_parts info_rc
  have hmn := foldL_len a r
  rw [hn, hn'] at hmn
  generalize hE : foldL a r = L at hmn
  generalize hm : L.length = m at hmn
  have HE := Lib.hid hE
  have HM := Lib.hid hm
  have HK := Lib.hid (And.intro hk hk')
  have hr : ∀ W, Below w.heap.size w W → Rd W W.heap.size A (a.flatMap p4) ∧ Rd W W.heap.size A' (r.flatMap r7) := fun W hb => ⟨(hA.below hb).mono hb.size, (hA'.below hb).mono hb.size⟩
  have Hr := Lib.hid hr
  have Hn := Lib.hid (And.intro hn hn')
  have hb0 : Below w.heap.size w (w.alloc (.cells #[] 29)) := Below.al _ _
  have HB0 := Lib.hid hb0
  clear hr hA hA' hn hn' hE hm hk hk' hb0
  go_enter Try.func3, Try.ntmps3
  go_wp2_with (first
    | (at_builtin
       refine wpList_app _ rfl (.tmp 15) (.tmp 16) _ rfl w.heap.size 29 i0 _ 4 48 Try.underlying22 hi0 hz0 hs0 hy0 rfl (by omega) (.slice (some ⟨w.heap.size, 0, none⟩) 0 0) 0 [] rfl (own_empty w _ _ _ (Nat.le_refl _)) _ A n c (a.flatMap p4) rfl (by rw [p4_len, Hn.out.1]) (Hr.out _ HB0.out).1 (one_p4s _) (by unfold maxLen; omega) (by omega) (by simp) ?_
       intro v1 w1 hown hg _
       rw [Nat.zero_add, List.nil_append] at hown
       obtain ⟨bx, cx, rfl⟩ := row_slice hown
       have RX_1 := Lib.hid (GR.mk' hown Hn.out.1)
       have BL_1 := Lib.hid (HB0.out.grown hg (by simp) (fun k hk => by simp [Value.ownBlock] at hk; omega))
       have z1 := BL_1.out.size
       clear hown hg HB0)
    | (at_builtin
       have hbA : Below w.heap.size w (w1.alloc (.cells #[] 31)) := Below.next BL_1.out (Below.al _ _)
       refine wpList_app _ rfl (.tmp 18) (.tmp 19) _ rfl w1.heap.size 31 i1 _ 7 72 Try.underlying23 hi1 hz1 hs1 hy1 rfl (by omega) (.slice (some ⟨w1.heap.size, 0, none⟩) 0 0) 0 [] rfl (own_empty w1 _ _ _ (Nat.le_refl _)) _ A' n' c' (r.flatMap r7) rfl (by rw [r7_len, Hn.out.2]) (Hr.out _ hbA).2 (one_r7s _) (by unfold maxLen; omega) (by omega) (by simp) ?_
       intro v1 w2 hown hg _
       rw [Nat.zero_add, List.nil_append] at hown
       obtain ⟨by_, cy, rfl⟩ := row_slice hown
       have hcg : Chg (fun j => j = w1.heap.size) (w1.alloc (.cells #[] 31)) w2 := (Chg.of_grown hg).mono (fun j _ hj => by simp [Value.ownBlock] at hj; exact hj)
       have z2 := hcg.size
       rw [World.size_alloc] at z2
       have RY_2 := Lib.hid (GR.mk' hown Hn.out.2)
       have BL_2 := Lib.hid (hbA.trans (hcg.below (by simp; omega) (fun j hj => by omega)))
       have RX_2 := Lib.hid ((RX_1.out.next (Below.al w1 (.cells #[] 31))).chg hcg (by intro j h1 h2 h3; omega))
       clear hown hg hcg hbA BL_1 RX_1)
    | (go_at_call 4
       refine (foldPG HE.out HM.out bx by_ n cx n' cy _ RX_2.out.rd RY_2.out.rd Hn.out.1 Hn.out.2 (by omega) (by omega) HK.out.1 HK.out.2).mono ?_
       rintro e w3 ⟨bl, cl, rfl, hr3, hb3⟩
       have z3 := hb3.size
       have RX_3 := Lib.hid (RX_2.out.next hb3)
       have RY_3 := Lib.hid (RY_2.out.next hb3)
       have BL_3 := Lib.hid (Below.next BL_2.out hb3)
       have GL_3 := Lib.hid hr3
       clear hb3 RX_2 RY_2 BL_2 hr3)
    | (go_at_call 5
       refine (foldRG HE.out HM.out A A' n c n' c' _ (Hr.out _ BL_3.out).1 (Hr.out _ BL_3.out).2 Hn.out.1 Hn.out.2 (by omega) (by omega) HK.out.1 HK.out.2).mono ?_
       rintro e w4 ⟨bm, cm, rfl, hr4, hb4⟩
       have z4 := hb4.size
       have RX_4 := Lib.hid (RX_3.out.next hb4)
       have RY_4 := Lib.hid (RY_3.out.next hb4)
       have BL_4 := Lib.hid (Below.next BL_3.out hb4)
       have GL_4 := Lib.hid (GL_3.out.next hb4)
       have GM_4 := Lib.hid hr4
       clear hb4 RX_3 RY_3 BL_3 GL_3 hr4)
    | (go_at_call 6
       refine (samePairs_eq _ _ _ _ m L _ HM.out GL_4.out.rd GM_4.out.rd (by omega)).mono ?_
       rintro e w5 ⟨rfl, hb5⟩
       have z5 := hb5.size
       have RX_5 := Lib.hid (RX_4.out.next hb5)
       have RY_5 := Lib.hid (RY_4.out.next hb5)
       have BL_5 := Lib.hid (Below.next BL_4.out hb5)
       have GL_5 := Lib.hid (GL_4.out.next hb5)
       have GM_5 := Lib.hid (GM_4.out.next hb5)
       clear hb5 RX_4 RY_4 BL_4 GL_4 GM_4)
    | (go_at_call 6
       refine (samePairs_eq bx A cx c n a _ Hn.out.1 RX_5.out.rd (Hr.out _ BL_5.out).1 (by omega)).mono ?_
       rintro e w6 ⟨rfl, hb6⟩
       have z6 := hb6.size
       have RX_6 := Lib.hid (RX_5.out.next hb6)
       have RY_6 := Lib.hid (RY_5.out.next hb6)
       have BL_6 := Lib.hid (Below.next BL_5.out hb6)
       have GL_6 := Lib.hid (GL_5.out.next hb6)
       have GM_6 := Lib.hid (GM_5.out.next hb6)
       clear hb6 RX_5 RY_5 BL_5 GL_5 GM_5)
    | (go_at_call 7
       refine (sameRecords_eq by_ A' cy c' n' r _ Hn.out.2 RY_6.out.rd (Hr.out _ BL_6.out).2 (by omega)).mono ?_
       rintro e w7 ⟨rfl, hb7⟩
       have z7 := hb7.size
       have RX_7 := Lib.hid (RX_6.out.next hb7)
       have RY_7 := Lib.hid (RY_6.out.next hb7)
       have BL_7 := Lib.hid (Below.next BL_6.out hb7)
       have GL_7 := Lib.hid (GL_6.out.next hb7)
       have GM_7 := Lib.hid (GM_6.out.next hb7)
       clear hb7 RX_6 RY_6 BL_6 GL_6 GM_6)
    | (go_at_call 4
       refine (foldPG HE.out HM.out bx by_ n cx n' cy _ RX_7.out.rd RY_7.out.rd Hn.out.1 Hn.out.2 (by omega) (by omega) HK.out.1 HK.out.2).mono ?_
       rintro e w8 ⟨bt, ct, rfl, hr8, hb8⟩
       have z8 := hb8.size
       have RX_8 := Lib.hid (RX_7.out.next hb8)
       have RY_8 := Lib.hid (RY_7.out.next hb8)
       have BL_8 := Lib.hid (Below.next BL_7.out hb8)
       have GL_8 := Lib.hid (GL_7.out.next hb8)
       have GM_8 := Lib.hid (GM_7.out.next hb8)
       have GT_8 := Lib.hid hr8
       clear hb8 RX_7 RY_7 BL_7 GL_7 GM_7 hr8)
    | (go_at_call 4
       refine (foldAny none by_ 0 0 n' cy [] r _ (Rd.nil _ _ _) RY_8.out.rd (Nat.le_refl _) (by rw [Hn.out.2]; exact Nat.le_refl _) (by omega) (by omega) (fun _ h => by cases h) HK.out.2).mono ?_
       rintro e w9 ⟨v9, rfl, hb9⟩
       have z9 := hb9.size
       have RX_9 := Lib.hid (RX_8.out.next hb9)
       have RY_9 := Lib.hid (RY_8.out.next hb9)
       have BL_9 := Lib.hid (Below.next BL_8.out hb9)
       have GL_9 := Lib.hid (GL_8.out.next hb9)
       have GM_9 := Lib.hid (GM_8.out.next hb9)
       have GT_9 := Lib.hid (GT_8.out.next hb9)
       clear hb9 RX_8 RY_8 BL_8 GL_8 GM_8 GT_8)
    | (go_at_call 6
       refine (samePairs_eq _ _ _ _ m L _ HM.out GL_9.out.rd GM_9.out.rd (by omega)).mono ?_
       rintro e w10 ⟨rfl, hb10⟩
       have z10 := hb10.size
       have RX_10 := Lib.hid (RX_9.out.next hb10)
       have RY_10 := Lib.hid (RY_9.out.next hb10)
       have BL_10 := Lib.hid (Below.next BL_9.out hb10)
       have GL_10 := Lib.hid (GL_9.out.next hb10)
       have GM_10 := Lib.hid (GM_9.out.next hb10)
       have GT_10 := Lib.hid (GT_9.out.next hb10)
       clear hb10 RX_9 RY_9 BL_9 GL_9 GM_9 GT_9)
    | (go_at_call 6
       refine (samePairs_eq _ _ _ _ m L _ HM.out GT_10.out.rd GM_10.out.rd (by omega)).mono ?_
       rintro e w11 ⟨rfl, hb11⟩
       have z11 := hb11.size
       have RX_11 := Lib.hid (RX_10.out.next hb11)
       have RY_11 := Lib.hid (RY_10.out.next hb11)
       have BL_11 := Lib.hid (Below.next BL_10.out hb11)
       have GL_11 := Lib.hid (GL_10.out.next hb11)
       have GM_11 := Lib.hid (GM_10.out.next hb11)
       have GT_11 := Lib.hid (GT_10.out.next hb11)
       clear hb11 RX_10 RY_10 BL_10 GL_10 GM_10 GT_10)
    | (go_at_call 8
       refine (spoiled_any w2.heap.size w3.heap.size m cl bl L _ GL_11.out (by omega) (by omega)).mono ?_
       rintro e w40 ⟨rfl, hc40⟩
       have z40 := hc40.size
       have RX_40 := Lib.hid (RX_11.out.chg hc40 (by intro j h1 h2 h3; omega))
       have RY_40 := Lib.hid (RY_11.out.chg hc40 (by intro j h1 h2 h3; omega))
       have GM_40 := Lib.hid (GM_11.out.chg hc40 (by intro j h1 h2 h3; omega))
       have GT_40 := Lib.hid (GT_11.out.chg hc40 (by intro j h1 h2 h3; omega))
       have BL_40 := Lib.hid (BL_11.out.trans (hc40.below BL_11.out.size (fun j hj => by omega)))
       clear hc40 RX_11 RY_11 BL_11 GL_11 GM_11 GT_11)
    | (go_at_call 6
       refine (samePairs_eq _ _ _ _ m L _ HM.out GT_40.out.rd GM_40.out.rd (by omega)).mono ?_
       rintro e w41 ⟨rfl, hb41⟩
       have z41 := hb41.size
       have RX_41 := Lib.hid (RX_40.out.next hb41)
       have RY_41 := Lib.hid (RY_40.out.next hb41)
       have GM_41 := Lib.hid (GM_40.out.next hb41)
       have BL_41 := Lib.hid (Below.next BL_40.out hb41)
       clear hb41 RX_40 RY_40 GM_40 GT_40 BL_40)
    | (go_at_call 4
       refine (foldPG HE.out HM.out bx by_ n cx n' cy _ RX_41.out.rd RY_41.out.rd Hn.out.1 Hn.out.2 (by omega) (by omega) HK.out.1 HK.out.2).mono ?_
       rintro e w42 ⟨bo, co, rfl, hr42, hb42⟩
       have z42 := hb42.size
       have RX_42 := Lib.hid (RX_41.out.next hb42)
       have RY_42 := Lib.hid (RY_41.out.next hb42)
       have GM_42 := Lib.hid (GM_41.out.next hb42)
       have BL_42 := Lib.hid (Below.next BL_41.out hb42)
       have GO_42 := Lib.hid hr42
       clear hb42 RX_41 RY_41 GM_41 BL_41 hr42)
    | (go_at_call 6
       refine (samePairs_eq _ _ _ _ m L _ HM.out GO_42.out.rd GM_42.out.rd (by omega)).mono ?_
       rintro e w43 ⟨rfl, hb43⟩
       have z43 := hb43.size
       have RX_43 := Lib.hid (RX_42.out.next hb43)
       have RY_43 := Lib.hid (RY_42.out.next hb43)
       have BL_43 := Lib.hid (Below.next BL_42.out hb43)
       clear hb43 RX_42 RY_42 GM_42 BL_42 GO_42)
    | (go_at_call 6
       refine (samePairs_eq bx A cx c n a _ Hn.out.1 RX_43.out.rd (Hr.out _ BL_43.out).1 (by omega)).mono ?_
       rintro e w44 ⟨rfl, hb44⟩
       have z44 := hb44.size
       have RX_44 := Lib.hid (RX_43.out.next hb44)
       have RY_44 := Lib.hid (RY_43.out.next hb44)
       have BL_44 := Lib.hid (Below.next BL_43.out hb44)
       clear hb44 RX_43 RY_43 BL_43)
    | (at_builtin
       have hbA : Below w.heap.size w (w44.alloc (.cells #[] 29)) := Below.next BL_44.out (Below.al _ _)
       refine wpList_app _ rfl (.tmp 82) (.tmp 83) _ rfl w44.heap.size 29 i0 _ 4 48 Try.underlying22 hi0 hz0 hs0 hy0 rfl (by omega) (.slice (some ⟨w44.heap.size, 0, none⟩) 0 0) 0 [] rfl (own_empty w44 _ _ _ (Nat.le_refl _)) _ A n c (a.flatMap p4) rfl (by rw [p4_len, Hn.out.1]) (Hr.out _ hbA).1 (one_p4s _) (by unfold maxLen; omega) (by omega) (by simp) ?_
       intro v1 w45 hown hg _
       rw [Nat.zero_add, List.nil_append] at hown
       obtain ⟨bq, cq, rfl⟩ := row_slice hown
       have hcg : Chg (fun j => j = w44.heap.size) (w44.alloc (.cells #[] 29)) w45 := (Chg.of_grown hg).mono (fun j _ hj => by simp [Value.ownBlock] at hj; exact hj)
       have z45 := hcg.size
       rw [World.size_alloc] at z45
       have RM_45 := Lib.hid (GR.mk' hown Hn.out.1)
       have BL_45 := Lib.hid (hbA.trans (hcg.below (by simp; omega) (fun j hj => by omega)))
       have RX_45 := Lib.hid ((RX_44.out.next (Below.al w44 (.cells #[] 29))).chg hcg (by intro j h1 h2 h3; omega))
       have RY_45 := Lib.hid ((RY_44.out.next (Below.al w44 (.cells #[] 29))).chg hcg (by intro j h1 h2 h3; omega))
       clear hown hg hcg hbA BL_44 RX_44 RY_44)
    | (at_builtin
       have RMa := (RM_45.out.next (Below.al w45 (.cells (p4 markQ).toArray 29))).own
       refine wpList_app1 _ rfl (.tmp 84) (.tmp 86) _ rfl w44.heap.size 29 i0 _ 4 48 Try.underlying22 hi0 hz0 hs0 hy0 rfl (by omega) (.slice bq n cq) n (a.flatMap p4) rfl RMa _ _ 1 1 (p4 markQ) rfl rfl (rd_new _ _ _) (by simpa using one_p4s [markQ]) (by unfold maxLen; omega) (by omega) (by simp; omega) (by omega) ?_
       intro gm cm2 w46 hO hcm1_46 hcm2_46 hown hg hgor
       unfold maxLen at hcm2_46
       have hcg : Chg (fun j => w44.heap.size ≤ j ∧ j < w45.heap.size) (w45.alloc (.cells (p4 markQ).toArray 29)) w46 := (Chg.of_grown hg).mono (fun j _ hj => ⟨RM_45.out.bot j hj.symm, RM_45.out.top j hj.symm⟩)
       have z46 := hcg.size
       rw [World.size_alloc] at z46
       have RM_46 := Lib.hid (GR.mk' (ps := a ++ [markQ]) (by rw [List.flatMap_append]; simpa using hown) (by simp [Hn.out.1]))
       have BL_46 := Lib.hid ((Below.next BL_45.out (Below.al w45 (.cells (p4 markQ).toArray 29))).trans (hcg.below (by simp; omega) (fun j hj => by omega)))
       have RX_46 := Lib.hid ((RX_45.out.next (Below.al w45 (.cells (p4 markQ).toArray 29))).chg hcg (by intro j h1 h2 h3; omega))
       have RY_46 := Lib.hid ((RY_45.out.next (Below.al w45 (.cells (p4 markQ).toArray 29))).chg hcg (by intro j h1 h2 h3; omega))
       clear hown hg hcg RMa hO hgor BL_45 RM_45 RX_45 RY_45)
    | (at_builtin
       have hbA : Below w.heap.size w (w46.alloc (.cells #[] 31)) := Below.next BL_46.out (Below.al _ _)
       refine wpList_app _ rfl (.tmp 88) (.tmp 89) _ rfl w46.heap.size 31 i1 _ 7 72 Try.underlying23 hi1 hz1 hs1 hy1 rfl (by omega) (.slice (some ⟨w46.heap.size, 0, none⟩) 0 0) 0 [] rfl (own_empty w46 _ _ _ (Nat.le_refl _)) _ A' n' c' (r.flatMap r7) rfl (by rw [r7_len, Hn.out.2]) (Hr.out _ hbA).2 (one_r7s _) (by unfold maxLen; omega) (by omega) (by simp) ?_
       intro v1 w47 hown hg _
       rw [Nat.zero_add, List.nil_append] at hown
       obtain ⟨bs, cs, rfl⟩ := row_slice hown
       have hcg : Chg (fun j => j = w46.heap.size) (w46.alloc (.cells #[] 31)) w47 := (Chg.of_grown hg).mono (fun j _ hj => by simp [Value.ownBlock] at hj; exact hj)
       have z47 := hcg.size
       rw [World.size_alloc] at z47
       have RD_47 := Lib.hid (GR.mk' hown Hn.out.2)
       have BL_47 := Lib.hid (hbA.trans (hcg.below (by simp; omega) (fun j hj => by omega)))
       have RX_47 := Lib.hid ((RX_46.out.next (Below.al w46 (.cells #[] 31))).chg hcg (by intro j h1 h2 h3; omega))
       have RY_47 := Lib.hid ((RY_46.out.next (Below.al w46 (.cells #[] 31))).chg hcg (by intro j h1 h2 h3; omega))
       have RM_47 := Lib.hid ((RM_46.out.next (Below.al w46 (.cells #[] 31))).chg hcg (by intro j h1 h2 h3; omega))
       clear hown hg hcg hbA BL_46 RX_46 RY_46 RM_46)
    | (at_builtin
       have RMa := (RD_47.out.next (Below.al w47 (.cells (r7 markR).toArray 31))).own
       refine wpList_app1 _ rfl (.tmp 90) (.tmp 92) _ rfl w46.heap.size 31 i1 _ 7 72 Try.underlying23 hi1 hz1 hs1 hy1 rfl (by omega) (.slice bs n' cs) n' (r.flatMap r7) rfl RMa _ _ 1 1 (r7 markR) rfl rfl (rd_new _ _ _) (by simpa using one_r7s [markR]) (by unfold maxLen; omega) (by omega) (by simp; omega) (by omega) ?_
       intro gd cd2 w48 hO hcm1_48 hcm2_48 hown hg hgor
       unfold maxLen at hcm2_48
       have hcg : Chg (fun j => w46.heap.size ≤ j ∧ j < w47.heap.size) (w47.alloc (.cells (r7 markR).toArray 31)) w48 := (Chg.of_grown hg).mono (fun j _ hj => ⟨RD_47.out.bot j hj.symm, RD_47.out.top j hj.symm⟩)
       have z48 := hcg.size
       rw [World.size_alloc] at z48
       have RD_48 := Lib.hid (GR.mk' (ps := r ++ [markR]) (by rw [List.flatMap_append]; simpa using hown) (by simp [Hn.out.2]))
       have BL_48 := Lib.hid ((Below.next BL_47.out (Below.al w47 (.cells (r7 markR).toArray 31))).trans (hcg.below (by simp; omega) (fun j hj => by omega)))
       have RX_48 := Lib.hid ((RX_47.out.next (Below.al w47 (.cells (r7 markR).toArray 31))).chg hcg (by intro j h1 h2 h3; omega))
       have RY_48 := Lib.hid ((RY_47.out.next (Below.al w47 (.cells (r7 markR).toArray 31))).chg hcg (by intro j h1 h2 h3; omega))
       have RM_48 := Lib.hid ((RM_47.out.next (Below.al w47 (.cells (r7 markR).toArray 31))).chg hcg (by intro j h1 h2 h3; omega))
       clear hown hg hcg RMa hO hgor BL_47 RD_47 RX_47 RY_47 RM_47))
  have hn0 : (0 : Int) ≤ n := by omega
  have hn0' : (0 : Int) ≤ n' := by omega
  have hnc : (n : Int) ≤ cm2 := by omega
  have hnc' : (n' : Int) ≤ cd2 := by omega
  have hsl1 := fun W => run_slice_h (P := Try.prog) W 22 (some ⟨gm, 0, none⟩) (n + 1) cm2 Try.underlying22 .i64 n hn0 hnc
  have hsl2 := fun W => run_slice_h (P := Try.prog) W 23 (some ⟨gd, 0, none⟩) (n' + 1) cd2 Try.underlying23 .i64 n' hn0' hnc'
  go_region_with (first
    | (go_at_call 4
       refine (foldAny (some ⟨gm, 0, none⟩) (some ⟨gd, 0, none⟩) n cm2 n' cd2 (a ++ [markQ]) (r ++ [markR]) _ (RM_48.out.next (below_dr _)).rd (RD_48.out.next (below_dr _)).rd (by rw [List.length_append, Hn.out.1]; omega) (by rw [List.length_append, Hn.out.2]; omega) (by omega) (by omega) HK.out.1.mark HK.out.2.mark).mono ?_
       rintro e w49 ⟨v49, rfl, hb49⟩
       have hbd : Below w48.heap.size w48 w49 := (below_dr _).trans hb49
       have BL_49 := Lib.hid (Below.next BL_48.out hbd)
       have RX_49 := Lib.hid (RX_48.out.next hbd)
       have RY_49 := Lib.hid (RY_48.out.next hbd)
       have RM_49 := Lib.hid (RM_48.out.next hbd)
       have RD_49 := Lib.hid (RD_48.out.next hbd)
       have z49 := hbd.size
       clear hbd hb49 RX_48 RY_48 RM_48 RD_48 BL_48))
  all_goals
    clear hsl1 hsl2
    have hnl : n < (a ++ [markQ]).length := by rw [List.length_append, Hn.out.1]; simp
    have hnl' : n' < (r ++ [markR]).length := by rw [List.length_append, Hn.out.2]; simp
    obtain ⟨ge, hge, _, _, hOm, _, _⟩ := RM_49.out.own_ (by omega)
    injection hge with hge
    injection hge with hge
    subst hge
    obtain ⟨gf, hgf, _, _, hOd, _, _⟩ := RD_49.out.own_ (by omega)
    injection hgf with hgf
    injection hgf with hgf
    subst hgf
    have hq2 : w49.cell? ⟨gm, n * 4 + 2, none⟩ = some (.int .i64 (-77)) := by
      refine hOm.get ?_
      rw [flat_get p4 4 (fun _ => rfl) _ n 2 hnl (by omega)]
      have : (a ++ [markQ])[n] = markQ := by
        rw [List.getElem_append_right (by rw [Hn.out.1]; exact Nat.le_refl _)]
        simp [Hn.out.1]
      rw [this]; rfl
    have hd0 : w49.cell? ⟨gd, n' * 7, none⟩ = some (.int .i64 (-78)) := by
      refine hOd.get ?_
      have h := flat_get r7 7 (fun _ => rfl) (r ++ [markR]) n' 0 hnl' (by omega)
      rw [Nat.add_zero] at h
      rw [h]
      have : (r ++ [markR])[n'] = markR := by
        rw [List.getElem_append_right (by rw [Hn.out.2]; exact Nat.le_refl _)]
        simp [Hn.out.2]
      rw [this]; rfl
    have hn1 : (n : Int) < n + 1 := by omega
    have hn1' : (n' : Int) < n' + 1 := by omega
    clear hOm hOd RM_49 RD_49 hnl hnl'
    go_wp2
    go_loopw [13] (fun iv wr => ∃ (k : Nat) (l' : List RC), k ≤ n' / 2 ∧ iv = .int .i64 k ∧ KeysR l' ∧ GR 31 7 r7 w1.heap.size w2.heap.size wr by_ n' cy l' ∧ GR 29 4 p4 w.heap.size w1.heap.size wr bx n cx a ∧ Below w.heap.size w wr ∧ w2.heap.size ≤ wr.heap.size) (fun iv _ => n' / 2 - (intOf iv).toNat)
    case atStart => exact ⟨0, r, Nat.zero_le _, rfl, HK.out.2, RY_49.out, RX_49.out, BL_49.out, by omega⟩
    case round =>
      obtain ⟨k, l', hk2, rfl, hK', hP, hX, hB, hws⟩ := hrel
      by_cases hlt : k < n' / 2
      · obtain ⟨ga, rfl, hnc2, hcm2, hO, hl1, hl2⟩ := hP.own_ (by omega)
        obtain ⟨j, hj⟩ : ∃ j : Nat, (n' : Int) - 1 - k = j := ⟨n' - 1 - k, by omega⟩
        have hgf := hO.free
        have hgw := hO.lt
        have hkl : k < l'.length := by rw [hP.len]; omega
        have hjl : j < l'.length := by rw [hP.len]; omega
        have hck : ∀ i v, i < 7 → (r7 l'[k])[i]? = some v → wr.cell? ⟨ga, k * 7 + i, none⟩ = some v := fun i v hi hv => hO.get ((flat_get r7 7 (fun _ => rfl) l' k i hkl hi).trans hv)
        have hcj : ∀ i v, i < 7 → (r7 l'[j])[i]? = some v → wr.cell? ⟨ga, j * 7 + i, none⟩ = some v := fun i v hi hv => hO.get ((flat_get r7 7 (fun _ => rfl) l' j i hjl hi).trans hv)
        have HKO := Lib.hid (And.intro (hK' l'[k] (List.getElem_mem hkl)) (hK' l'[j] (List.getElem_mem hjl)))
        generalize l'[k] = p at hck HKO
        generalize l'[j] = q at hcj HKO
        have p0 := hck 0 _ (by omega) rfl
        have p1 := hck 1 _ (by omega) rfl
        have p2 := hck 2 _ (by omega) rfl
        have p3 := hck 3 _ (by omega) rfl
        have p4 := hck 4 _ (by omega) rfl
        have p5 := hck 5 _ (by omega) rfl
        have p6 := hck 6 _ (by omega) rfl
        have q0 := hcj 0 _ (by omega) rfl
        have q1 := hcj 1 _ (by omega) rfl
        have q2 := hcj 2 _ (by omega) rfl
        have q3 := hcj 3 _ (by omega) rfl
        have q4 := hcj 4 _ (by omega) rfl
        have q5 := hcj 5 _ (by omega) rfl
        have q6 := hcj 6 _ (by omega) rfl
        rw [Nat.add_zero] at p0 q0
        have hk0 : (0 : Int) ≤ k := by omega
        have hk1 : (k : Int) < n' := by omega
        have hj0 : (0 : Int) ≤ j := by omega
        have hj1 : (j : Int) < n' := by omega
        have hkj : k ≠ j := by omega
        have HP := Lib.hid (And.intro hK' (And.intro hP (And.intro hX hB)))
        clear hK' hP hX hB hO hck hcj
        go_wp2
        go_roundw
        case rel =>
          refine ⟨k + 1, (l'.set k q).set j p, by omega, by go_num, (HP.out.1.set k HKO.out.2).set j HKO.out.1, (rset_set (i := j) (rset_set (i := k) HP.out.2.1 (by omega) q) (by omega) p).next (Below.al _ _), ?_, ?_, by simp; omega⟩
          · refine GR.next ?_ (Below.al _ _)
            have hC : Chg (fun z => w1.heap.size ≤ z) wr _ := Chg.refl _ _
            refine HP.out.2.2.1.chg (S := fun z => w1.heap.size ≤ z) ?_ (fun z h1 h2 h3 => by omega)
            repeat (first | with_reducible exact Chg.refl _ _ | refine Chg.setCell ?_ (.inl (by show w1.heap.size ≤ ga; omega)) _)
          · refine Below.alloc ?_ (by simp; omega) _
            repeat (first | with_reducible exact HP.out.2.2.2 | refine Below.setCell ?_ (by show w.heap.size ≤ ga; omega) _)
        case measure => simp [intOf]; omega
      · have hHl := hP.len
        have hmn2 := foldL_len a l'
        rw [Hn.out.1, hHl] at hmn2
        generalize hE2 : foldL a l' = E2 at hmn2
        generalize hm2 : E2.length = m2 at hmn2
        have HH := Lib.hid (And.intro hE2 (And.intro hm2 (And.intro hHl (And.intro hK' (And.intro hP (And.intro hX hB))))))
        clear hE2 hm2 hHl hK' hP hX hB
        go_wp2_with (first
          | (go_at_call 4
             refine (foldPG HH.out.1 HH.out.2.1 bx by_ n cx n' cy _ HH.out.2.2.2.2.2.1.rd HH.out.2.2.2.2.1.rd Hn.out.1 HH.out.2.2.1 (by omega) (by omega) HK.out.1 HH.out.2.2.2.1).mono ?_
             rintro e w50 ⟨bo, co, rfl, hr50, hb50⟩
             have H50 := Lib.hid (And.intro hr50 (And.intro (HH.out.2.2.2.2.1.next hb50) (And.intro (HH.out.2.2.2.2.2.1.next hb50) (Below.next HH.out.2.2.2.2.2.2 hb50))))
             clear hr50 hb50)
          | (go_at_call 5
             refine (foldRG HH.out.1 HH.out.2.1 bx by_ n cx n' cy _ H50.out.2.2.1.rd H50.out.2.1.rd Hn.out.1 HH.out.2.2.1 (by omega) (by omega) HK.out.1 HH.out.2.2.2.1).mono ?_
             rintro e w51 ⟨bp, cp, rfl, hr51, hb51⟩
             have H51 := Lib.hid (And.intro (H50.out.1.next hb51) (And.intro hr51 (Below.next H50.out.2.2.2 hb51)))
             clear hr51 hb51)
          | (go_at_call 6
             refine (samePairs_eq _ _ _ _ m2 E2 _ HH.out.2.1 H51.out.1.rd H51.out.2.1.rd (by omega)).mono ?_
             rintro e w52 ⟨rfl, hb52⟩
             have H52 := Lib.hid (Below.next H51.out.2.2 hb52)
             clear hb52))
        go_ret
        exact ⟨rfl, H52.out⟩
end Go.Proofs.Ytnkhmebmgncjbaa
