import Derived.Test.YtifimeohdgnehaaHof5
import Derived.Deep.RegionWith
namespace Go.Proofs.Ytifimeohdgnehaa
open Go.RowKit Go.Maps

/-- The mark behind the end. -/
def markP : PL := ⟨0, 0, 0, 0, 0, ByteArray.empty, ByteArray.empty, -77, 0⟩
theorem KeyOk.mark {l : List PL} (h : KeyOk l) : KeyOk (l ++ [markP]) := fun p hp => by
  rcases List.mem_append.1 hp with h1 | h1
  · exact h p h1
  · rw [List.mem_singleton.1 h1]; exact Nat.zero_le _
theorem below_dr (w : World) : Below w.heap.size w w.drew := below_drew (Below.refl _ _)
theorem hofE_le (l : List PL) (n : Nat) : (hofE l n).length ≤ n := by
  unfold hofE
  rw [List.length_map]
  exact ixs_len l n n

set_option maxRecDepth 100000 in
set_option maxHeartbeats 16000000 in
theorem hintOf_any (seg size : Int) (A : Option Addr) (n c : Nat) (l : List PL) (w : World) (hA : Rd w w.heap.size A (l.flatMap nine)) (hn : l.length = n) (hmx : n ≤ 1599289640354) (hk : KeyOk l) :
    Calls Try.prog 5 #[.int .i64 seg, .int .i64 size, .slice A n c] w fun ee w' => ee = .returned (.bool true) ∧ Below w.heap.size w w' := by
  obtain ⟨i0, hi0, hz0, hs0, hy0⟩ := info_parts info_pl
  have hmn := hofE_le l n
  generalize hE : hofE l n = E at hmn
  generalize hm : E.length = m at hmn
  have HE := Lib.hid hE
  have HM := Lib.hid hm
  have HK := Lib.hid hk
  have hr : ∀ W, Below w.heap.size w W → Rd W W.heap.size A (l.flatMap nine) := fun W hb => (hA.below hb).mono hb.size
  have Hr := Lib.hid hr
  have Hn := Lib.hid hn
  have hb0 : Below w.heap.size w (w.alloc (.cells #[] 45)) := Below.al _ _
  have HA0 := Lib.hid (And.intro (hA.below hb0) hb0)
  clear hr hA hn hE hm hk hb0
  go_enter Try.func5, Try.ntmps5
  go_wp2_with (first
    | (at_builtin
       refine wpList_app _ rfl (.tmp 15) (.tmp 16) _ rfl w.heap.size 45 i0 _ 9 88 Try.underlying39 hi0 hz0 hs0 hy0 rfl (by omega) (.slice (some ⟨w.heap.size, 0, none⟩) 0 0) 0 [] rfl (own_empty w _ _ _ (Nat.le_refl _)) _ A n c (l.flatMap nine) rfl (by rw [nine_len, Hn.out]) HA0.out.1 (one_nine _) (by unfold maxLen; omega) (by omega) (by simp) ?_
       intro v1 w1 hown hg _
       rw [Nat.zero_add, List.nil_append] at hown
       obtain ⟨bx, cx, rfl⟩ := ownsRow_slice hown
       have hncx := ownsRow_cap hown
       have RX_1 := Lib.hid (PR.mk' hown Hn.out)
       have BL_1 := Lib.hid (HA0.out.2.grown hg (by simp) (fun k hk => by simp [Value.ownBlock] at hk; omega))
       have z1 := BL_1.out.size
       clear hown hg HA0)
    | (go_at_call 16
       refine (octOf seg size bx n cx m l E _ HE.out HM.out RX_1.out.rd Hn.out hmx HK.out.at_).mono ?_
       rintro e w2 ⟨bh, ch, rfl, hr2, hb2⟩
       unfold hV
       have z2 := hb2.size
       (try simp only [World.size_alloc] at z2)
       (try rw [World.size_alloc] at hr2)
       have RX_2' := RX_1.out.next hb2
       have BL_2' := Below.next BL_1.out hb2
       have EH_2' := hr2
       have RX_2 := Lib.hid (RX_2'.next (Below.al w2 (.cells #[.int .i64 seg, .int .i64 size, .slice bh m ch] 24)))
       have BL_2 := Lib.hid (Below.next BL_2' (Below.al w2 (.cells #[.int .i64 seg, .int .i64 size, .slice bh m ch] 24)))
       have EH_2 := Lib.hid (EH_2'.next (Below.al w2 (.cells #[.int .i64 seg, .int .i64 size, .slice bh m ch] 24)))
       have XH_2 := Lib.hid (Box.new w2 24 #[.int .i64 seg, .int .i64 size, .slice bh m ch])
       clear hb2 RX_1 RX_2' BL_1 BL_2' hr2 EH_2')
    | (go_at_call 17
       refine (refOf seg size A n c m l E _ HE.out HM.out (Hr.out _ BL_2.out) Hn.out hmx).mono ?_
       rintro e w3 ⟨bk, ck, rfl, hr3, hb3⟩
       unfold hV
       have z3 := hb3.size
       (try simp only [World.size_alloc] at z3)
       (try rw [World.size_alloc] at hr3)
       have RX_3' := RX_2.out.next hb3
       have BL_3' := Below.next BL_2.out hb3
       have EH_3' := EH_2.out.next hb3
       have XH_3' := XH_2.out.next hb3
       have cXH_3 := XH_3'.cell
       have lXH_3 := XH_3'.lt
       have EK_3' := hr3
       have RX_3 := Lib.hid (RX_3'.next (Below.al w3 (.cells #[.int .i64 seg, .int .i64 size, .slice bk m ck] 24)))
       have BL_3 := Lib.hid (Below.next BL_3' (Below.al w3 (.cells #[.int .i64 seg, .int .i64 size, .slice bk m ck] 24)))
       have EH_3 := Lib.hid (EH_3'.next (Below.al w3 (.cells #[.int .i64 seg, .int .i64 size, .slice bk m ck] 24)))
       have XH_3 := Lib.hid (XH_3'.next (Below.al w3 (.cells #[.int .i64 seg, .int .i64 size, .slice bk m ck] 24)))
       have EK_3 := Lib.hid (EK_3'.next (Below.al w3 (.cells #[.int .i64 seg, .int .i64 size, .slice bk m ck] 24)))
       have XK_3 := Lib.hid (Box.new w3 24 #[.int .i64 seg, .int .i64 size, .slice bk m ck])
       clear hb3 RX_2 RX_3' BL_2 BL_3' EH_2 EH_3' XH_2 XH_3' hr3 EK_3')
    | (go_at_call 14
       refine (sameHint_eqL seg size _ _ _ _ m E _ HM.out EH_3.out.rd EK_3.out.rd (by omega)).mono ?_
       rintro e w4 ⟨rfl, hb4⟩
       have z4 := hb4.size
       (try simp only [World.size_alloc] at z4)
       have RX_4' := RX_3.out.next hb4
       have BL_4' := Below.next BL_3.out hb4
       have EH_4' := EH_3.out.next hb4
       have XH_4' := XH_3.out.next hb4
       have cXH_4 := XH_4'.cell
       have lXH_4 := XH_4'.lt
       have EK_4' := EK_3.out.next hb4
       have XK_4' := XK_3.out.next hb4
       have cXK_4 := XK_4'.cell
       have lXK_4 := XK_4'.lt
       have RX_4 := Lib.hid RX_4'
       have BL_4 := Lib.hid BL_4'
       have EH_4 := Lib.hid EH_4'
       have XH_4 := Lib.hid XH_4'
       have EK_4 := Lib.hid EK_4'
       have XK_4 := Lib.hid XK_4'
       clear hb4 RX_3 RX_4' BL_3 BL_4' EH_3 EH_4' XH_3 XH_4' cXH_3 lXH_3 EK_3 EK_4' XK_3 XK_4')
    | (go_at_call 18
       refine (samePlaced_eq bx A cx c n l _ Hn.out RX_4.out.rd (Hr.out _ BL_4.out) hmx).mono ?_
       rintro e w5 ⟨rfl, hb5⟩
       have z5 := hb5.size
       (try simp only [World.size_alloc] at z5)
       have RX_5' := RX_4.out.next hb5
       have BL_5' := Below.next BL_4.out hb5
       have EH_5' := EH_4.out.next hb5
       have XH_5' := XH_4.out.next hb5
       have cXH_5 := XH_5'.cell
       have lXH_5 := XH_5'.lt
       have EK_5' := EK_4.out.next hb5
       have XK_5' := XK_4.out.next hb5
       have cXK_5 := XK_5'.cell
       have lXK_5 := XK_5'.lt
       have RX_5 := Lib.hid RX_5'
       have BL_5 := Lib.hid BL_5'
       have EH_5 := Lib.hid EH_5'
       have XH_5 := Lib.hid XH_5'
       have EK_5 := Lib.hid EK_5'
       have XK_5 := Lib.hid XK_5'
       clear hb5 RX_4 RX_5' BL_4 BL_5' EH_4 EH_5' XH_4 XH_5' cXH_4 lXH_4 EK_4 EK_5' XK_4 XK_5' cXK_4 lXK_4)
    | (go_at_call 16
       refine (octOf seg size bx n cx m l E _ HE.out HM.out RX_5.out.rd Hn.out hmx HK.out.at_).mono ?_
       rintro e w6 ⟨bt, ct, rfl, hr6, hb6⟩
       unfold hV
       have z6 := hb6.size
       (try simp only [World.size_alloc] at z6)
       (try rw [World.size_alloc] at hr6)
       have RX_6' := RX_5.out.next hb6
       have BL_6' := Below.next BL_5.out hb6
       have EH_6' := EH_5.out.next hb6
       have XH_6' := XH_5.out.next hb6
       have cXH_6 := XH_6'.cell
       have lXH_6 := XH_6'.lt
       have EK_6' := EK_5.out.next hb6
       have XK_6' := XK_5.out.next hb6
       have cXK_6 := XK_6'.cell
       have lXK_6 := XK_6'.lt
       have ET_6' := hr6
       have RX_6 := Lib.hid (RX_6'.next (Below.al w6 (.cells #[.int .i64 seg, .int .i64 size, .slice bt m ct] 24)))
       have BL_6 := Lib.hid (Below.next BL_6' (Below.al w6 (.cells #[.int .i64 seg, .int .i64 size, .slice bt m ct] 24)))
       have EH_6 := Lib.hid (EH_6'.next (Below.al w6 (.cells #[.int .i64 seg, .int .i64 size, .slice bt m ct] 24)))
       have XH_6 := Lib.hid (XH_6'.next (Below.al w6 (.cells #[.int .i64 seg, .int .i64 size, .slice bt m ct] 24)))
       have EK_6 := Lib.hid (EK_6'.next (Below.al w6 (.cells #[.int .i64 seg, .int .i64 size, .slice bt m ct] 24)))
       have XK_6 := Lib.hid (XK_6'.next (Below.al w6 (.cells #[.int .i64 seg, .int .i64 size, .slice bt m ct] 24)))
       have ET_6 := Lib.hid (ET_6'.next (Below.al w6 (.cells #[.int .i64 seg, .int .i64 size, .slice bt m ct] 24)))
       have XT_6 := Lib.hid (Box.new w6 24 #[.int .i64 seg, .int .i64 size, .slice bt m ct])
       clear hb6 RX_5 RX_6' BL_5 BL_6' EH_5 EH_6' XH_5 XH_6' cXH_5 lXH_5 EK_5 EK_6' XK_5 XK_6' cXK_5 lXK_5 hr6 ET_6')
    | (go_at_call 16
       refine (octOfAny seg size bx (n / 2) cx l _ RX_6.out.rd (by rw [Hn.out]; omega) (by omega) HK.out).mono ?_
       rintro e w7 ⟨v7, rfl, hb7⟩
       have z7 := hb7.size
       (try simp only [World.size_alloc] at z7)
       have RX_7' := RX_6.out.next hb7
       have BL_7' := Below.next BL_6.out hb7
       have EH_7' := EH_6.out.next hb7
       have XH_7' := XH_6.out.next hb7
       have cXH_7 := XH_7'.cell
       have lXH_7 := XH_7'.lt
       have EK_7' := EK_6.out.next hb7
       have XK_7' := XK_6.out.next hb7
       have cXK_7 := XK_7'.cell
       have lXK_7 := XK_7'.lt
       have ET_7' := ET_6.out.next hb7
       have XT_7' := XT_6.out.next hb7
       have cXT_7 := XT_7'.cell
       have lXT_7 := XT_7'.lt
       have RX_7 := Lib.hid RX_7'
       have BL_7 := Lib.hid BL_7'
       have EH_7 := Lib.hid EH_7'
       have XH_7 := Lib.hid XH_7'
       have EK_7 := Lib.hid EK_7'
       have XK_7 := Lib.hid XK_7'
       have ET_7 := Lib.hid ET_7'
       have XT_7 := Lib.hid XT_7'
       clear hb7 RX_6 RX_7' BL_6 BL_7' EH_6 EH_7' XH_6 XH_7' cXH_6 lXH_6 EK_6 EK_7' XK_6 XK_7' cXK_6 lXK_6 ET_6 ET_7' XT_6 XT_7')
    | (go_at_call 14
       refine (sameHint_eqL seg size _ _ _ _ m E _ HM.out EH_7.out.rd EK_7.out.rd (by omega)).mono ?_
       rintro e w8 ⟨rfl, hb8⟩
       have z8 := hb8.size
       (try simp only [World.size_alloc] at z8)
       have RX_8' := RX_7.out.next hb8
       have BL_8' := Below.next BL_7.out hb8
       have EH_8' := EH_7.out.next hb8
       have XH_8' := XH_7.out.next hb8
       have cXH_8 := XH_8'.cell
       have lXH_8 := XH_8'.lt
       have EK_8' := EK_7.out.next hb8
       have XK_8' := XK_7.out.next hb8
       have cXK_8 := XK_8'.cell
       have lXK_8 := XK_8'.lt
       have ET_8' := ET_7.out.next hb8
       have XT_8' := XT_7.out.next hb8
       have cXT_8 := XT_8'.cell
       have lXT_8 := XT_8'.lt
       have RX_8 := Lib.hid RX_8'
       have BL_8 := Lib.hid BL_8'
       have EH_8 := Lib.hid EH_8'
       have XH_8 := Lib.hid XH_8'
       have EK_8 := Lib.hid EK_8'
       have XK_8 := Lib.hid XK_8'
       have ET_8 := Lib.hid ET_8'
       have XT_8 := Lib.hid XT_8'
       clear hb8 RX_7 RX_8' BL_7 BL_8' EH_7 EH_8' XH_7 XH_8' cXH_7 lXH_7 EK_7 EK_8' XK_7 XK_8' cXK_7 lXK_7 ET_7 ET_8' XT_7 XT_8' cXT_7 lXT_7)
    | (go_at_call 14
       refine (sameHint_eqL seg size _ _ _ _ m E _ HM.out ET_8.out.rd EK_8.out.rd (by omega)).mono ?_
       rintro e w9 ⟨rfl, hb9⟩
       have z9 := hb9.size
       (try simp only [World.size_alloc] at z9)
       have RX_9' := RX_8.out.next hb9
       have BL_9' := Below.next BL_8.out hb9
       have EH_9' := EH_8.out.next hb9
       have XH_9' := XH_8.out.next hb9
       have cXH_9 := XH_9'.cell
       have lXH_9 := XH_9'.lt
       have EK_9' := EK_8.out.next hb9
       have XK_9' := XK_8.out.next hb9
       have cXK_9 := XK_9'.cell
       have lXK_9 := XK_9'.lt
       have ET_9' := ET_8.out.next hb9
       have XT_9' := XT_8.out.next hb9
       have cXT_9 := XT_9'.cell
       have lXT_9 := XT_9'.lt
       have RX_9 := Lib.hid RX_9'
       have BL_9 := Lib.hid BL_9'
       have EH_9 := Lib.hid EH_9'
       have XH_9 := Lib.hid XH_9'
       have EK_9 := Lib.hid EK_9'
       have XK_9 := Lib.hid XK_9'
       have ET_9 := Lib.hid ET_9'
       have XT_9 := Lib.hid XT_9'
       clear hb9 RX_8 RX_9' BL_8 BL_9' EH_8 EH_9' XH_8 XH_9' cXH_8 lXH_8 EK_8 EK_9' XK_8 XK_9' cXK_8 lXK_8 ET_8 ET_9' XT_8 XT_9' cXT_8 lXT_8)
    | (go_at_call 15
       refine (spoil_any seg size w1.heap.size w2.heap.size m ch bh E _ EH_9.out (by omega) (by omega)).mono ?_
       rintro e w40 ⟨rfl, hc40⟩
       have z40 := hc40.size
       have RX_40 := Lib.hid (RX_9.out.chg hc40 (by intro j h1 h2 h3; omega))
       have EK_40 := Lib.hid (EK_9.out.chg hc40 (by intro j h1 h2 h3; omega))
       have ET_40 := Lib.hid (ET_9.out.chg hc40 (by intro j h1 h2 h3; omega))
       have XK_40 := Lib.hid (XK_9.out.chg hc40 (by omega))
       have cXK_40 := XK_40.out.cell
       have lXK_40 := XK_40.out.lt
       have XT_40 := Lib.hid (XT_9.out.chg hc40 (by omega))
       have cXT_40 := XT_40.out.cell
       have lXT_40 := XT_40.out.lt
       have BL_40 := Lib.hid (BL_9.out.trans (hc40.below BL_9.out.size (fun j hj => by omega)))
       clear hc40 RX_9 BL_9 EH_9 XH_9 EK_9 XK_9 ET_9 XT_9 cXH_9 lXH_9 cXK_9 lXK_9 cXT_9 lXT_9)
    | (go_at_call 14
       refine (sameHint_eqL seg size _ _ _ _ m E _ HM.out ET_40.out.rd EK_40.out.rd (by omega)).mono ?_
       rintro e w41 ⟨rfl, hb41⟩
       have z41 := hb41.size
       (try simp only [World.size_alloc] at z41)
       have RX_41' := RX_40.out.next hb41
       have EK_41' := EK_40.out.next hb41
       have ET_41' := ET_40.out.next hb41
       have XK_41' := XK_40.out.next hb41
       have cXK_41 := XK_41'.cell
       have lXK_41 := XK_41'.lt
       have XT_41' := XT_40.out.next hb41
       have cXT_41 := XT_41'.cell
       have lXT_41 := XT_41'.lt
       have BL_41' := Below.next BL_40.out hb41
       have RX_41 := Lib.hid RX_41'
       have EK_41 := Lib.hid EK_41'
       have ET_41 := Lib.hid ET_41'
       have XK_41 := Lib.hid XK_41'
       have XT_41 := Lib.hid XT_41'
       have BL_41 := Lib.hid BL_41'
       clear hb41 RX_40 RX_41' EK_40 EK_41' ET_40 ET_41' XK_40 XK_41' cXK_40 lXK_40 XT_40 XT_41' cXT_40 lXT_40 BL_40 BL_41')
    | (at_builtin
       have hbA : Below w.heap.size w (w41.alloc (.cells #[] 45)) := Below.next BL_41.out (Below.al _ _)
       refine wpList_app _ rfl (.tmp 72) (.tmp 73) _ rfl w41.heap.size 45 i0 _ 9 88 Try.underlying39 hi0 hz0 hs0 hy0 rfl (by omega) (.slice (some ⟨w41.heap.size, 0, none⟩) 0 0) 0 [] rfl (own_empty w41 _ _ _ (Nat.le_refl _)) _ A n c (l.flatMap nine) rfl (by rw [nine_len, Hn.out]) (Hr.out _ hbA) (one_nine _) (by unfold maxLen; omega) (by omega) (by simp) ?_
       intro v1 w42 hown hg _
       rw [Nat.zero_add, List.nil_append] at hown
       obtain ⟨bm, cm, rfl⟩ := ownsRow_slice hown
       have hcg : Chg (fun j => j = w41.heap.size) (w41.alloc (.cells #[] 45)) w42 := (Chg.of_grown hg).mono (fun j _ hj => by simp [Value.ownBlock] at hj; exact hj)
       have z42 := hcg.size
       rw [World.size_alloc] at z42
       have RM_42 := Lib.hid (PR.mk' hown Hn.out)
       have BL_42 := Lib.hid (hbA.trans (hcg.below (by simp; omega) (fun j hj => by omega)))
       have RX_42 := Lib.hid ((RX_41.out.next (Below.al w41 (.cells #[] 45))).chg hcg (by intro j h1 h2 h3; omega))
       have EK_42 := Lib.hid ((EK_41.out.next (Below.al w41 (.cells #[] 45))).chg hcg (by intro j h1 h2 h3; omega))
       have XK_42 := Lib.hid ((XK_41.out.next (Below.al w41 (.cells #[] 45))).chg hcg (by omega))
       have cXK_42 := XK_42.out.cell
       have lXK_42 := XK_42.out.lt
       clear hown hg hcg hbA BL_41 EK_41 XK_41 XT_41 ET_41 cXK_41 lXK_41 cXT_41 lXT_41 RX_41)
    | (at_builtin
       have RMa := (RM_42.out.next (Below.al w42 (.cells (nine markP).toArray 45))).own
       refine wpList_app1 _ rfl (.tmp 74) (.tmp 76) _ rfl w41.heap.size 45 i0 _ 9 88 Try.underlying39 hi0 hz0 hs0 hy0 rfl (by omega) (.slice bm n cm) n (l.flatMap nine) rfl RMa _ _ 1 1 (nine markP) rfl rfl (rd_new _ _ _) (by simpa using one_nine [markP]) (by unfold maxLen; omega) (by omega) (by simp; omega) (by omega) ?_
       intro gm cm2 w43 hO hcm1 hcm2 hown hg hgor
       unfold maxLen at hcm2
       have hcg : Chg (fun j => w41.heap.size ≤ j ∧ j < w42.heap.size) (w42.alloc (.cells (nine markP).toArray 45)) w43 := (Chg.of_grown hg).mono (fun j _ hj => ⟨RM_42.out.bot j hj.symm, RM_42.out.top j hj.symm⟩)
       have z43 := hcg.size
       rw [World.size_alloc] at z43
       have hgw := hO.lt
       have hgl : w41.heap.size ≤ gm := hO.1
       have RM_43 := Lib.hid (PR.mk' (ps := l ++ [markP]) (by rw [List.flatMap_append]; simpa using hown) (by simp [Hn.out]))
       have BL_43 := Lib.hid ((Below.next BL_42.out (Below.al w42 (.cells (nine markP).toArray 45))).trans (hcg.below (by simp; omega) (fun j hj => by omega)))
       have RX_43 := Lib.hid ((RX_42.out.next (Below.al w42 (.cells (nine markP).toArray 45))).chg hcg (by intro j h1 h2 h3; omega))
       have EK_43 := Lib.hid ((EK_42.out.next (Below.al w42 (.cells (nine markP).toArray 45))).chg hcg (by intro j h1 h2 h3; omega))
       have XK_43 := Lib.hid ((XK_42.out.next (Below.al w42 (.cells (nine markP).toArray 45))).chg hcg (by omega))
       have cXK_43 := XK_43.out.cell
       have lXK_43 := XK_43.out.lt
       clear hown hg hcg BL_42 EK_42 XK_42 cXK_42 lXK_42 RX_42 RM_42 RMa hO hgor)
    | (go_at_call 16
       refine (octOfAny seg size (some ⟨gm, 0, none⟩) n cm2 (l ++ [markP]) _ RM_43.out.rd (by rw [List.length_append, Hn.out]; omega) hmx HK.out.mark).mono ?_
       rintro e w44 ⟨v44, rfl, hb44⟩
       have z44 := hb44.size
       (try simp only [World.size_alloc] at z44)
       have RX_44' := RX_43.out.next hb44
       have EK_44' := EK_43.out.next hb44
       have XK_44' := XK_43.out.next hb44
       have cXK_44 := XK_44'.cell
       have lXK_44 := XK_44'.lt
       have RM_44' := RM_43.out.next hb44
       have BL_44' := Below.next BL_43.out hb44
       have RX_44 := Lib.hid RX_44'
       have EK_44 := Lib.hid EK_44'
       have XK_44 := Lib.hid XK_44'
       have RM_44 := Lib.hid RM_44'
       have BL_44 := Lib.hid BL_44'
       clear hb44 RX_43 RX_44' EK_43 EK_44' XK_43 XK_44' cXK_43 lXK_43 RM_43 RM_44' BL_43 BL_44'))
  have hnl : n < (l ++ [markP]).length := by rw [List.length_append, Hn.out]; simp
  obtain ⟨ge, hge, _, _, hOm, _, _⟩ := RM_44.out.own_ (by omega)
  injection hge with hge
  injection hge with hge
  have hq7 : w44.cell? ⟨gm, n * 9 + 7, none⟩ = some (.int .i64 (-77)) := by
    rw [hge]
    refine hOm.get ?_
    rw [nine_get _ n 7 hnl (by omega)]
    have : (l ++ [markP])[n] = markP := by
      rw [List.getElem_append_right (by rw [Hn.out]; exact Nat.le_refl _)]
      simp [Hn.out]
    rw [this]; rfl
  have hgl4 : gm < w44.heap.size := by rw [hge]; exact hOm.lt
  clear hOm RM_44 hge hnl
  have hn1 : (n : Int) < n + 1 := by omega
  have hn0 : (0 : Int) ≤ n := by omega
  go_region_with (first
    | (go_at_call 16
       refine (octOf seg size bx n cx m l E _ HE.out HM.out (RX_44.out.next (below_dr _)).rd Hn.out hmx HK.out.at_).mono ?_
       rintro e w45 ⟨bo, co, rfl, hr45, hb45⟩
       unfold hV
       have hbd : Below w44.heap.size w44 w45 := (below_dr _).trans hb45
       have BL_45 := Lib.hid (Below.next BL_44.out hbd)
       have RX_45 := Lib.hid (RX_44.out.next hbd)
       have EK_45 := Lib.hid (EK_44.out.next hbd)
       have XK_45' := XK_44.out.next hbd
       have cXK_45 := XK_45'.cell
       have lXK_45 := XK_45'.lt
       have EO_45 := Lib.hid hr45
       have z45 := hbd.size
       clear hbd hb45 hr45 XK_45' cXK_44 lXK_44 XK_44 EK_44 RX_44 BL_44)
    | (go_at_call 14
       refine (sameHint_eqL seg size _ _ _ _ m E _ HM.out EO_45.out.rd EK_45.out.rd (by omega)).mono ?_
       rintro e w46 ⟨rfl, hb46⟩
       have BL_46 := Lib.hid (Below.next BL_45.out hb46)
       have RX_46 := Lib.hid (RX_45.out.next hb46)
       have z46 := hb46.size
       clear hb46 RX_45 BL_45 EO_45 EK_45 cXK_45 lXK_45))
  all_goals
    go_wp2
    go_loopw [13] (fun iv wr => ∃ (k : Nat) (l' : List PL), k ≤ n / 2 ∧ iv = .int .i64 k ∧ KeyOk l' ∧ PR w.heap.size w1.heap.size wr bx n cx l' ∧ Below w.heap.size w wr ∧ w1.heap.size ≤ wr.heap.size) (fun iv _ => n / 2 - (intOf iv).toNat)
    case atStart => exact ⟨0, l, Nat.zero_le _, rfl, HK.out, RX_46.out, BL_46.out, by omega⟩
    case round =>
      obtain ⟨k, l', hk2, rfl, hK', hP, hB, hws⟩ := hrel
      by_cases hlt : k < n / 2
      · obtain ⟨ga, rfl, hnc', hcm', hO, hl1, hl2⟩ := hP.own_ (by omega)
        obtain ⟨j, hj⟩ : ∃ j : Nat, (n : Int) - 1 - k = j := ⟨n - 1 - k, by omega⟩
        have hgf := hO.free
        have hgw := hO.lt
        have hkl : k < l'.length := by rw [hP.len]; omega
        have hjl : j < l'.length := by rw [hP.len]; omega
        have hck : ∀ i v, i < 9 → (nine l'[k])[i]? = some v → wr.cell? ⟨ga, k * 9 + i, none⟩ = some v := fun i v hi hv => hO.get ((nine_get l' k i hkl hi).trans hv)
        have hcj : ∀ i v, i < 9 → (nine l'[j])[i]? = some v → wr.cell? ⟨ga, j * 9 + i, none⟩ = some v := fun i v hi hv => hO.get ((nine_get l' j i hjl hi).trans hv)
        have HKO := Lib.hid (And.intro (hK' l'[k] (List.getElem_mem hkl)) (hK' l'[j] (List.getElem_mem hjl)))
        generalize l'[k] = p at hck HKO
        generalize l'[j] = q at hcj HKO
        have p0 := hck 0 _ (by omega) rfl
        have p1 := hck 1 _ (by omega) rfl
        have p2 := hck 2 _ (by omega) rfl
        have p3 := hck 3 _ (by omega) rfl
        have p4 := hck 4 _ (by omega) rfl
        have p5 := hck 5 _ (by omega) rfl
        have p6 := hck 6 _ (by omega) rfl
        have p7 := hck 7 _ (by omega) rfl
        have p8 := hck 8 _ (by omega) rfl
        have q0 := hcj 0 _ (by omega) rfl
        have q1 := hcj 1 _ (by omega) rfl
        have q2 := hcj 2 _ (by omega) rfl
        have q3 := hcj 3 _ (by omega) rfl
        have q4 := hcj 4 _ (by omega) rfl
        have q5 := hcj 5 _ (by omega) rfl
        have q6 := hcj 6 _ (by omega) rfl
        have q7 := hcj 7 _ (by omega) rfl
        have q8 := hcj 8 _ (by omega) rfl
        rw [Nat.add_zero] at p0 q0
        have hk0 : (0 : Int) ≤ k := by omega
        have hk1 : (k : Int) < n := by omega
        have hj0 : (0 : Int) ≤ j := by omega
        have hj1 : (j : Int) < n := by omega
        have hkj : k ≠ j := by omega
        have HP := Lib.hid (And.intro hK' (And.intro hP hB))
        clear hK' hP hB hO hck hcj
        go_wp2
        go_roundw
        case rel =>
          refine ⟨k + 1, (l'.set k q).set j p, by omega, by go_num, (HP.out.1.set k HKO.out.2).set j HKO.out.1, ((HP.out.2.1.nine_set (i := k) (by omega) q).nine_set (i := j) (by omega) p).next (Below.al _ _), ?_, by simp; omega⟩
          refine Below.alloc ?_ (by simp; omega) _
          repeat (first | with_reducible exact HP.out.2.2 | refine Below.setCell ?_ (by show w.heap.size ≤ ga; omega) _)
        case measure => simp [intOf]; omega
      · have hHl := hP.len
        have hmn2 := hofE_le l' n
        generalize hE2 : hofE l' n = E2 at hmn2
        generalize hm2 : E2.length = m2 at hmn2
        have HH := Lib.hid (And.intro hE2 (And.intro hm2 (And.intro hHl (And.intro hK' (And.intro hP hB)))))
        clear hE2 hm2 hHl hK' hP hB
        go_wp2_with (first
          | (go_at_call 16
             refine (octOf seg size bx n cx m2 l' E2 _ HH.out.1 HH.out.2.1 HH.out.2.2.2.2.1.rd HH.out.2.2.1 hmx HH.out.2.2.2.1.at_).mono ?_
             rintro e w50 ⟨bo, co, rfl, hr50, hb50⟩
             unfold hV
             have H50 := Lib.hid (And.intro hr50 (And.intro (HH.out.2.2.2.2.1.next hb50) (Below.next HH.out.2.2.2.2.2 hb50)))
             clear hr50 hb50)
          | (go_at_call 17
             refine (refOf seg size bx n cx m2 l' E2 _ HH.out.1 HH.out.2.1 H50.out.2.1.rd HH.out.2.2.1 hmx).mono ?_
             rintro e w51 ⟨bp, cp, rfl, hr51, hb51⟩
             unfold hV
             have H51 := Lib.hid (And.intro (H50.out.1.next hb51) (And.intro hr51 (Below.next H50.out.2.2 hb51)))
             clear hr51 hb51)
          | (go_at_call 14
             refine (sameHint_eqL seg size _ _ _ _ m2 E2 _ HH.out.2.1 H51.out.1.rd H51.out.2.1.rd (by omega)).mono ?_
             rintro e w52 ⟨rfl, hb52⟩
             have H52 := Lib.hid (Below.next H51.out.2.2 hb52)
             clear hb52))
        go_ret
        exact ⟨rfl, H52.out⟩
end Go.Proofs.Ytifimeohdgnehaa
