import Derived.Test.YtifimeohdgnehaaHnt16
namespace Go.Proofs.Ytifimeohdgnehaa
open Go.RowKit Go.Maps

theorem sameHint_eqL (seg size : Int) (A A' : Option Addr) (c c' m : Nat) (l : List HE) (w : World) (hm : l.length = m) (hA : Rd w w.heap.size A (l.flatMap six)) (hA' : Rd w w.heap.size A' (l.flatMap six)) (hmx : m ≤ 140737488351232) :
    Calls Try.prog 14 #[hV seg size (.slice A m c), hV seg size (.slice A' m c')] w fun e w' => e = .returned (.bool true) ∧ Below w.heap.size w w' := by
  subst hm
  exact sameHint_eq seg size A A' c c' l w hA hA' hmx

set_option maxRecDepth 100000 in
set_option maxHeartbeats 16000000 in
theorem hintDecodes_any (A : Option Addr) (n c : Nat) (bs : List UInt8) (w : World) (hA : Rd w w.heap.size A (bv bs)) (hn : bs.length = n) (hnc : n ≤ c) (hmx : n ≤ 2000000) :
    Calls Try.prog 4 #[.slice A n c] w fun ee w' => ee = .returned (.bool true) ∧ Below w.heap.size w w' := by
  obtain ⟨i0, hi0, hz0, hs0, hy0⟩ := info_parts info_u8
  obtain ⟨seg, size, H, er, hH, hp⟩ := DAns.pick bs
  have HP := Lib.hid (show DPick bs seg size H er from hp)
  generalize hHm : H.length = m at hH
  have Hm := Lib.hid hHm
  have hr : ∀ W, Below w.heap.size w W → Rd W W.heap.size A (bv bs) := fun W hb => (hA.below hb).mono hb.size
  have Hr := Lib.hid hr
  have Hn := Lib.hid hn
  have hb0 : Below w.heap.size w (w.alloc (.cells #[] 5)) := Below.al _ _
  have HA0 := Lib.hid (And.intro (hA.below hb0) hb0)
  clear hr hA hn hHm hp hb0
  go_enter Try.func4, Try.ntmps4
  go_wp2_with (first
    | (at_builtin
       refine wpList_app _ rfl (.tmp 18) (.tmp 19) _ rfl w.heap.size 5 i0 _ 1 1 Try.underlying26 hi0 hz0 hs0 hy0 rfl (by omega) (.slice (some ⟨w.heap.size, 0, none⟩) 0 0) 0 [] rfl (own_empty w _ _ _ (Nat.le_refl _)) _ A n c (bv bs) rfl (by rw [bv_len, Hn.out, Nat.mul_one]) HA0.out.1 (one_bv _) (by unfold maxLen; omega) (by omega) (by simp) ?_
       intro v1 w1 hown hg _
       rw [Nat.zero_add, List.nil_append] at hown
       obtain ⟨bx, cx, rfl⟩ := ownsRow_slice hown
       have hncx := ownsRow_cap hown
       have RX_1 := Lib.hid (BR.mk' hown)
       have BL_1 := Lib.hid (HA0.out.2.grown hg (by simp) (fun k hk => by simp [Value.ownBlock] at hk; omega))
       have z1 := BL_1.out.size
       clear hown hg HA0)
    | (go_at_call 12
       refine (octDecG HP.out bx n cx m _ Hm.out RX_1.out.rd Hn.out hncx hmx).mono ?_
       rintro e w2 ⟨bh, ch, rfl, hr2, hb2⟩
       unfold hV
       have z2 := hb2.size
       (try simp only [World.size_alloc] at z2)
       (try rw [World.size_alloc] at hr2)
       have RX_2' := RX_1.out.next hb2
       have BL_2' := Below.next BL_1.out hb2
       have EH_2' := hr2
       have RX_2 := Lib.hid (RX_2'.next (Below.al w2 (.cells #[.int .i64 seg, .int .i64 size, .slice bh m ch] 24)))
       have BL_2 := Lib.hid (Below.next BL_2' (Below.al w2 (.cells #[.int .i64 seg, .int .i64 size, .slice bh m ch] 24)))
       have EH_2 := Lib.hid (EH_2'.next (Below.al w2 (.cells #[.int .i64 seg, .int .i64 size, .slice bh m ch] 24)))
       have XH_2 := Lib.hid (Box.new w2 24 #[.int .i64 seg, .int .i64 size, .slice bh m ch])
       clear hb2 RX_1 RX_2' BL_1 BL_2' hr2 EH_2')
    | (go_at_call 13
       refine (refDecG HP.out A n c m _ Hm.out (Hr.out _ BL_2.out) Hn.out hnc hmx).mono ?_
       rintro e w3 ⟨bk, ck, rfl, hr3, hb3⟩
       unfold hV
       have z3 := hb3.size
       (try simp only [World.size_alloc] at z3)
       (try rw [World.size_alloc] at hr3)
       have RX_3' := RX_2.out.next hb3
       have BL_3' := Below.next BL_2.out hb3
       have EH_3' := EH_2.out.next hb3
       have XH_3' := XH_2.out.next hb3
       have cXH_3 := XH_3'.cell
       have lXH_3 := XH_3'.lt
       have EK_3' := hr3
       have RX_3 := Lib.hid (RX_3'.next (Below.al w3 (.cells #[.int .i64 seg, .int .i64 size, .slice bk m ck] 24)))
       have BL_3 := Lib.hid (Below.next BL_3' (Below.al w3 (.cells #[.int .i64 seg, .int .i64 size, .slice bk m ck] 24)))
       have EH_3 := Lib.hid (EH_3'.next (Below.al w3 (.cells #[.int .i64 seg, .int .i64 size, .slice bk m ck] 24)))
       have XH_3 := Lib.hid (XH_3'.next (Below.al w3 (.cells #[.int .i64 seg, .int .i64 size, .slice bk m ck] 24)))
       have EK_3 := Lib.hid (EK_3'.next (Below.al w3 (.cells #[.int .i64 seg, .int .i64 size, .slice bk m ck] 24)))
       have XK_3 := Lib.hid (Box.new w3 24 #[.int .i64 seg, .int .i64 size, .slice bk m ck])
       clear hb3 RX_2 RX_3' BL_2 BL_3' EH_2 EH_3' XH_2 XH_3' hr3 EK_3')
    | (go_at_call 14
       refine (sameHint_eqL seg size _ _ _ _ m H _ Hm.out EH_3.out.rd EK_3.out.rd (by omega)).mono ?_
       rintro e w4 ⟨rfl, hb4⟩
       have z4 := hb4.size
       (try simp only [World.size_alloc] at z4)
       have RX_4' := RX_3.out.next hb4
       have BL_4' := Below.next BL_3.out hb4
       have EH_4' := EH_3.out.next hb4
       have XH_4' := XH_3.out.next hb4
       have cXH_4 := XH_4'.cell
       have lXH_4 := XH_4'.lt
       have EK_4' := EK_3.out.next hb4
       have XK_4' := XK_3.out.next hb4
       have cXK_4 := XK_4'.cell
       have lXK_4 := XK_4'.lt
       have RX_4 := Lib.hid RX_4'
       have BL_4 := Lib.hid BL_4'
       have EH_4 := Lib.hid EH_4'
       have XH_4 := Lib.hid XH_4'
       have EK_4 := Lib.hid EK_4'
       have XK_4 := Lib.hid XK_4'
       clear hb4 RX_3 RX_4' BL_3 BL_4' EH_3 EH_4' XH_3 XH_4' cXH_3 lXH_3 EK_3 EK_4' XK_3 XK_4')
    | (go_at_call 10
       refine (sameBytes_eq n bx A cx c bs _ Hn.out RX_4.out.rd (Hr.out _ BL_4.out) (by omega)).mono ?_
       rintro e w5 ⟨rfl, hb5⟩
       have z5 := hb5.size
       (try simp only [World.size_alloc] at z5)
       have RX_5' := RX_4.out.next hb5
       have BL_5' := Below.next BL_4.out hb5
       have EH_5' := EH_4.out.next hb5
       have XH_5' := XH_4.out.next hb5
       have cXH_5 := XH_5'.cell
       have lXH_5 := XH_5'.lt
       have EK_5' := EK_4.out.next hb5
       have XK_5' := XK_4.out.next hb5
       have cXK_5 := XK_5'.cell
       have lXK_5 := XK_5'.lt
       have RX_5 := Lib.hid RX_5'
       have BL_5 := Lib.hid BL_5'
       have EH_5 := Lib.hid EH_5'
       have XH_5 := Lib.hid XH_5'
       have EK_5 := Lib.hid EK_5'
       have XK_5 := Lib.hid XK_5'
       clear hb5 RX_4 RX_5' BL_4 BL_5' EH_4 EH_5' XH_4 XH_5' cXH_4 lXH_4 EK_4 EK_5' XK_4 XK_5' cXK_4 lXK_4)
    | (go_at_call 12
       refine (octDecG HP.out bx n cx m _ Hm.out RX_5.out.rd Hn.out hncx hmx).mono ?_
       rintro e w6 ⟨bt, ct, rfl, hr6, hb6⟩
       unfold hV
       have z6 := hb6.size
       (try simp only [World.size_alloc] at z6)
       (try rw [World.size_alloc] at hr6)
       have RX_6' := RX_5.out.next hb6
       have BL_6' := Below.next BL_5.out hb6
       have EH_6' := EH_5.out.next hb6
       have XH_6' := XH_5.out.next hb6
       have cXH_6 := XH_6'.cell
       have lXH_6 := XH_6'.lt
       have EK_6' := EK_5.out.next hb6
       have XK_6' := XK_5.out.next hb6
       have cXK_6 := XK_6'.cell
       have lXK_6 := XK_6'.lt
       have ET_6' := hr6
       have RX_6 := Lib.hid (RX_6'.next (Below.al w6 (.cells #[.int .i64 seg, .int .i64 size, .slice bt m ct] 24)))
       have BL_6 := Lib.hid (Below.next BL_6' (Below.al w6 (.cells #[.int .i64 seg, .int .i64 size, .slice bt m ct] 24)))
       have EH_6 := Lib.hid (EH_6'.next (Below.al w6 (.cells #[.int .i64 seg, .int .i64 size, .slice bt m ct] 24)))
       have XH_6 := Lib.hid (XH_6'.next (Below.al w6 (.cells #[.int .i64 seg, .int .i64 size, .slice bt m ct] 24)))
       have EK_6 := Lib.hid (EK_6'.next (Below.al w6 (.cells #[.int .i64 seg, .int .i64 size, .slice bt m ct] 24)))
       have XK_6 := Lib.hid (XK_6'.next (Below.al w6 (.cells #[.int .i64 seg, .int .i64 size, .slice bt m ct] 24)))
       have ET_6 := Lib.hid (ET_6'.next (Below.al w6 (.cells #[.int .i64 seg, .int .i64 size, .slice bt m ct] 24)))
       have XT_6 := Lib.hid (Box.new w6 24 #[.int .i64 seg, .int .i64 size, .slice bt m ct])
       clear hb6 RX_5 RX_6' BL_5 BL_6' EH_5 EH_6' XH_5 XH_6' cXH_5 lXH_5 EK_5 EK_6' XK_5 XK_6' cXK_5 lXK_5 hr6 ET_6')
    | (go_at_call 12
       refine (octDecAny (bs := bs.take (n / 2)) bx (n / 2) cx _ (RX_6.out.rd.take_ (n / 2)) (by rw [List.length_take, Hn.out]; omega) (by omega) (by omega)).mono ?_
       rintro e w7 ⟨v7, rfl, hb7⟩
       have z7 := hb7.size
       (try simp only [World.size_alloc] at z7)
       have RX_7' := RX_6.out.next hb7
       have BL_7' := Below.next BL_6.out hb7
       have EH_7' := EH_6.out.next hb7
       have XH_7' := XH_6.out.next hb7
       have cXH_7 := XH_7'.cell
       have lXH_7 := XH_7'.lt
       have EK_7' := EK_6.out.next hb7
       have XK_7' := XK_6.out.next hb7
       have cXK_7 := XK_7'.cell
       have lXK_7 := XK_7'.lt
       have ET_7' := ET_6.out.next hb7
       have XT_7' := XT_6.out.next hb7
       have cXT_7 := XT_7'.cell
       have lXT_7 := XT_7'.lt
       have RX_7 := Lib.hid RX_7'
       have BL_7 := Lib.hid BL_7'
       have EH_7 := Lib.hid EH_7'
       have XH_7 := Lib.hid XH_7'
       have EK_7 := Lib.hid EK_7'
       have XK_7 := Lib.hid XK_7'
       have ET_7 := Lib.hid ET_7'
       have XT_7 := Lib.hid XT_7'
       clear hb7 RX_6 RX_7' BL_6 BL_7' EH_6 EH_7' XH_6 XH_7' cXH_6 lXH_6 EK_6 EK_7' XK_6 XK_7' cXK_6 lXK_6 ET_6 ET_7' XT_6 XT_7')
    | (go_at_call 14
       refine (sameHint_eqL seg size _ _ _ _ m H _ Hm.out ET_7.out.rd EK_7.out.rd (by omega)).mono ?_
       rintro e w8 ⟨rfl, hb8⟩
       have z8 := hb8.size
       (try simp only [World.size_alloc] at z8)
       have RX_8' := RX_7.out.next hb8
       have BL_8' := Below.next BL_7.out hb8
       have EH_8' := EH_7.out.next hb8
       have XH_8' := XH_7.out.next hb8
       have cXH_8 := XH_8'.cell
       have lXH_8 := XH_8'.lt
       have EK_8' := EK_7.out.next hb8
       have XK_8' := XK_7.out.next hb8
       have cXK_8 := XK_8'.cell
       have lXK_8 := XK_8'.lt
       have ET_8' := ET_7.out.next hb8
       have XT_8' := XT_7.out.next hb8
       have cXT_8 := XT_8'.cell
       have lXT_8 := XT_8'.lt
       have RX_8 := Lib.hid RX_8'
       have BL_8 := Lib.hid BL_8'
       have EH_8 := Lib.hid EH_8'
       have XH_8 := Lib.hid XH_8'
       have EK_8 := Lib.hid EK_8'
       have XK_8 := Lib.hid XK_8'
       have ET_8 := Lib.hid ET_8'
       have XT_8 := Lib.hid XT_8'
       clear hb8 RX_7 RX_8' BL_7 BL_8' EH_7 EH_8' XH_7 XH_8' cXH_7 lXH_7 EK_7 EK_8' XK_7 XK_8' cXK_7 lXK_7 ET_7 ET_8' XT_7 XT_8' cXT_7 lXT_7)
    | (go_at_call 14
       refine (sameHint_eqL seg size _ _ _ _ m H _ Hm.out EH_8.out.rd EK_8.out.rd (by omega)).mono ?_
       rintro e w9 ⟨rfl, hb9⟩
       have z9 := hb9.size
       (try simp only [World.size_alloc] at z9)
       have RX_9' := RX_8.out.next hb9
       have BL_9' := Below.next BL_8.out hb9
       have EH_9' := EH_8.out.next hb9
       have XH_9' := XH_8.out.next hb9
       have cXH_9 := XH_9'.cell
       have lXH_9 := XH_9'.lt
       have EK_9' := EK_8.out.next hb9
       have XK_9' := XK_8.out.next hb9
       have cXK_9 := XK_9'.cell
       have lXK_9 := XK_9'.lt
       have ET_9' := ET_8.out.next hb9
       have XT_9' := XT_8.out.next hb9
       have cXT_9 := XT_9'.cell
       have lXT_9 := XT_9'.lt
       have RX_9 := Lib.hid RX_9'
       have BL_9 := Lib.hid BL_9'
       have EH_9 := Lib.hid EH_9'
       have XH_9 := Lib.hid XH_9'
       have EK_9 := Lib.hid EK_9'
       have XK_9 := Lib.hid XK_9'
       have ET_9 := Lib.hid ET_9'
       have XT_9 := Lib.hid XT_9'
       clear hb9 RX_8 RX_9' BL_8 BL_9' EH_8 EH_9' XH_8 XH_9' cXH_8 lXH_8 EK_8 EK_9' XK_8 XK_9' cXK_8 lXK_8 ET_8 ET_9' XT_8 XT_9' cXT_8 lXT_8))
  go_loopw [10] (fun i wr => ∃ (k : Nat) (bs' : List UInt8), k ≤ n ∧ i = .int .i64 k ∧ BR w.heap.size w1.heap.size wr bx n cx bs' ∧ Chg (fun j => w.heap.size ≤ j ∧ j < w1.heap.size) w9 wr)
    (fun i _ => n - (intOf i).toNat)
  case atStart => exact ⟨0, bs, Nat.zero_le _, rfl, RX_9.out, Chg.refl _ _⟩
  case round =>
    obtain ⟨k, bs', hk, rfl, hB, hC⟩ := hrel
    by_cases hlt : k < n
    · obtain ⟨ga, rfl, hnc', hcm, hO, hl1, hl2⟩ := hB.some_ (by omega)
      have hk0 : (0 : Int) ≤ k := by omega
      have hk1 : (k : Int) < n := by omega
      have hfk := hO.free k
      have hin := hO.lt
      obtain ⟨uk, hck⟩ : ∃ u, wr.cell? ⟨ga, k, none⟩ = some u := ⟨_, hO.get (List.getElem?_eq_getElem (by rw [bv_len, hB.len]; exact hlt))⟩
      have HH := Lib.hid (And.intro hB hC)
      clear hB hC hO
      go_wp2
      go_roundw
      case rel => exact ⟨k + 1, bs'.set k 7, by omega, by go_num, by simpa using HH.out.1.set_ (k := k) 7, HH.out.2.setCell (.inl ⟨hl1, hl2⟩) _⟩
      case measure => simp [intOf]; omega
    · have HH := Lib.hid (And.intro hB hC)
      have Hn2 := Lib.hid hB.len
      have hsz0 := hC.size
      clear hB hC
      obtain ⟨sg2, sz2, H2, er2, hH2, hp2⟩ := DAns.pick bs'
      have HP2 := Lib.hid (show DPick bs' sg2 sz2 H2 er2 from hp2)
      generalize hHm2 : H2.length = m2 at hH2
      have Hm2 := Lib.hid hHm2
      clear hp2 hHm2
      have RX_0 := Lib.hid HH.out.1
      have BL_0' := BL_9.out.trans (HH.out.2.below BL_9.out.size (fun j hj => by omega))
      have BL_0 := Lib.hid BL_0'
      clear BL_0'
      have EH_0' := EH_9.out.chg HH.out.2 (by intro j h1 h2 h3; omega)
      have EH_0 := Lib.hid EH_0'
      clear EH_0'
      have XH_0' := XH_9.out.chg HH.out.2 (by omega)
      have cXH_0 := XH_0'.cell
      have lXH_0 := XH_0'.lt
      have XH_0 := Lib.hid XH_0'
      clear XH_0'
      have EK_0' := EK_9.out.chg HH.out.2 (by intro j h1 h2 h3; omega)
      have EK_0 := Lib.hid EK_0'
      clear EK_0'
      have XK_0' := XK_9.out.chg HH.out.2 (by omega)
      have cXK_0 := XK_0'.cell
      have lXK_0 := XK_0'.lt
      have XK_0 := Lib.hid XK_0'
      clear XK_0'
      have ET_0' := ET_9.out.chg HH.out.2 (by intro j h1 h2 h3; omega)
      have ET_0 := Lib.hid ET_0'
      clear ET_0'
      have XT_0' := XT_9.out.chg HH.out.2 (by omega)
      have cXT_0 := XT_0'.cell
      have lXT_0 := XT_0'.lt
      have XT_0 := Lib.hid XT_0'
      clear XT_0'
      clear HH RX_9 BL_9 EH_9 XH_9 EK_9 XK_9 ET_9 XT_9 cXH_9 lXH_9 cXK_9 lXK_9 cXT_9 lXT_9
      go_wp2_with (first
        | (go_at_call 12
           refine (octDecG HP2.out bx n cx m2 _ Hm2.out RX_0.out.rd Hn2.out hncx hmx).mono ?_
           rintro e w21 ⟨bo, co, rfl, hr21, hb21⟩
           unfold hV
           have z21 := hb21.size
           (try simp only [World.size_alloc] at z21)
           (try rw [World.size_alloc] at hr21)
           have RX_21' := RX_0.out.next hb21
           have BL_21' := Below.next BL_0.out hb21
           have EH_21' := EH_0.out.next hb21
           have XH_21' := XH_0.out.next hb21
           have cXH_21 := XH_21'.cell
           have lXH_21 := XH_21'.lt
           have EK_21' := EK_0.out.next hb21
           have XK_21' := XK_0.out.next hb21
           have cXK_21 := XK_21'.cell
           have lXK_21 := XK_21'.lt
           have ET_21' := ET_0.out.next hb21
           have XT_21' := XT_0.out.next hb21
           have cXT_21 := XT_21'.cell
           have lXT_21 := XT_21'.lt
           have EO_21' := hr21
           have RX_21 := Lib.hid (RX_21'.next (Below.al w21 (.cells #[.int .i64 sg2, .int .i64 sz2, .slice bo m2 co] 24)))
           have BL_21 := Lib.hid (Below.next BL_21' (Below.al w21 (.cells #[.int .i64 sg2, .int .i64 sz2, .slice bo m2 co] 24)))
           have EH_21 := Lib.hid (EH_21'.next (Below.al w21 (.cells #[.int .i64 sg2, .int .i64 sz2, .slice bo m2 co] 24)))
           have XH_21 := Lib.hid (XH_21'.next (Below.al w21 (.cells #[.int .i64 sg2, .int .i64 sz2, .slice bo m2 co] 24)))
           have EK_21 := Lib.hid (EK_21'.next (Below.al w21 (.cells #[.int .i64 sg2, .int .i64 sz2, .slice bo m2 co] 24)))
           have XK_21 := Lib.hid (XK_21'.next (Below.al w21 (.cells #[.int .i64 sg2, .int .i64 sz2, .slice bo m2 co] 24)))
           have ET_21 := Lib.hid (ET_21'.next (Below.al w21 (.cells #[.int .i64 sg2, .int .i64 sz2, .slice bo m2 co] 24)))
           have XT_21 := Lib.hid (XT_21'.next (Below.al w21 (.cells #[.int .i64 sg2, .int .i64 sz2, .slice bo m2 co] 24)))
           have EO_21 := Lib.hid (EO_21'.next (Below.al w21 (.cells #[.int .i64 sg2, .int .i64 sz2, .slice bo m2 co] 24)))
           have XO_21 := Lib.hid (Box.new w21 24 #[.int .i64 sg2, .int .i64 sz2, .slice bo m2 co])
           clear hb21 RX_0 RX_21' BL_0 BL_21' EH_0 EH_21' XH_0 XH_21' cXH_0 lXH_0 EK_0 EK_21' XK_0 XK_21' cXK_0 lXK_0 ET_0 ET_21' XT_0 XT_21' cXT_0 lXT_0 hr21 EO_21')
        | (go_at_call 13
           refine (refDecG HP2.out bx n cx m2 _ Hm2.out RX_21.out.rd Hn2.out hncx hmx).mono ?_
           rintro e w22 ⟨bw, cw, rfl, hr22, hb22⟩
           unfold hV
           have z22 := hb22.size
           (try simp only [World.size_alloc] at z22)
           (try rw [World.size_alloc] at hr22)
           have RX_22' := RX_21.out.next hb22
           have BL_22' := Below.next BL_21.out hb22
           have EH_22' := EH_21.out.next hb22
           have XH_22' := XH_21.out.next hb22
           have cXH_22 := XH_22'.cell
           have lXH_22 := XH_22'.lt
           have EK_22' := EK_21.out.next hb22
           have XK_22' := XK_21.out.next hb22
           have cXK_22 := XK_22'.cell
           have lXK_22 := XK_22'.lt
           have ET_22' := ET_21.out.next hb22
           have XT_22' := XT_21.out.next hb22
           have cXT_22 := XT_22'.cell
           have lXT_22 := XT_22'.lt
           have EO_22' := EO_21.out.next hb22
           have XO_22' := XO_21.out.next hb22
           have cXO_22 := XO_22'.cell
           have lXO_22 := XO_22'.lt
           have EW_22' := hr22
           have RX_22 := Lib.hid (RX_22'.next (Below.al w22 (.cells #[.int .i64 sg2, .int .i64 sz2, .slice bw m2 cw] 24)))
           have BL_22 := Lib.hid (Below.next BL_22' (Below.al w22 (.cells #[.int .i64 sg2, .int .i64 sz2, .slice bw m2 cw] 24)))
           have EH_22 := Lib.hid (EH_22'.next (Below.al w22 (.cells #[.int .i64 sg2, .int .i64 sz2, .slice bw m2 cw] 24)))
           have XH_22 := Lib.hid (XH_22'.next (Below.al w22 (.cells #[.int .i64 sg2, .int .i64 sz2, .slice bw m2 cw] 24)))
           have EK_22 := Lib.hid (EK_22'.next (Below.al w22 (.cells #[.int .i64 sg2, .int .i64 sz2, .slice bw m2 cw] 24)))
           have XK_22 := Lib.hid (XK_22'.next (Below.al w22 (.cells #[.int .i64 sg2, .int .i64 sz2, .slice bw m2 cw] 24)))
           have ET_22 := Lib.hid (ET_22'.next (Below.al w22 (.cells #[.int .i64 sg2, .int .i64 sz2, .slice bw m2 cw] 24)))
           have XT_22 := Lib.hid (XT_22'.next (Below.al w22 (.cells #[.int .i64 sg2, .int .i64 sz2, .slice bw m2 cw] 24)))
           have EO_22 := Lib.hid (EO_22'.next (Below.al w22 (.cells #[.int .i64 sg2, .int .i64 sz2, .slice bw m2 cw] 24)))
           have XO_22 := Lib.hid (XO_22'.next (Below.al w22 (.cells #[.int .i64 sg2, .int .i64 sz2, .slice bw m2 cw] 24)))
           have EW_22 := Lib.hid (EW_22'.next (Below.al w22 (.cells #[.int .i64 sg2, .int .i64 sz2, .slice bw m2 cw] 24)))
           have XW_22 := Lib.hid (Box.new w22 24 #[.int .i64 sg2, .int .i64 sz2, .slice bw m2 cw])
           clear hb22 RX_21 RX_22' BL_21 BL_22' EH_21 EH_22' XH_21 XH_22' cXH_21 lXH_21 EK_21 EK_22' XK_21 XK_22' cXK_21 lXK_21 ET_21 ET_22' XT_21 XT_22' cXT_21 lXT_21 EO_21 EO_22' XO_21 XO_22' hr22 EW_22')
        | (go_at_call 14
           refine (sameHint_eqL seg size _ _ _ _ m H _ Hm.out EH_22.out.rd EK_22.out.rd (by omega)).mono ?_
           rintro e w23 ⟨rfl, hb23⟩
           have z23 := hb23.size
           (try simp only [World.size_alloc] at z23)
           have RX_23' := RX_22.out.next hb23
           have BL_23' := Below.next BL_22.out hb23
           have EH_23' := EH_22.out.next hb23
           have XH_23' := XH_22.out.next hb23
           have cXH_23 := XH_23'.cell
           have lXH_23 := XH_23'.lt
           have EK_23' := EK_22.out.next hb23
           have XK_23' := XK_22.out.next hb23
           have cXK_23 := XK_23'.cell
           have lXK_23 := XK_23'.lt
           have ET_23' := ET_22.out.next hb23
           have XT_23' := XT_22.out.next hb23
           have cXT_23 := XT_23'.cell
           have lXT_23 := XT_23'.lt
           have EO_23' := EO_22.out.next hb23
           have XO_23' := XO_22.out.next hb23
           have cXO_23 := XO_23'.cell
           have lXO_23 := XO_23'.lt
           have EW_23' := EW_22.out.next hb23
           have XW_23' := XW_22.out.next hb23
           have cXW_23 := XW_23'.cell
           have lXW_23 := XW_23'.lt
           have RX_23 := Lib.hid RX_23'
           have BL_23 := Lib.hid BL_23'
           have EH_23 := Lib.hid EH_23'
           have XH_23 := Lib.hid XH_23'
           have EK_23 := Lib.hid EK_23'
           have XK_23 := Lib.hid XK_23'
           have ET_23 := Lib.hid ET_23'
           have XT_23 := Lib.hid XT_23'
           have EO_23 := Lib.hid EO_23'
           have XO_23 := Lib.hid XO_23'
           have EW_23 := Lib.hid EW_23'
           have XW_23 := Lib.hid XW_23'
           clear hb23 RX_22 RX_23' BL_22 BL_23' EH_22 EH_23' XH_22 XH_23' cXH_22 lXH_22 EK_22 EK_23' XK_22 XK_23' cXK_22 lXK_22 ET_22 ET_23' XT_22 XT_23' cXT_22 lXT_22 EO_22 EO_23' XO_22 XO_23' cXO_22 lXO_22 EW_22 EW_23' XW_22 XW_23')
        | (go_at_call 14
           refine (sameHint_eqL sg2 sz2 _ _ _ _ m2 H2 _ Hm2.out EO_23.out.rd EW_23.out.rd (by omega)).mono ?_
           rintro e w24 ⟨rfl, hb24⟩
           have z24 := hb24.size
           (try simp only [World.size_alloc] at z24)
           have RX_24' := RX_23.out.next hb24
           have BL_24' := Below.next BL_23.out hb24
           have EH_24' := EH_23.out.next hb24
           have XH_24' := XH_23.out.next hb24
           have cXH_24 := XH_24'.cell
           have lXH_24 := XH_24'.lt
           have EK_24' := EK_23.out.next hb24
           have XK_24' := XK_23.out.next hb24
           have cXK_24 := XK_24'.cell
           have lXK_24 := XK_24'.lt
           have ET_24' := ET_23.out.next hb24
           have XT_24' := XT_23.out.next hb24
           have cXT_24 := XT_24'.cell
           have lXT_24 := XT_24'.lt
           have EO_24' := EO_23.out.next hb24
           have XO_24' := XO_23.out.next hb24
           have cXO_24 := XO_24'.cell
           have lXO_24 := XO_24'.lt
           have EW_24' := EW_23.out.next hb24
           have XW_24' := XW_23.out.next hb24
           have cXW_24 := XW_24'.cell
           have lXW_24 := XW_24'.lt
           have RX_24 := Lib.hid RX_24'
           have BL_24 := Lib.hid BL_24'
           have EH_24 := Lib.hid EH_24'
           have XH_24 := Lib.hid XH_24'
           have EK_24 := Lib.hid EK_24'
           have XK_24 := Lib.hid XK_24'
           have ET_24 := Lib.hid ET_24'
           have XT_24 := Lib.hid XT_24'
           have EO_24 := Lib.hid EO_24'
           have XO_24 := Lib.hid XO_24'
           have EW_24 := Lib.hid EW_24'
           have XW_24 := Lib.hid XW_24'
           clear hb24 RX_23 RX_24' BL_23 BL_24' EH_23 EH_24' XH_23 XH_24' cXH_23 lXH_23 EK_23 EK_24' XK_23 XK_24' cXK_23 lXK_23 ET_23 ET_24' XT_23 XT_24' cXT_23 lXT_23 EO_23 EO_24' XO_23 XO_24' cXO_23 lXO_23 EW_23 EW_24' XW_23 XW_24' cXW_23 lXW_23))
      go_wp2_with (go_at_call 15
                   refine (spoil_any seg size w1.heap.size w2.heap.size m ch bh H _ EH_24.out (by omega) (by omega)).mono ?_
                   rintro e w40 ⟨rfl, hc40⟩
                   have z40 := hc40.size
                   have EK_40 := Lib.hid (EK_24.out.chg hc40 (by intro j h1 h2 h3; omega))
                   have ET_40 := Lib.hid (ET_24.out.chg hc40 (by intro j h1 h2 h3; omega))
                   have XK_40 := Lib.hid (XK_24.out.chg hc40 (by omega))
                   have cXK_40 := XK_40.out.cell
                   have lXK_40 := XK_40.out.lt
                   have XT_40 := Lib.hid (XT_24.out.chg hc40 (by omega))
                   have cXT_40 := XT_40.out.cell
                   have lXT_40 := XT_40.out.lt
                   have BL_40 := Lib.hid (BL_24.out.trans (hc40.below BL_24.out.size (fun j hj => by omega)))
                   clear hc40 RX_24 BL_24 EH_24 XH_24 EK_24 XK_24 ET_24 XT_24 EO_24 XO_24 EW_24 XW_24 cXH_24 lXH_24 cXK_24 lXK_24 cXT_24 lXT_24 cXO_24 lXO_24 cXW_24 lXW_24)
      go_wp2_with (first
        | (go_at_call 14
           refine (sameHint_eqL seg size _ _ _ _ m H _ Hm.out ET_40.out.rd EK_40.out.rd (by omega)).mono ?_
           rintro e w41 ⟨rfl, hb41⟩
           have z41 := hb41.size
           (try simp only [World.size_alloc] at z41)
           have EK_41' := EK_40.out.next hb41
           have ET_41' := ET_40.out.next hb41
           have XK_41' := XK_40.out.next hb41
           have cXK_41 := XK_41'.cell
           have lXK_41 := XK_41'.lt
           have XT_41' := XT_40.out.next hb41
           have cXT_41 := XT_41'.cell
           have lXT_41 := XT_41'.lt
           have BL_41' := Below.next BL_40.out hb41
           have EK_41 := Lib.hid EK_41'
           have ET_41 := Lib.hid ET_41'
           have XK_41 := Lib.hid XK_41'
           have XT_41 := Lib.hid XT_41'
           have BL_41 := Lib.hid BL_41'
           clear hb41 EK_40 EK_41' ET_40 ET_41' XK_40 XK_41' cXK_40 lXK_40 XT_40 XT_41' cXT_40 lXT_40 BL_40 BL_41')
        | (at_builtin
           have hbA : Below w.heap.size w (w41.alloc (.cells #[] 5)) := Below.next BL_41.out (Below.al _ _)
           refine wpList_app _ rfl (.tmp 113) (.tmp 114) _ rfl w41.heap.size 5 i0 _ 1 1 Try.underlying26 hi0 hz0 hs0 hy0 rfl (by omega) (.slice (some ⟨w41.heap.size, 0, none⟩) 0 0) 0 [] rfl (own_empty w41 _ _ _ (Nat.le_refl _)) _ A n c (bv bs) rfl (by rw [bv_len, Hn.out, Nat.mul_one]) (Hr.out _ hbA) (one_bv _) (by unfold maxLen; omega) (by omega) (by simp) ?_
           intro v1 w42 hown hg _
           rw [Nat.zero_add, List.nil_append] at hown
           obtain ⟨by_, cy, rfl⟩ := ownsRow_slice hown
           have hncy := ownsRow_cap hown
           have hcg : Chg (fun j => j = w41.heap.size) (w41.alloc (.cells #[] 5)) w42 := (Chg.of_grown hg).mono (fun j _ hj => by simp [Value.ownBlock] at hj; exact hj)
           have z42 := hcg.size
           rw [World.size_alloc] at z42
           have RY_42 := Lib.hid (BR.mk' hown)
           have BL_42 := Lib.hid (hbA.trans (hcg.below (by simp; omega) (fun j hj => by omega)))
           have EK_42 := Lib.hid ((EK_41.out.next (Below.al w41 (.cells #[] 5))).chg hcg (by intro j h1 h2 h3; omega))
           have XK_42 := Lib.hid ((XK_41.out.next (Below.al w41 (.cells #[] 5))).chg hcg (by omega))
           have cXK_42 := XK_42.out.cell
           have lXK_42 := XK_42.out.lt
           clear hown hg hcg hbA BL_41 EK_41 XK_41 XT_41 ET_41 cXK_41 lXK_41 cXT_41 lXT_41)
        | (go_at_call 12
           refine (octDecG HP.out by_ n cy m _ Hm.out RY_42.out.rd Hn.out hncy hmx).mono ?_
           rintro e w43 ⟨bg, cg, rfl, hr43, hb43⟩
           unfold hV
           have z43 := hb43.size
           (try simp only [World.size_alloc] at z43)
           (try rw [World.size_alloc] at hr43)
           have BL_43' := Below.next BL_42.out hb43
           have EK_43' := EK_42.out.next hb43
           have XK_43' := XK_42.out.next hb43
           have cXK_43 := XK_43'.cell
           have lXK_43 := XK_43'.lt
           have RY_43' := RY_42.out.next hb43
           have EG_43' := hr43
           have BL_43 := Lib.hid (Below.next BL_43' (Below.al w43 (.cells #[.int .i64 seg, .int .i64 size, .slice bg m cg] 24)))
           have EK_43 := Lib.hid (EK_43'.next (Below.al w43 (.cells #[.int .i64 seg, .int .i64 size, .slice bg m cg] 24)))
           have XK_43 := Lib.hid (XK_43'.next (Below.al w43 (.cells #[.int .i64 seg, .int .i64 size, .slice bg m cg] 24)))
           have RY_43 := Lib.hid (RY_43'.next (Below.al w43 (.cells #[.int .i64 seg, .int .i64 size, .slice bg m cg] 24)))
           have EG_43 := Lib.hid (EG_43'.next (Below.al w43 (.cells #[.int .i64 seg, .int .i64 size, .slice bg m cg] 24)))
           have XG_43 := Lib.hid (Box.new w43 24 #[.int .i64 seg, .int .i64 size, .slice bg m cg])
           clear hb43 BL_42 BL_43' EK_42 EK_43' XK_42 XK_43' cXK_42 lXK_42 RY_42 RY_43' hr43 EG_43')
        | (go_at_call 14
           refine (sameHint_eqL seg size _ _ _ _ m H _ Hm.out EG_43.out.rd EK_43.out.rd (by omega)).mono ?_
           rintro e w44 ⟨rfl, hb44⟩
           have z44 := hb44.size
           (try simp only [World.size_alloc] at z44)
           have BL_44' := Below.next BL_43.out hb44
           have EK_44' := EK_43.out.next hb44
           have XK_44' := XK_43.out.next hb44
           have cXK_44 := XK_44'.cell
           have lXK_44 := XK_44'.lt
           have RY_44' := RY_43.out.next hb44
           have EG_44' := EG_43.out.next hb44
           have XG_44' := XG_43.out.next hb44
           have cXG_44 := XG_44'.cell
           have lXG_44 := XG_44'.lt
           have BL_44 := Lib.hid BL_44'
           have EK_44 := Lib.hid EK_44'
           have XK_44 := Lib.hid XK_44'
           have RY_44 := Lib.hid RY_44'
           have EG_44 := Lib.hid EG_44'
           have XG_44 := Lib.hid XG_44'
           clear hb44 BL_43 BL_44' EK_43 EK_44' XK_43 XK_44' cXK_43 lXK_43 RY_43 RY_44' EG_43 EG_44' XG_43 XG_44'))
      go_ret
      exact ⟨rfl, BL_44.out⟩
end Go.Proofs.Ytifimeohdgnehaa
