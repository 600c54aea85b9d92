import Derived.Test.YtebeefkibbbkdaaQc
import Derived.Test.YtebeefkibbbkdaaQe
/- chronicleref3: Do: SyncDir. -/
namespace Go.Proofs.Ytebeefkibbbkdaa
open Go.RowKit Go.Maps

theorem RDk.settleD {w w1 : World} {L : Nat → Nat} {rb : Nat} {s : Dk} {u : Value} (h : RDk w L rb s) (hx : LnkM w L u s.seen) (hw1 : w1 = w.alloc (.cells #[u] 96)) : ∃ L', RDk (w1.setCell ⟨rb, 1, none⟩ (.slice (some ⟨w.heap.size, 0, none⟩) 1 1)) L' rb { s with safe := s.seen, dchs := [] } ∧ Ex w (w1.setCell ⟨rb, 1, none⟩ (.slice (some ⟨w.heap.size, 0, none⟩) 1 1)) L L' := by
  subst hw1
  obtain ⟨vF, uP, vD, uD, h⟩ := h
  obtain ⟨t1, t2⟩ := h.turnD (ds' := [s.seen]) (uD' := [u]) (vD' := .slice (some ⟨w.heap.size, 0, none⟩) 1 1) (Chg.of_below (Below.al w _) _) (row_one w u _) (fun b hb => by
    simp [Value.ownBlock] at hb
    subst hb
    exact .inr (Nat.le_refl _)) fun i l v hl hv => by
      cases i with
      | succ i => simp at hl
      | zero =>
        simp at hl hv
        subst hl hv
        exact hx
  refine ⟨_, ⟨vF, uP, .slice (some ⟨w.heap.size, 0, none⟩) 1 1, [u], ?_⟩, t2⟩
  rw [dirsL_sync (s := s) (s' := { s with safe := s.seen, dchs := [] }) rfl rfl]
  exact t1
set_option maxRecDepth 100000 in
set_option maxHeartbeats 16000000 in
theorem do5 (rb : Nat) (L : Nat → Nat) (s : Dk) (N n c : Nat) (nm nt : ByteArray) (x y : Int) (A : Option Addr) (bs : List UInt8) (w : World) (h : RDk w L rb s) (hi : s.Inv N) (hN : N ≤ 9999999) (hfm : s.files.length ≤ 9999999) (hz1 : nm.size ≤ maxLen) (hz2 : nt.size ≤ maxLen) (hn : bs.length = n) (hnm : n ≤ 1073741824) :
    Calls Try.prog 60 #[.pointer (some ⟨rb, 0, none⟩), .agg #[.int .i64 5, .string nm, .string nt, .int .i64 x, .int .i64 y, .slice A n c]] w fun e w' => e = .returned (.int .i64 (syncDirE s)) ∧ ∃ L', RDk w' L' rb (syncDirS s) ∧ Ex w w' L L' := by
  have h0 : L w.heap.size = 0 := Classical.byContradiction fun hne => by have := h.lt _ hne; omega
  have hM0 : MidR w (w.alloc (.cells #[.int .i64 5, .string nm, .string nt, .int .i64 x, .int .i64 y, .slice A n c] 111)) L L rb w.heap.size 111 #[.int .i64 5, .string nm, .string nt, .int .i64 x, .int .i64 y, .slice A n c] s := ⟨h.next (Below.al w _), Box.new w _ _, h0, Ex.below (Below.al w _) L⟩
  obtain ⟨vF, vD, hbx⟩ := h.box
  have hdd : (w.alloc (.cells #[.int .i64 5, .string nm, .string nt, .int .i64 x, .int .i64 y, .slice A n c] 111)).cell? ⟨rb, 4, none⟩ = some (.bool s.dead) := by
    obtain ⟨_, _, hb⟩ := hM0.rd.box
    exact hb.cell 4
  have M0 := Lib.hid hM0
  have H := Lib.hid (And.intro hi (And.intro hN (And.intro hfm (And.intro hz1 (And.intro hz2 (And.intro hn (And.intro hnm trivial)))))))
  clear h hi hN hfm hz1 hz2 hn hnm h0 hM0 hbx
  cases hdead : s.dead with
  | true =>
    have HE := Lib.hid (ref_dead (nm := nm) (nt := nt) (bs := bs) (y := y) hdead)
    rw [hdead] at hdd
    go_enter Try.func60, Try.ntmps60
    go_wp2
    go_ret
    rw [HE.out.2.2.2.2.2.2.2.2.1, HE.out.2.2.2.2.2.2.2.2.2.1]
    exact ⟨rfl, L, M0.out.rd, M0.out.ex⟩
  | false =>
    rw [hdead] at hdd
    have HR := Lib.hid (show refE 5 nm nt y bs s = 0 from if_pos rfl)
    by_cases hfu : s.fuse = 0
    case pos =>
      have HP := Lib.hid (show syncDirE s = 34 ∧ syncDirS s = spendS s by exact ⟨by unfold syncDirE; rw [hdead, if_neg (by decide)]; exact if_pos hfu, by unfold syncDirS; rw [hdead, if_neg (by decide), if_pos hfu]⟩)
      have HFU := Lib.hid (show decide (s.fuse = 0) = true from decide_eq_true hfu)
      clear hfu
      go_enter Try.func60, Try.ntmps60
      go_wp2_with (first
        | (go_at_call 90
           refine (refusal5 rb L s N n c nm nt x y A bs _ M0.out.rd H.out.1 (by have := H.out.2.1; omega) (by have := H.out.2.2.1; omega) H.out.2.2.2.1 H.out.2.2.2.2.1 H.out.2.2.2.2.2.1).mono ?_
           rintro e w1 ⟨rfl, hb1⟩
           rw [HR.out]
           have M1 := Lib.hid (M0.out.next hb1)
           clear hb1 hdd)
        | (go_at_call 91
           refine (burnsR_any rb L s N _ M1.out.rd H.out.1.rg (by have := H.out.2.1; omega)).mono ?_
           rintro e w2 ⟨rfl, h2, x2⟩
           rw [HFU.out]
           have hxc := (M1.out.step h2 x2).bx.cell
           have M2 := Lib.hid (M1.out.step h2 x2)
           clear h2 x2))
      go_ret
      rw [HP.out.1, HP.out.2]
      exact ⟨rfl, L, M2.out.rd, M2.out.ex⟩
    case neg =>
      have HFU := Lib.hid (show decide (s.fuse = 0) = false from decide_eq_false hfu)
      have HP := Lib.hid (show syncDirE s = 0 ∧ syncDirS s = { spendS s with safe := s.seen, dchs := [] } from ⟨by unfold syncDirE; rw [hdead, if_neg (by decide)]; exact if_neg hfu, by unfold syncDirS; rw [hdead, if_neg (by decide), if_neg hfu]⟩)
      obtain ⟨lv, hlv⟩ : ∃ lv, leadW nm (spendS s).seen = lv := ⟨_, rfl⟩
      have HL := Lib.hid hlv
      clear hlv hfu
      go_enter Try.func60, Try.ntmps60
      go_wp2_with (first
        | (go_at_call 90
           refine (refusal5 rb L s N n c nm nt x y A bs _ M0.out.rd H.out.1 (by have := H.out.2.1; omega) (by have := H.out.2.2.1; omega) H.out.2.2.2.1 H.out.2.2.2.2.1 H.out.2.2.2.2.2.1).mono ?_
           rintro e w1 ⟨rfl, hb1⟩
           rw [HR.out]
           have M1 := Lib.hid (M0.out.next hb1)
           clear hb1 hdd)
        | (go_at_call 91
           refine (burnsR_any rb L s N _ M1.out.rd H.out.1.rg (by have := H.out.2.1; omega)).mono ?_
           rintro e w2 ⟨rfl, h2, x2⟩
           rw [HFU.out]
           have hxc := (M1.out.step h2 x2).bx.cell
           have M2 := Lib.hid (M1.out.step h2 x2)
           clear h2 x2)
        | (go_at_call 92
           refine (findD_any nm M2.out.rd H.out.1.spend (by have := H.out.2.1; omega)).mono ?_
           rintro e w3 ⟨rfl, k3, hw3⟩
           rw [HL.out]
           have hM3 : MidR w w3 L L rb w.heap.size 111 #[.int .i64 5, .string nm, .string nt, .int .i64 x, .int .i64 y, .slice A n c] (spendS s) := M2.out.next (by rw [hw3]; exact below_drewN (Below.refl _ _) k3)
           have hxc := hM3.bx.cell
           have M3 := Lib.hid hM3
           clear hw3 hM3)
        | (go_at_call 85
           refine (seenD_any M3.out.rd (H.out.1.spend.dl (by have := H.out.2.1; omega))).mono ?_
           rintro e w4 ⟨x4, c4, rfl, hN4, k4, hw4⟩
           obtain ⟨m4, hm4⟩ : ∃ m4, (spendS s).seen.length = m4 := ⟨_, rfl⟩
           rw [hm4] at hN4 ⊢
           have hb4 : Below w3.heap.size w3 w4 := by rw [hw4]; exact below_drewN (Below.refl _ _) k4
           have hM4 := M3.out.next hb4
           obtain ⟨vF4, vD4, hB4⟩ := hM4.rd.box
           have hc1 := hB4.cell 1
           have hf1 := hB4.free 1
           have hl1 := hB4.lt
           have hn4 : LnkM w4 L (.slice x4 m4 c4) (spendS s).seen := ⟨row_next hN4.1 hb4, hN4.2⟩
           have M4 := Lib.hid (And.intro hM4 hn4)
           clear hw4 hN4 hm4 hb4 hM4 hn4 hB4))
      go_ret
      rw [HP.out.1, HP.out.2]
      obtain ⟨L5, g1, g2⟩ := M4.out.1.rd.settleD M4.out.2 rfl
      rw [World.setCell_alloc_past _ _ _ _ hl1] at g1 g2
      refine ⟨rfl, L5, g1.congr rfl ?_ rfl rfl rfl rfl rfl, M4.out.1.ex.trans g2⟩
      show s.seen = (spendS s).seen
      exact (spend_seen s).symm
end Go.Proofs.Ytebeefkibbbkdaa
/- chronicleref3: Do: Remove, Rename. -/
namespace Go.Proofs.Ytebeefkibbbkdaa
open Go.RowKit Go.Maps

set_option maxRecDepth 100000 in
set_option maxHeartbeats 16000000 in
theorem do7 (rb : Nat) (L : Nat → Nat) (s : Dk) (N n c : Nat) (nm nt : ByteArray) (x y : Int) (A : Option Addr) (bs : List UInt8) (w : World) (h : RDk w L rb s) (hi : s.Inv N) (hN : N ≤ 9999999) (hfm : s.files.length ≤ 9999999) (hz1 : nm.size ≤ maxLen) (hz2 : nt.size ≤ maxLen) (hn : bs.length = n) (hnm : n ≤ 1073741824) :
    Calls Try.prog 60 #[.pointer (some ⟨rb, 0, none⟩), .agg #[.int .i64 7, .string nm, .string nt, .int .i64 x, .int .i64 y, .slice A n c]] w fun e w' => e = .returned (.int .i64 (removeE nm s)) ∧ ∃ L', RDk w' L' rb (removeS nm s) ∧ Ex w w' L L' := by
  have h0 : L w.heap.size = 0 := Classical.byContradiction fun hne => by have := h.lt _ hne; omega
  have hM0 : MidR w (w.alloc (.cells #[.int .i64 7, .string nm, .string nt, .int .i64 x, .int .i64 y, .slice A n c] 111)) L L rb w.heap.size 111 #[.int .i64 7, .string nm, .string nt, .int .i64 x, .int .i64 y, .slice A n c] s := ⟨h.next (Below.al w _), Box.new w _ _, h0, Ex.below (Below.al w _) L⟩
  obtain ⟨vF, vD, hbx⟩ := h.box
  have hdd : (w.alloc (.cells #[.int .i64 7, .string nm, .string nt, .int .i64 x, .int .i64 y, .slice A n c] 111)).cell? ⟨rb, 4, none⟩ = some (.bool s.dead) := by
    obtain ⟨_, _, hb⟩ := hM0.rd.box
    exact hb.cell 4
  have M0 := Lib.hid hM0
  have H := Lib.hid (And.intro hi (And.intro hN (And.intro hfm (And.intro hz1 (And.intro hz2 (And.intro hn (And.intro hnm trivial)))))))
  clear h hi hN hfm hz1 hz2 hn hnm h0 hM0 hbx
  cases hdead : s.dead with
  | true =>
    have HE := Lib.hid (ref_dead (nm := nm) (nt := nt) (bs := bs) (y := y) hdead)
    rw [hdead] at hdd
    go_enter Try.func60, Try.ntmps60
    go_wp2
    go_ret
    rw [HE.out.2.2.2.2.2.2.2.2.2.2.2.2.1, HE.out.2.2.2.2.2.2.2.2.2.2.2.2.2]
    exact ⟨rfl, L, M0.out.rd, M0.out.ex⟩
  | false =>
    rw [hdead] at hdd
    by_cases hre : refE 7 nm nt y bs s = 0
    case neg =>
      obtain ⟨er, her⟩ : ∃ er, refE 7 nm nt y bs s = er := ⟨_, rfl⟩
      have hp := ref7 hdead hre
      rw [her] at hp hre
      have HP := Lib.hid hp
      have HR := Lib.hid her
      have hern : (er == 0) = false := by simpa using hre
      clear her hp
      go_enter Try.func60, Try.ntmps60
      go_wp2_with (first
        | (go_at_call 90
           refine (refusal7 rb L s N n c nm nt x y A bs _ M0.out.rd H.out.1 (by have := H.out.2.1; omega) (by have := H.out.2.2.1; omega) H.out.2.2.2.1 H.out.2.2.2.2.1 H.out.2.2.2.2.2.1).mono ?_
           rintro e w1 ⟨rfl, hb1⟩
           rw [HR.out]
           have M1 := Lib.hid (M0.out.next hb1)
           clear hb1 hdd))
      go_ret
      rw [HP.out.1, HP.out.2]
      exact ⟨rfl, L, M1.out.rd, M1.out.ex⟩
    case pos =>
      obtain ⟨f, hget, hE, hS⟩ := ok7 hdead hre
      have hlt : f < s.files.length := H.out.1.seen_ids _ ((get_mem H.out.1.sorted).1 hget)
      have HR := Lib.hid hre
      have HG := Lib.hid (And.intro hget hlt)
      have HL := Lib.hid (show leadW nm (spendS s).seen = (f : Nat) by rw [spend_seen]; exact leadW_some H.out.1.sorted hget)
      have hf0 : (0 : Int) ≤ f := by omega
      clear hget hlt hre
      by_cases hfu : s.fuse = 0
      case pos =>
        have HP := Lib.hid (show removeE nm s = 34 ∧ removeS nm s = spendS s by rw [hE, hS, if_pos hfu]; exact ⟨if_pos hfu, rfl⟩)
        have HFU := Lib.hid (show decide (s.fuse = 0) = true from decide_eq_true hfu)
        clear hfu hE hS
        go_enter Try.func60, Try.ntmps60
        go_wp2_with (first
          | (go_at_call 90
             refine (refusal7 rb L s N n c nm nt x y A bs _ M0.out.rd H.out.1 (by have := H.out.2.1; omega) (by have := H.out.2.2.1; omega) H.out.2.2.2.1 H.out.2.2.2.2.1 H.out.2.2.2.2.2.1).mono ?_
             rintro e w1 ⟨rfl, hb1⟩
             rw [HR.out]
             have M1 := Lib.hid (M0.out.next hb1)
             clear hb1 hdd)
          | (go_at_call 91
             refine (burnsR_any rb L s N _ M1.out.rd H.out.1.rg (by have := H.out.2.1; omega)).mono ?_
             rintro e w2 ⟨rfl, h2, x2⟩
             rw [HFU.out]
             have hxc := (M1.out.step h2 x2).bx.cell
             have M2 := Lib.hid (M1.out.step h2 x2)
             clear h2 x2))
        go_ret
        rw [HP.out.1, HP.out.2]
        exact ⟨rfl, L, M2.out.rd, M2.out.ex⟩
      case neg =>
        have HFU := Lib.hid (show decide (s.fuse = 0) = false from decide_eq_false hfu)
        have HP := Lib.hid (show removeE nm s = 0 ∧ removeS nm s = { spendS s with dchs := s.dchs ++ [.inr (.inr nm)], used := s.used - lenOf s nm } by rw [hE, hS, if_neg hfu]; exact ⟨if_neg hfu, rfl⟩)
        clear hE hS hfu
        go_enter Try.func60, Try.ntmps60
        go_upto_region 33 with (first
          | (go_at_call 90
             refine (refusal7 rb L s N n c nm nt x y A bs _ M0.out.rd H.out.1 (by have := H.out.2.1; omega) (by have := H.out.2.2.1; omega) H.out.2.2.2.1 H.out.2.2.2.2.1 H.out.2.2.2.2.2.1).mono ?_
             rintro e w1 ⟨rfl, hb1⟩
             rw [HR.out]
             have M1 := Lib.hid (M0.out.next hb1)
             clear hb1 hdd)
          | (go_at_call 91
             refine (burnsR_any rb L s N _ M1.out.rd H.out.1.rg (by have := H.out.2.1; omega)).mono ?_
             rintro e w2 ⟨rfl, h2, x2⟩
             rw [HFU.out]
             have hxc := (M1.out.step h2 x2).bx.cell
             have M2 := Lib.hid (M1.out.step h2 x2)
             clear h2 x2)
          | (go_at_call 92
             refine (findD_any nm M2.out.rd H.out.1.spend (by have := H.out.2.1; omega)).mono ?_
             rintro e w3 ⟨rfl, k3, hw3⟩
             rw [HL.out]
             have hM3 : MidR w w3 L L rb w.heap.size 111 #[.int .i64 7, .string nm, .string nt, .int .i64 x, .int .i64 y, .slice A n c] (spendS s) := M2.out.next (by rw [hw3]; exact below_drewN (Below.refl _ _) k3)
             have hxc := hM3.bx.cell
             have M3 := Lib.hid hM3
             clear hw3 hM3))
        have hs3 := M3.out.bx.cell 1
        have hs3d : w3.drew.cell? ⟨w.heap.size, 1, none⟩ = some (.string nm) := hs3
        have T5 := trivial
        go_region_held3 (fun w' => w'.cell? ⟨w.heap.size, 1, none⟩ = some (.string nm))
          (first | with_reducible exact hs3 | with_reducible exact hs3d | with_reducible exact hs4 | with_reducible exact hs5)
          (first
            | (go_at_call 85
               refine (seenD_any (M3.out.rd.next (below_drew (Below.refl _ _))) (by rw [(spend_fields s).2.2.1]; exact H.out.1.dl (by have := H.out.2.1; omega))).mono ?_
               rintro e w4 ⟨x4, c4, rfl, hN4, k4, hw4⟩
               rw [spend_seen] at hN4 ⊢
               obtain ⟨m4, hm4⟩ : ∃ m4, s.seen.length = m4 := ⟨_, rfl⟩
               rw [hm4] at hN4 ⊢
               have hb4 : Below w3.heap.size w3 w4 := by rw [hw4]; exact below_drewN (below_drew (Below.refl _ _)) k4
               have hM4 := M3.out.next hb4
               have hs4 : w4.cell? ⟨w.heap.size, 1, none⟩ = some (.string nm) := hM4.bx.cell 1
               have hr4 := rdK_own (l := s.seen) (c := c4) (b := x4) (w := w4) (B := 0) (by have := row_next hN4.1 (below_drewN (Below.refl _ _) k4); rw [hm4] at this ⊢; rw [hw4]; exact this)
               have hm4m : m4 ≤ 99999999 := by
                 have := seen_lenq H.out.1
                 have := H.out.2.1
                 omega
               have M4 := Lib.hid (And.intro hM4 (And.intro hr4 hm4))
               clear hw4 hN4 hm4 hb4 hM4 hr4)
            | (go_at_call 96
               have z5 := T5
               clear z5
               refine (withoutR3_any x4 m4 c4 s.seen nm _ M4.out.2.1 M4.out.2.2 (by omega)).mono ?_
               rintro e w5 ⟨x5, c5, rfl, hr5, hb5⟩
               obtain ⟨m5, hm5⟩ : ∃ m, (leftP nm s.seen).length = m := ⟨_, rfl⟩
               have hm5m : m5 ≤ m4 := by rw [← hm5, ← M4.out.2.2]; exact leftP_lenq _ _
               rw [hm5] at hr5 ⊢
               have hM5 := M4.out.1.next hb5
               have hs5 : w5.cell? ⟨w.heap.size, 1, none⟩ = some (.string nm) := hM5.bx.cell 1
               have hxc5 := hM5.bx.cell
               have M5 := Lib.hid (And.intro hM5 (And.intro hr5 (And.intro hm5 hb5)))
               clear hM5 hr5 hm5 hb5 T5))
        go_wp2_with (first
          | (go_at_call 94
             obtain ⟨g1, g2, g3, g4⟩ := M4.out.1.rd.row (a := 6) M5.out.2.2.2 M5.out.2.1 (by decide)
             have ht := turnD_any (.inr (.inr nm)) (leftP nm s.seen) x5 c5 g1 (by rw [spend_seen]; exact leftP_del nm H.out.1.sorted) (by rw [(spend_fields s).2.2.1]; have := H.out.1.dl (by have := H.out.2.1; omega); omega) ⟨by rw [M5.out.2.2.1]; exact g2, by rw [M5.out.2.2.1]; exact g3⟩
             rw [M5.out.2.2.1] at ht
             refine ht.mono ?_
             rintro e w6 ⟨rfl, L6, h1, h2⟩
             have M6 := Lib.hid (And.intro h1 (M4.out.1.ex.trans (g4.trans h2)))
             clear h1 h2 g1 g2 g3 g4 ht))
        go_ret
        rw [HP.out.1, HP.out.2]
        refine ⟨rfl, L6, M6.out.1.congr rfl rfl ?_ rfl rfl rfl rfl, M6.out.2⟩
        show s.dchs ++ _ = (spendS s).dchs ++ _
        rw [(spend_fields s).2.2.1]
set_option maxRecDepth 100000 in
set_option maxHeartbeats 16000000 in
theorem do6 (rb : Nat) (L : Nat → Nat) (s : Dk) (N n c : Nat) (nm nt : ByteArray) (x y : Int) (A : Option Addr) (bs : List UInt8) (w : World) (h : RDk w L rb s) (hi : s.Inv N) (hN : N ≤ 9999999) (hfm : s.files.length ≤ 9999999) (hz1 : nm.size ≤ maxLen) (hz2 : nt.size ≤ maxLen) (hn : bs.length = n) (hnm : n ≤ 1073741824) :
    Calls Try.prog 60 #[.pointer (some ⟨rb, 0, none⟩), .agg #[.int .i64 6, .string nm, .string nt, .int .i64 x, .int .i64 y, .slice A n c]] w fun e w' => e = .returned (.int .i64 (renameE nm nt s)) ∧ ∃ L', RDk w' L' rb (renameS nm nt s) ∧ Ex w w' L L' := by
  have h0 : L w.heap.size = 0 := Classical.byContradiction fun hne => by have := h.lt _ hne; omega
  have hM0 : MidR w (w.alloc (.cells #[.int .i64 6, .string nm, .string nt, .int .i64 x, .int .i64 y, .slice A n c] 111)) L L rb w.heap.size 111 #[.int .i64 6, .string nm, .string nt, .int .i64 x, .int .i64 y, .slice A n c] s := ⟨h.next (Below.al w _), Box.new w _ _, h0, Ex.below (Below.al w _) L⟩
  obtain ⟨vF, vD, hbx⟩ := h.box
  have hdd : (w.alloc (.cells #[.int .i64 6, .string nm, .string nt, .int .i64 x, .int .i64 y, .slice A n c] 111)).cell? ⟨rb, 4, none⟩ = some (.bool s.dead) := by
    obtain ⟨_, _, hb⟩ := hM0.rd.box
    exact hb.cell 4
  have M0 := Lib.hid hM0
  have H := Lib.hid (And.intro hi (And.intro hN (And.intro hfm (And.intro hz1 (And.intro hz2 (And.intro hn (And.intro hnm trivial)))))))
  clear h hi hN hfm hz1 hz2 hn hnm h0 hM0 hbx
  cases hdead : s.dead with
  | true =>
    have HE := Lib.hid (ref_dead (nm := nm) (nt := nt) (bs := bs) (y := y) hdead)
    rw [hdead] at hdd
    go_enter Try.func60, Try.ntmps60
    go_wp2
    go_ret
    rw [HE.out.2.2.2.2.2.2.2.2.2.2.1, HE.out.2.2.2.2.2.2.2.2.2.2.2.1]
    exact ⟨rfl, L, M0.out.rd, M0.out.ex⟩
  | false =>
    rw [hdead] at hdd
    by_cases hre : refE 6 nm nt y bs s = 0
    case neg =>
      obtain ⟨er, her⟩ : ∃ er, refE 6 nm nt y bs s = er := ⟨_, rfl⟩
      have hp := ref6 hdead hre
      rw [her] at hp hre
      have HP := Lib.hid hp
      have HR := Lib.hid her
      have hern : (er == 0) = false := by simpa using hre
      clear her hp
      go_enter Try.func60, Try.ntmps60
      go_wp2_with (first
        | (go_at_call 90
           refine (refusal6 rb L s N n c nm nt x y A bs _ M0.out.rd H.out.1 (by have := H.out.2.1; omega) (by have := H.out.2.2.1; omega) H.out.2.2.2.1 H.out.2.2.2.2.1 H.out.2.2.2.2.2.1).mono ?_
           rintro e w1 ⟨rfl, hb1⟩
           rw [HR.out]
           have M1 := Lib.hid (M0.out.next hb1)
           clear hb1 hdd))
      go_ret
      rw [HP.out.1, HP.out.2]
      exact ⟨rfl, L, M1.out.rd, M1.out.ex⟩
    case pos =>
      obtain ⟨f, hget, hne, hE, hS⟩ := ok6 hdead hre
      have hlt : f < s.files.length := H.out.1.seen_ids _ ((get_mem H.out.1.sorted).1 hget)
      have HR := Lib.hid hre
      have HG := Lib.hid (And.intro hget hlt)
      have HL := Lib.hid (show leadW nm (spendS s).seen = (f : Nat) by rw [spend_seen]; exact leadW_some H.out.1.sorted hget)
      have hf0 : (0 : Int) ≤ f := by omega
      clear hget hlt hre
      by_cases hfu : s.fuse = 0
      case pos =>
        have HP := Lib.hid (show renameE nm nt s = 34 ∧ renameS nm nt s = spendS s by rw [hE, hS, if_pos hfu]; exact ⟨if_pos hfu, rfl⟩)
        have HFU := Lib.hid (show decide (s.fuse = 0) = true from decide_eq_true hfu)
        clear hfu hE hS
        go_enter Try.func60, Try.ntmps60
        go_wp2_with (first
          | (go_at_call 90
             refine (refusal6 rb L s N n c nm nt x y A bs _ M0.out.rd H.out.1 (by have := H.out.2.1; omega) (by have := H.out.2.2.1; omega) H.out.2.2.2.1 H.out.2.2.2.2.1 H.out.2.2.2.2.2.1).mono ?_
             rintro e w1 ⟨rfl, hb1⟩
             rw [HR.out]
             have M1 := Lib.hid (M0.out.next hb1)
             clear hb1 hdd)
          | (go_at_call 91
             refine (burnsR_any rb L s N _ M1.out.rd H.out.1.rg (by have := H.out.2.1; omega)).mono ?_
             rintro e w2 ⟨rfl, h2, x2⟩
             rw [HFU.out]
             have hxc := (M1.out.step h2 x2).bx.cell
             have M2 := Lib.hid (M1.out.step h2 x2)
             clear h2 x2))
        go_ret
        rw [HP.out.1, HP.out.2]
        exact ⟨rfl, L, M2.out.rd, M2.out.ex⟩
      case neg =>
        have HFU := Lib.hid (show decide (s.fuse = 0) = false from decide_eq_false hfu)
        have HP := Lib.hid (show renameE nm nt s = 0 ∧ renameS nm nt s = { spendS s with dchs := s.dchs ++ [.inr (.inl (nm, nt))], used := s.used - lenOf s nt } by rw [hE, hS, if_neg hfu]; exact ⟨if_neg hfu, rfl⟩)
        clear hE hS hfu
        go_enter Try.func60, Try.ntmps60
        go_upto_region 28 with (first
          | (go_at_call 90
             refine (refusal6 rb L s N n c nm nt x y A bs _ M0.out.rd H.out.1 (by have := H.out.2.1; omega) (by have := H.out.2.2.1; omega) H.out.2.2.2.1 H.out.2.2.2.2.1 H.out.2.2.2.2.2.1).mono ?_
             rintro e w1 ⟨rfl, hb1⟩
             rw [HR.out]
             have M1 := Lib.hid (M0.out.next hb1)
             clear hb1 hdd)
          | (go_at_call 91
             refine (burnsR_any rb L s N _ M1.out.rd H.out.1.rg (by have := H.out.2.1; omega)).mono ?_
             rintro e w2 ⟨rfl, h2, x2⟩
             rw [HFU.out]
             have hxc := (M1.out.step h2 x2).bx.cell
             have M2 := Lib.hid (M1.out.step h2 x2)
             clear h2 x2)
          | (go_at_call 92
             refine (findD_any nm M2.out.rd H.out.1.spend (by have := H.out.2.1; omega)).mono ?_
             rintro e w3 ⟨rfl, k3, hw3⟩
             rw [HL.out]
             have hM3 : MidR w w3 L L rb w.heap.size 111 #[.int .i64 6, .string nm, .string nt, .int .i64 x, .int .i64 y, .slice A n c] (spendS s) := M2.out.next (by rw [hw3]; exact below_drewN (Below.refl _ _) k3)
             have hxc := hM3.bx.cell
             have M3 := Lib.hid hM3
             clear hw3 hM3))
        have hs3 := M3.out.bx.cell 1
        have hs3d : w3.drew.cell? ⟨w.heap.size, 1, none⟩ = some (.string nm) := hs3
        have HNE := Lib.hid hne
        clear hne
        have T5 := trivial
        go_region_held3 (fun w' => w'.cell? ⟨w.heap.size, 1, none⟩ = some (.string nm))
          (first | with_reducible exact hs3 | with_reducible exact hs3d | with_reducible exact hs4 | with_reducible exact hs5)
          (first
            | (go_at_call 85
               refine (seenD_any (M3.out.rd.next (below_drew (Below.refl _ _))) (by rw [(spend_fields s).2.2.1]; exact H.out.1.dl (by have := H.out.2.1; omega))).mono ?_
               rintro e w4 ⟨x4, c4, rfl, hN4, k4, hw4⟩
               rw [spend_seen] at hN4 ⊢
               obtain ⟨m4, hm4⟩ : ∃ m4, s.seen.length = m4 := ⟨_, rfl⟩
               rw [hm4] at hN4 ⊢
               have hb4 : Below w3.heap.size w3 w4 := by rw [hw4]; exact below_drewN (below_drew (Below.refl _ _)) k4
               have hM4 := M3.out.next hb4
               have hs4 : w4.cell? ⟨w.heap.size, 1, none⟩ = some (.string nm) := hM4.bx.cell 1
               have hr4 := rdK_own (l := s.seen) (c := c4) (b := x4) (w := w4) (B := 0) (by have := row_next hN4.1 (below_drewN (Below.refl _ _) k4); rw [hm4] at this ⊢; rw [hw4]; exact this)
               have hm4m : m4 ≤ 99999999 := by
                 have := seen_lenq H.out.1
                 have := H.out.2.1
                 omega
               have M4 := Lib.hid (And.intro hM4 (And.intro hr4 hm4))
               clear hw4 hN4 hm4 hb4 hM4 hr4)
            | (go_at_call 96
               have z5 := T5
               clear z5
               refine (withoutR3_any x4 m4 c4 s.seen nm _ M4.out.2.1 M4.out.2.2 (by omega)).mono ?_
               rintro e w5 ⟨x5, c5, rfl, hr5, hb5⟩
               obtain ⟨m5, hm5⟩ : ∃ m, (leftP nm s.seen).length = m := ⟨_, rfl⟩
               have hm5m : m5 ≤ m4 := by rw [← hm5, ← M4.out.2.2]; exact leftP_lenq _ _
               rw [hm5] at hr5 ⊢
               have hM5 := M4.out.1.next hb5
               have hs5 : w5.cell? ⟨w.heap.size, 1, none⟩ = some (.string nm) := hM5.bx.cell 1
               have hxc5 := hM5.bx.cell
               have M5 := Lib.hid (And.intro hM5 (And.intro hr5 (And.intro hm5 hb5)))
               clear hM5 hr5 hm5 hb5 T5))
        go_wp2_with (first
          | (go_at_call 96
             refine (withoutR3_any x5 m5 c5 (leftP nm s.seen) nt _ (rdK_own (by rw [M5.out.2.2.1]; exact M5.out.2.1)) M5.out.2.2.1 (by omega)).mono ?_
             rintro e w6 ⟨x6, c6, rfl, hr6, hb6⟩
             obtain ⟨m6, hm6⟩ : ∃ m, (leftP nt (leftP nm s.seen)).length = m := ⟨_, rfl⟩
             have hm6m : m6 ≤ m5 := by rw [← hm6, ← M5.out.2.2.1]; exact leftP_lenq _ _
             rw [hm6] at hr6 ⊢
             have hxc := (M5.out.1.next hb6).bx.cell
             have M6 := Lib.hid (And.intro (M5.out.1.next hb6) (And.intro hr6 hm6))
             clear hr6 hm6 hb6 hxc5)
          | (go_at_call 93
             refine (withR3_any x6 m6 c6 f (leftP nt (leftP nm s.seen)) nt _ (rdK_own (by rw [M6.out.2.2]; exact M6.out.2.1)) M6.out.2.2 ((H.out.1.sorted.filter _).filter _) (fun p hp => by have := (List.mem_filter.1 hp).2; simpa using this) (by omega)).mono ?_
             rintro e w7 ⟨x7, c7, rfl, hr7, hb7⟩
             obtain ⟨g1, g2, g3, g4⟩ := M6.out.1.rd.row (a := 6) hb7 hr7 (by decide)
             have M7 := Lib.hid (And.intro (M6.out.1.step g1 g4) (And.intro g2 g3))
             obtain ⟨m7, hm7⟩ : ∃ m, (putL nt f (leftP nt (leftP nm s.seen))).length = m := ⟨_, rfl⟩
             have HM7 := Lib.hid hm7
             rw [hm7]
             clear hr7 hb7 g1 g2 g3 g4 hm7)
          | (go_at_call 94
             have ht := turnD_any (.inr (.inl (nm, nt))) (putL nt f (leftP nt (leftP nm s.seen))) x7 c7 M7.out.1.rd (by rw [spend_seen]; exact ren_ref H.out.1.sorted HNE.out HG.out.1) (by rw [(spend_fields s).2.2.1]; have := H.out.1.dl (by have := H.out.2.1; omega); omega) M7.out.2
             rw [HM7.out] at ht
             refine ht.mono ?_
             rintro e w8 ⟨rfl, L8, h1, h2⟩
             have hx7 := M7.out.1.ex
             rw [HM7.out] at hx7
             have M8 := Lib.hid (And.intro h1 (hx7.trans h2))
             clear h1 h2 ht hx7))
        go_ret
        rw [HP.out.1, HP.out.2]
        refine ⟨rfl, L8, M8.out.1.congr rfl rfl ?_ rfl rfl rfl rfl, M8.out.2⟩
        show s.dchs ++ _ = (spendS s).dchs ++ _
        rw [(spend_fields s).2.2.1]
end Go.Proofs.Ytebeefkibbbkdaa
/- chronicleref3: Do: Create. -/
namespace Go.Proofs.Ytebeefkibbbkdaa
open Go.RowKit Go.Maps

theorem RDk.growF {w w7 : World} {L : Nat → Nat} {rb n : Nat} {s : Dk} {vF vD v7 : Value} {uP : List (Value × Value)} {uD : List Value} (h : RM w L rb vF uP vD uD (s.files.map vers) (s.files.map grow) (dirsL s) s.quota s.fuse s.ops s.dead) (hn : s.files.length = n)
    (hg : (((w.alloc (.cells #[.slice none 0 0] 22)).alloc (.cells #[.int .i64 (-1)] 3)).alloc (.cells #[.slice (some ⟨w.heap.size, 0, none⟩) 1 1, .slice (some ⟨w.heap.size + 1, 0, none⟩) 1 1] 103)).grownBy w7 vF.ownBlock)
    (hr7 : w7.ownsRow 0 103 2 v7 (n + 1) (uP.flatMap pcell ++ [.slice (some ⟨w.heap.size, 0, none⟩) 1 1, .slice (some ⟨w.heap.size + 1, 0, none⟩) 1 1]))
    (hor : v7.ownBlock = vF.ownBlock ∨ v7.ownBlock = some (w.heap.size + 3)) :
    ∃ L', RDk (w7.setCell ⟨rb, 0, none⟩ v7) L' rb { s with files := s.files ++ [Fl.new] } ∧ Ex w (w7.setCell ⟨rb, 0, none⟩ v7) L L' ∧ (w7.setCell ⟨rb, 0, none⟩ v7).cell? ⟨rb, 0, none⟩ = some v7 := by
  obtain ⟨L', h1, h2⟩ := h.addF (y := []) (bval := .slice none 0 0) ⟨nil_own _ _ _ _, fun b hb => by cases hb⟩ hg (by rw [List.length_map, hn]; exact hr7) hor
  refine ⟨L', ⟨v7, uP ++ [(.slice (some ⟨w.heap.size, 0, none⟩) 1 1, .slice (some ⟨w.heap.size + 1, 0, none⟩) 1 1)], vD, uD, ?_⟩, h2, h1.box.cell 0⟩
  rw [List.map_append, List.map_append]
  exact h1
set_option maxRecDepth 100000 in
set_option maxHeartbeats 16000000 in
theorem do1 (rb : Nat) (L : Nat → Nat) (s : Dk) (N n c : Nat) (nm nt : ByteArray) (x y : Int) (A : Option Addr) (bs : List UInt8) (w : World) (h : RDk w L rb s) (hi : s.Inv N) (hN : N ≤ 9999999) (hfm : s.files.length ≤ 9999999) (hz1 : nm.size ≤ maxLen) (hz2 : nt.size ≤ maxLen) (hn : bs.length = n) (hnm : n ≤ 1073741824) :
    Calls Try.prog 60 #[.pointer (some ⟨rb, 0, none⟩), .agg #[.int .i64 1, .string nm, .string nt, .int .i64 x, .int .i64 y, .slice A n c]] w fun e w' => e = .returned (.int .i64 (createE nm s)) ∧ ∃ L', RDk w' L' rb (createS nm s) ∧ Ex w w' L L' := by
  have h0 : L w.heap.size = 0 := Classical.byContradiction fun hne => by have := h.lt _ hne; omega
  have hM0 : MidR w (w.alloc (.cells #[.int .i64 1, .string nm, .string nt, .int .i64 x, .int .i64 y, .slice A n c] 111)) L L rb w.heap.size 111 #[.int .i64 1, .string nm, .string nt, .int .i64 x, .int .i64 y, .slice A n c] s := ⟨h.next (Below.al w _), Box.new w _ _, h0, Ex.below (Below.al w _) L⟩
  obtain ⟨vF, vD, hbx⟩ := h.box
  have hdd : (w.alloc (.cells #[.int .i64 1, .string nm, .string nt, .int .i64 x, .int .i64 y, .slice A n c] 111)).cell? ⟨rb, 4, none⟩ = some (.bool s.dead) := by
    obtain ⟨_, _, hb⟩ := hM0.rd.box
    exact hb.cell 4
  have M0 := Lib.hid hM0
  have H := Lib.hid (And.intro hi (And.intro hN (And.intro hfm (And.intro hz1 (And.intro hz2 (And.intro hn (And.intro hnm trivial)))))))
  clear h hi hN hfm hz1 hz2 hn hnm h0 hM0 hbx
  cases hdead : s.dead with
  | true =>
    have HE := Lib.hid (ref_dead (nm := nm) (nt := nt) (bs := bs) (y := y) hdead)
    rw [hdead] at hdd
    go_enter Try.func60, Try.ntmps60
    go_wp2
    go_ret
    rw [HE.out.1, HE.out.2.1]
    exact ⟨rfl, L, M0.out.rd, M0.out.ex⟩
  | false =>
    rw [hdead] at hdd
    by_cases hre : refE 1 nm nt y bs s = 0
    case neg =>
      obtain ⟨er, her⟩ : ∃ er, refE 1 nm nt y bs s = er := ⟨_, rfl⟩
      have hp := ref1 hdead hre
      rw [her] at hp hre
      have HP := Lib.hid hp
      have HR := Lib.hid her
      have hern : (er == 0) = false := by simpa using hre
      clear her hp
      go_enter Try.func60, Try.ntmps60
      go_wp2_with (first
        | (go_at_call 90
           refine (refusal1 rb L s N n c nm nt x y A bs _ M0.out.rd H.out.1 (by have := H.out.2.1; omega) (by have := H.out.2.2.1; omega) H.out.2.2.2.1 H.out.2.2.2.2.1 H.out.2.2.2.2.2.1).mono ?_
           rintro e w1 ⟨rfl, hb1⟩
           rw [HR.out]
           have M1 := Lib.hid (M0.out.next hb1)
           clear hb1 hdd))
      go_ret
      rw [HP.out.1, HP.out.2]
      exact ⟨rfl, L, M1.out.rd, M1.out.ex⟩
    case pos =>
      obtain ⟨hget, hfew, hE, hS⟩ := ok1 hdead hre
      have HR := Lib.hid hre
      have HG := Lib.hid (And.intro hget hfew)
      have HL := Lib.hid (show leadW nm (spendS s).seen = -1 by rw [spend_seen]; exact leadW_no H.out.1.sorted hget)
      clear hget hfew hre
      by_cases hfu : s.fuse = 0
      case pos =>
        have HP := Lib.hid (show createE nm s = 34 ∧ createS nm s = spendS s by rw [hE, hS, if_pos hfu]; exact ⟨if_pos hfu, rfl⟩)
        have HFU := Lib.hid (show decide (s.fuse = 0) = true from decide_eq_true hfu)
        clear hfu hE hS
        go_enter Try.func60, Try.ntmps60
        go_wp2_with (first
          | (go_at_call 90
             refine (refusal1 rb L s N n c nm nt x y A bs _ M0.out.rd H.out.1 (by have := H.out.2.1; omega) (by have := H.out.2.2.1; omega) H.out.2.2.2.1 H.out.2.2.2.2.1 H.out.2.2.2.2.2.1).mono ?_
             rintro e w1 ⟨rfl, hb1⟩
             rw [HR.out]
             have M1 := Lib.hid (M0.out.next hb1)
             clear hb1 hdd)
          | (go_at_call 91
             refine (burnsR_any rb L s N _ M1.out.rd H.out.1.rg (by have := H.out.2.1; omega)).mono ?_
             rintro e w2 ⟨rfl, h2, x2⟩
             rw [HFU.out]
             have hxc := (M1.out.step h2 x2).bx.cell
             have M2 := Lib.hid (M1.out.step h2 x2)
             clear h2 x2))
        go_ret
        rw [HP.out.1, HP.out.2]
        exact ⟨rfl, L, M2.out.rd, M2.out.ex⟩
      case neg =>
        have HFU := Lib.hid (show decide (s.fuse = 0) = false from decide_eq_false hfu)
        obtain ⟨i1, hi1, hz1', hs1, hy1⟩ := info_parts infoq_inode
        have HP := Lib.hid (show createE nm s = 0 ∧ createS nm s = { spendS s with files := s.files ++ [Fl.new], dchs := s.dchs ++ [.inl (nm, s.files.length)] } by rw [hE, hS, if_neg hfu]; exact ⟨if_neg hfu, rfl⟩)
        clear hE hS hfu
        go_enter Try.func60, Try.ntmps60
        go_upto_region 13 with (first
          | (go_at_call 90
             refine (refusal1 rb L s N n c nm nt x y A bs _ M0.out.rd H.out.1 (by have := H.out.2.1; omega) (by have := H.out.2.2.1; omega) H.out.2.2.2.1 H.out.2.2.2.2.1 H.out.2.2.2.2.2.1).mono ?_
             rintro e w1 ⟨rfl, hb1⟩
             rw [HR.out]
             have M1 := Lib.hid (M0.out.next hb1)
             clear hb1 hdd)
          | (go_at_call 91
             refine (burnsR_any rb L s N _ M1.out.rd H.out.1.rg (by have := H.out.2.1; omega)).mono ?_
             rintro e w2 ⟨rfl, h2, x2⟩
             rw [HFU.out]
             have hxc := (M1.out.step h2 x2).bx.cell
             have M2 := Lib.hid (M1.out.step h2 x2)
             clear h2 x2)
          | (go_at_call 92
             refine (findD_any nm M2.out.rd H.out.1.spend (by have := H.out.2.1; omega)).mono ?_
             rintro e w3 ⟨rfl, k3, hw3⟩
             rw [HL.out]
             have hM3 : MidR w w3 L L rb w.heap.size 111 #[.int .i64 1, .string nm, .string nt, .int .i64 x, .int .i64 y, .slice A n c] (spendS s) := M2.out.next (by rw [hw3]; exact below_drewN (Below.refl _ _) k3)
             have hxc := hM3.bx.cell
             obtain ⟨vF3, uP, vD3, uD, hRM⟩ := hM3.rd
             obtain ⟨F, cF, hvF⟩ := row_slice hRM.F.r
             subst hvF
             obtain ⟨nf, hnf⟩ : ∃ nf, (spendS s).files.length = nf := ⟨_, rfl⟩
             rw [List.length_map, hnf] at hRM
             have hnf9 : nf ≤ 9999999 := by rw [← hnf, (spend_fields s).1]; exact H.out.2.2.1
             have hc0 := hRM.box.cell 0
             have R3 := Lib.hid (And.intro hRM hnf)
             have M3 := Lib.hid hM3
             clear hw3 hM3 hRM hnf)
          | (at_builtin
             refine wpList_app _ rfl (.tmp 39) (.tmp 43) _ rfl 0 103 i1 _ 2 48 Try.underlying97 hi1 hz1' hs1 hy1 rfl (by omega) (.slice F nf cF) nf (uP.flatMap pcell) rfl (by have := R3.out.1.F.r; rw [List.length_map, R3.out.2] at this; exact ((this.alloc _).alloc _).alloc _) _ _ 1 1 [.slice (some ⟨w3.heap.size, 0, none⟩) 1 1, .slice (some ⟨w3.heap.size + 1, 0, none⟩) 1 1] rfl rfl (by have := rd_new ((w3.alloc (.cells #[.slice none 0 0] 22)).alloc (.cells #[.int .i64 (-1)] 3)) #[.slice (some ⟨w3.heap.size, 0, none⟩) 1 1, .slice (some ⟨w3.heap.size + 1, 0, none⟩) 1 1] 103; simpa using this) (by simp [Value.oneCell']) (by unfold maxLen; omega) (by omega) (Nat.zero_le _) ?_
             intro v7 w7 hown7 hg7 hor7
             obtain ⟨b7, c7, hv7⟩ := row_slice hown7
             subst hv7
             have hb3 : Below w3.heap.size w3 (((w3.alloc (.cells #[.slice none 0 0] 22)).alloc (.cells #[.int .i64 (-1)] 3)).alloc (.cells #[.slice (some ⟨w3.heap.size, 0, none⟩) 1 1, .slice (some ⟨w3.heap.size + 1, 0, none⟩) 1 1] 103)) := (Below.al _ _).trans (((Below.al _ _).trans ((Below.al _ _).mono (by simp))).mono (by simp))
             have hne : some rb ≠ (Value.slice F nf cF).ownBlock := fun e => by have h1 := R3.out.1.F.l rb e.symm; have h2 := R3.out.1.lp; omega
             have hcp : w7.cell? ⟨rb, 0, none⟩ = some (.slice F nf cF) := cell_growq hc0 hb3 hg7 hne
             have hcz : w7.frozen? ⟨rb, 0, none⟩ = false := ((R3.out.1.box.below hb3 R3.out.1.box.lt).grown hg7 hne).free 0
             have H7 := Lib.hid (RDk.growF R3.out.1 R3.out.2 hg7 hown7 (by simpa using hor7))
             clear hown7 hg7 hor7 hne hb3 hc0))
        obtain ⟨w8, hw8⟩ : ∃ w8, w7.setCell ⟨rb, 0, none⟩ (.slice b7 (nf + 1) c7) = w8 := ⟨_, rfl⟩
        have h8 := H7.out
        rw [hw8] at h8 ⊢
        obtain ⟨L8, g1, g2, g3⟩ := h8
        have hM8 := M3.out.step g1 g2
        have hs8 : w8.cell? ⟨w.heap.size, 1, none⟩ = some (.string nm) ∧ w8.cell? ⟨rb, 0, none⟩ = some (.slice b7 (nf + 1) c7) := ⟨hM8.bx.cell 1, g3⟩
        have hs8d : w8.drew.cell? ⟨w.heap.size, 1, none⟩ = some (.string nm) ∧ w8.drew.cell? ⟨rb, 0, none⟩ = some (.slice b7 (nf + 1) c7) := hs8
        have M8 := Lib.hid (And.intro hM8 g3)
        have hii : ((nf + 1 : Nat) : Int) - 1 = (nf : Int) := by omega
        have hwr : IntKind.i64.wrap (((nf + 1 : Nat) : Int) - 1) = (nf : Int) := by rw [hii]; exact IntWalk.i64_in _ (by omega)
        have hwi : IntKind.i64.wrap (nf : Int) = (nf : Int) := IntWalk.i64_in _ (by omega)
        have T5 := trivial
        clear hw8 g1 g2 g3 hM8
        go_region_held3 (fun w' => w'.cell? ⟨w.heap.size, 1, none⟩ = some (.string nm) ∧ w'.cell? ⟨rb, 0, none⟩ = some (.slice b7 (nf + 1) c7))
          (first | with_reducible exact hs8 | with_reducible exact hs8d | with_reducible exact hs4 | with_reducible exact hs5)
          (first
            | (go_at_call 85
               refine (seenD_any (M8.out.1.rd.next (below_drew (Below.refl _ _))) (by show (spendS s).dchs.length ≤ 99999999; rw [(spend_fields s).2.2.1]; exact H.out.1.dl (by have := H.out.2.1; omega))).mono ?_
               rintro e w4 ⟨x4, c4, rfl, hN4, k4, hw4⟩
               rw [show (Dk.seen { spendS s with files := (spendS s).files ++ [Fl.new] }) = s.seen from spend_seen s] at hN4 ⊢
               obtain ⟨m4, hm4⟩ : ∃ m4, s.seen.length = m4 := ⟨_, rfl⟩
               rw [hm4] at hN4 ⊢
               have hb4 : Below w8.heap.size w8 w4 := by rw [hw4]; exact below_drewN (below_drew (Below.refl _ _)) k4
               have hM4 := M8.out.1.next hb4
               have hs4 : w4.cell? ⟨w.heap.size, 1, none⟩ = some (.string nm) ∧ w4.cell? ⟨rb, 0, none⟩ = some (.slice b7 (nf + 1) c7) := ⟨hM4.bx.cell 1, cell_keptq M8.out.2 hb4⟩
               have hr4 := rdK_own (l := s.seen) (c := c4) (b := x4) (w := w4) (B := 0) (by have := row_next hN4.1 (below_drewN (Below.refl _ _) k4); rw [hm4] at this ⊢; rw [hw4]; exact this)
               have hm4m : m4 ≤ 99999999 := by
                 have := seen_lenq H.out.1
                 have := H.out.2.1
                 omega
               have M4 := Lib.hid (And.intro hM4 (And.intro hr4 hm4))
               clear hw4 hN4 hm4 hb4 hM4 hr4)
            | (go_at_call 93
               have z5 := T5
               clear z5
               refine (withR3_any x4 m4 c4 nf s.seen nm _ M4.out.2.1 M4.out.2.2 H.out.1.sorted (fun p hp e => by have := get_none.1 HG.out.1 p hp; exact this e) (by omega)).mono ?_
               rintro e w5 ⟨x5, c5, rfl, hr5, hb5⟩
               obtain ⟨m5, hm5⟩ : ∃ m, (putL nm nf s.seen).length = m := ⟨_, rfl⟩
               rw [hm5] at hr5 ⊢
               have hM5 := M4.out.1.next hb5
               have hs5 : w5.cell? ⟨w.heap.size, 1, none⟩ = some (.string nm) ∧ w5.cell? ⟨rb, 0, none⟩ = some (.slice b7 (nf + 1) c7) := ⟨hM5.bx.cell 1, cell_keptq hs4.2 hb5⟩
               have hxc5 := hM5.bx.cell
               have M5 := Lib.hid (And.intro hM5 (And.intro hr5 (And.intro hm5 hb5)))
               clear hM5 hr5 hm5 hb5 T5))
        go_wp2_with (first
          | (go_at_call 94
             obtain ⟨g1, g2, g3, g4⟩ := M4.out.1.rd.row (a := 6) M5.out.2.2.2 M5.out.2.1 (by decide)
             have ht := turnD_any (.inl (nm, nf)) (putL nm nf s.seen) x5 c5 g1 (by rw [show (Dk.seen { spendS s with files := (spendS s).files ++ [Fl.new] }) = s.seen from spend_seen s]; rfl) (by show (spendS s).dchs.length ≤ 99999999; rw [(spend_fields s).2.2.1]; exact H.out.1.dl (by have := H.out.2.1; omega)) ⟨by rw [M5.out.2.2.1]; exact g2, by rw [M5.out.2.2.1]; exact g3⟩
             rw [M5.out.2.2.1] at ht
             refine ht.mono ?_
             rintro e w6 ⟨rfl, L6, h1, h2⟩
             have M6 := Lib.hid (And.intro h1 (M4.out.1.ex.trans (g4.trans h2)))
             clear h1 h2 g1 g2 g3 g4 ht))
        go_ret
        rw [HP.out.1, HP.out.2]
        have hnf : s.files.length = nf := by rw [← R3.out.2, (spend_fields s).1]
        rw [hnf]
        refine ⟨rfl, L6, M6.out.1.congr ?_ rfl ?_ rfl rfl rfl rfl, M6.out.2⟩
        · show s.files ++ _ = (spendS s).files ++ _
          rw [(spend_fields s).1]
        · show s.dchs ++ _ = (spendS s).dchs ++ _
          rw [(spend_fields s).2.2.1]
end Go.Proofs.Ytebeefkibbbkdaa
/- chronicleref3: Do: Truncate. -/
namespace Go.Proofs.Ytebeefkibbbkdaa
open Go.RowKit Go.Maps

theorem rd_takeq {w : World} {B : Nat} {A : Option Addr} {l : List UInt8} (h : Rd w B A (bv l)) (n : Nat) : Rd w B A (bv (l.take n)) := fun j u hj => h j u (by
  rw [bv_take] at hj
  have := (List.getElem?_eq_some_iff.1 hj).1
  rw [List.length_take] at this
  rwa [List.getElem?_take_of_lt (by omega)] at hj)
set_option maxRecDepth 100000 in
set_option maxHeartbeats 16000000 in
theorem do3 (rb : Nat) (L : Nat → Nat) (s : Dk) (N n c : Nat) (nm nt : ByteArray) (x y : Int) (A : Option Addr) (bs : List UInt8) (w : World) (h : RDk w L rb s) (hi : s.Inv N) (hN : N ≤ 9999999) (hfm : s.files.length ≤ 9999999) (hz1 : nm.size ≤ maxLen) (hz2 : nt.size ≤ maxLen) (hn : bs.length = n) (hnm : n ≤ 1073741824) :
    Calls Try.prog 60 #[.pointer (some ⟨rb, 0, none⟩), .agg #[.int .i64 3, .string nm, .string nt, .int .i64 x, .int .i64 y, .slice A n c]] w fun e w' => e = .returned (.int .i64 (truncE nm y s)) ∧ ∃ L', RDk w' L' rb (truncS nm y s) ∧ Ex w w' L L' := by
  have h0 : L w.heap.size = 0 := Classical.byContradiction fun hne => by have := h.lt _ hne; omega
  have hM0 : MidR w (w.alloc (.cells #[.int .i64 3, .string nm, .string nt, .int .i64 x, .int .i64 y, .slice A n c] 111)) L L rb w.heap.size 111 #[.int .i64 3, .string nm, .string nt, .int .i64 x, .int .i64 y, .slice A n c] s := ⟨h.next (Below.al w _), Box.new w _ _, h0, Ex.below (Below.al w _) L⟩
  obtain ⟨vF, vD, hbx⟩ := h.box
  have hdd : (w.alloc (.cells #[.int .i64 3, .string nm, .string nt, .int .i64 x, .int .i64 y, .slice A n c] 111)).cell? ⟨rb, 4, none⟩ = some (.bool s.dead) := by
    obtain ⟨_, _, hb⟩ := hM0.rd.box
    exact hb.cell 4
  have M0 := Lib.hid hM0
  have H := Lib.hid (And.intro hi (And.intro hN (And.intro hfm (And.intro hz1 (And.intro hz2 (And.intro hn (And.intro hnm trivial)))))))
  clear h hi hN hfm hz1 hz2 hn hnm h0 hM0 hbx
  cases hdead : s.dead with
  | true =>
    have HE := Lib.hid (ref_dead (nm := nm) (nt := nt) (bs := bs) (y := y) hdead)
    rw [hdead] at hdd
    go_enter Try.func60, Try.ntmps60
    go_wp2
    go_ret
    rw [HE.out.2.2.2.2.1, HE.out.2.2.2.2.2.1]
    exact ⟨rfl, L, M0.out.rd, M0.out.ex⟩
  | false =>
    rw [hdead] at hdd
    by_cases hre : refE 3 nm nt y bs s = 0
    case neg =>
      obtain ⟨er, her⟩ : ∃ er, refE 3 nm nt y bs s = er := ⟨_, rfl⟩
      have hp := ref3 hdead hre
      rw [her] at hp hre
      have HP := Lib.hid hp
      have HR := Lib.hid her
      have hern : (er == 0) = false := by simpa using hre
      clear her hp
      go_enter Try.func60, Try.ntmps60
      go_wp2_with (first
        | (go_at_call 90
           refine (refusal3 rb L s N n c nm nt x y A bs _ M0.out.rd H.out.1 (by have := H.out.2.1; omega) (by have := H.out.2.2.1; omega) H.out.2.2.2.1 H.out.2.2.2.2.1 H.out.2.2.2.2.2.1).mono ?_
           rintro e w1 ⟨rfl, hb1⟩
           rw [HR.out]
           have M1 := Lib.hid (M0.out.next hb1)
           clear hb1 hdd))
      go_ret
      rw [HP.out.1, HP.out.2]
      exact ⟨rfl, L, M1.out.rd, M1.out.ex⟩
    case pos =>
      obtain ⟨f, hget, hy0, hy1, hE, hS⟩ := ok3 hdead hre
      have hlt : f < s.files.length := H.out.1.seen_ids _ ((get_mem H.out.1.sorted).1 hget)
      have HR := Lib.hid hre
      have HG := Lib.hid (And.intro hget hlt)
      have HL := Lib.hid (show leadW nm (spendS s).seen = (f : Nat) by rw [spend_seen]; exact leadW_some H.out.1.sorted hget)
      have hf0 : (0 : Int) ≤ f := by omega
      clear hget hlt hre
      by_cases hfu : s.fuse = 0
      case pos =>
        have HP := Lib.hid (show truncE nm y s = 34 ∧ truncS nm y s = spendS s by rw [hE, hS, if_pos hfu]; exact ⟨if_pos hfu, rfl⟩)
        have HFU := Lib.hid (show decide (s.fuse = 0) = true from decide_eq_true hfu)
        clear hfu hE hS
        go_enter Try.func60, Try.ntmps60
        go_wp2_with (first
          | (go_at_call 90
             refine (refusal3 rb L s N n c nm nt x y A bs _ M0.out.rd H.out.1 (by have := H.out.2.1; omega) (by have := H.out.2.2.1; omega) H.out.2.2.2.1 H.out.2.2.2.2.1 H.out.2.2.2.2.2.1).mono ?_
             rintro e w1 ⟨rfl, hb1⟩
             rw [HR.out]
             have M1 := Lib.hid (M0.out.next hb1)
             clear hb1 hdd)
          | (go_at_call 91
             refine (burnsR_any rb L s N _ M1.out.rd H.out.1.rg (by have := H.out.2.1; omega)).mono ?_
             rintro e w2 ⟨rfl, h2, x2⟩
             rw [HFU.out]
             have hxc := (M1.out.step h2 x2).bx.cell
             have M2 := Lib.hid (M1.out.step h2 x2)
             clear h2 x2))
        go_ret
        rw [HP.out.1, HP.out.2]
        exact ⟨rfl, L, M2.out.rd, M2.out.ex⟩
      case neg =>
        have HFU := Lib.hid (show decide (s.fuse = 0) = false from decide_eq_false hfu)
        obtain ⟨q, hq⟩ : ∃ q : Nat, y = q := ⟨y.toNat, by omega⟩
        have hyq : y.toNat = q := by omega
        have HQ := Lib.hid hq
        have HP := Lib.hid (show truncE nm y s = 0 ∧ truncS nm y s = { (spendS s).addC f (.inr q) with used := s.used - ((s.fl f).seen.length - y) } by rw [hE, hS, if_neg hfu, hyq]; exact ⟨if_neg hfu, rfl⟩)
        clear hE hS hfu hq hyq
        go_enter Try.func60, Try.ntmps60
        go_upto_region 20 with (first
          | (go_at_call 90
             refine (refusal3 rb L s N n c nm nt x y A bs _ M0.out.rd H.out.1 (by have := H.out.2.1; omega) (by have := H.out.2.2.1; omega) H.out.2.2.2.1 H.out.2.2.2.2.1 H.out.2.2.2.2.2.1).mono ?_
             rintro e w1 ⟨rfl, hb1⟩
             rw [HR.out]
             have M1 := Lib.hid (M0.out.next hb1)
             clear hb1 hdd)
          | (go_at_call 91
             refine (burnsR_any rb L s N _ M1.out.rd H.out.1.rg (by have := H.out.2.1; omega)).mono ?_
             rintro e w2 ⟨rfl, h2, x2⟩
             rw [HFU.out]
             have hxc := (M1.out.step h2 x2).bx.cell
             have M2 := Lib.hid (M1.out.step h2 x2)
             clear h2 x2)
          | (go_at_call 92
             refine (findD_any nm M2.out.rd H.out.1.spend (by have := H.out.2.1; omega)).mono ?_
             rintro e w3 ⟨rfl, k3, hw3⟩
             rw [HL.out]
             have hM3 : MidR w w3 L L rb w.heap.size 111 #[.int .i64 3, .string nm, .string nt, .int .i64 x, .int .i64 y, .slice A n c] (spendS s) := M2.out.next (by rw [hw3]; exact below_drewN (Below.refl _ _) k3)
             have hxc := hM3.bx.cell
             have M3 := Lib.hid hM3
             clear hw3 hM3))
        have hs3 : w3.cell? ⟨w.heap.size, 4, none⟩ = some (.int .i64 (q : Nat)) := by have := M3.out.bx.cell 4; rw [HQ.out] at this; exact this
        have hs3d : w3.drew.cell? ⟨w.heap.size, 4, none⟩ = some (.int .i64 (q : Nat)) := hs3
        have hq0 : (0 : Int) ≤ q := by omega
        have T5 := trivial
        go_region_held3 (fun w' => w'.cell? ⟨w.heap.size, 4, none⟩ = some (.int .i64 (q : Nat)))
          (first | with_reducible exact hs3 | with_reducible exact hs3d | with_reducible exact hs4 | with_reducible exact hs5)
          (first
            | (go_at_call 86
               refine (bytesD_any f (M3.out.rd.next (below_drew (Below.refl _ _))) H.out.1.spend (by have := H.out.2.1; omega) (by rw [(spend_fields s).1]; exact HG.out.2) (by rw [(spend_fields s).1]; have := H.out.2.2.1; omega)).mono ?_
               rintro e w4 ⟨x4, c4, rfl, hN4, hL4, k4, hw4⟩
               rw [spend_fl] at hN4 hL4 ⊢
               obtain ⟨m4, hm4⟩ : ∃ m4, (s.fl f).seen.length = m4 := ⟨_, rfl⟩
               rw [hm4] at hN4 hL4 hy1 ⊢
               have hb4 : Below w3.heap.size w3 w4 := by rw [hw4]; exact below_drewN (below_drew (Below.refl _ _)) k4
               have hM4 := M3.out.next hb4
               have hs4 : w4.cell? ⟨w.heap.size, 4, none⟩ = some (.int .i64 (q : Nat)) := by have := hM4.bx.cell 4; rw [HQ.out] at this; exact this
               have hr4 := row_next hN4 (below_drewN (Below.refl _ _) k4)
               have hcap := row_cap hN4
               have hm4m : m4 ≤ 1073741824 := by
                 have h1 := H.out.1.len_le HG.out.1
                 have h2 := H.out.1.ub
                 omega
               have hqc : (q : Int) ≤ c4 := by have := HQ.out; omega
               have hqm : q ≤ m4 := by have := HQ.out; omega
               have M4 := Lib.hid (And.intro hM4 (And.intro (show w4.ownsRow 0 5 1 (.slice x4 m4 c4) m4 (bv (s.fl f).seen) by rw [hw4]; exact hr4) hm4))
               clear hw4 hN4 hL4 hm4 hb4 hM4 hr4 hcap)
            | (go_at_call 47
               have z5 := T5
               clear z5
               refine (copiedR_any x4 q c4 ((s.fl f).seen.take q) _ (rd_takeq (row_rd M4.out.2.1) q) (by rw [List.length_take, M4.out.2.2]; omega) (by omega)).mono ?_
               rintro e w5 ⟨x5, c5, rfl, hr5, hb5⟩
               have hM5 := M4.out.1.next hb5
               have hs5 : w5.cell? ⟨w.heap.size, 4, none⟩ = some (.int .i64 (q : Nat)) := by have := hM5.bx.cell 4; rw [HQ.out] at this; exact this
               have hxc5 := hM5.bx.cell
               have M5 := Lib.hid (And.intro hb5 hr5)
               clear hr5 hb5 hM5 T5))
        go_wp2_with (first
          | (go_at_call 95
             obtain ⟨g1, g2, g3, g4⟩ := M4.out.1.rd.row (a := 5) M5.out.1 M5.out.2 (by decide)
             refine (changeD_any f (.inr q) ((s.fl f).seen.take q) q x5 c5 (-1) g1 (by rw [(spend_fields s).1]; exact HG.out.2) (by rw [(spend_fields s).1]; have := H.out.2.2.1; omega) (by rw [spend_fl]; have := H.out.1.sz.f _ (fl_mem HG.out.2); have := H.out.2.1; omega) (by rw [spend_fl]; rfl) rfl (by rw [List.length_take, M4.out.2.2]; omega) ⟨g2, g3⟩).mono ?_
             rintro e w7 ⟨rfl, L7, h1, h2⟩
             have M7 := Lib.hid (And.intro h1 (M4.out.1.ex.trans (g4.trans h2)))
             clear g1 g2 g3 g4 h1 h2))
        go_ret
        rw [HP.out.1, HP.out.2]
        exact ⟨rfl, L7, M7.out.1.congr rfl rfl rfl rfl rfl rfl rfl, M7.out.2⟩
end Go.Proofs.Ytebeefkibbbkdaa
/- How much a script can make of a disk: each file's states are no longer than what was ever appended to it; no directory has more than 65536 names, and none a file twice: so what a crash leaves can be loaded. Plain laws. -/
namespace Go.Proofs.Ytebeefkibbbkdaa
open Go.RowKit Go.Maps

def wtC : FC → Nat
  | .inl b => b.length
  | .inr _ => 0
def wtF (x : Fl) : Nat := x.safe.length + (x.chs.map wtC).sum
def wtS (s : Dk) : Nat := (s.files.map wtF).sum
theorem fold_wt : ∀ (l : List FC) (b : List UInt8), (l.foldl fdo b).length ≤ b.length + (l.map wtC).sum
  | [], b => by simp
  | c :: l, b => by
    have h := fold_wt l (fdo b c)
    have h2 : (fdo b c).length ≤ b.length + wtC c := by
      cases c with
      | inl x => simp [fdo, wtC]
      | inr n => simp [fdo, wtC]; omega
    simp only [List.foldl_cons, List.map_cons, List.sum_cons]
    omega
theorem state_wt (x : Fl) (i : Nat) : ((x.chs.take i).foldl fdo x.safe).length ≤ wtF x := by
  have h := fold_wt (x.chs.take i) x.safe
  have h2 := sum_takeq (x.chs.map wtC) i
  rw [List.map_take] at h
  unfold wtF
  omega
theorem seen_wt (x : Fl) : x.seen.length ≤ wtF x := by have := state_wt x x.chs.length; rw [List.take_length] at this; exact this
theorem torn_wt (x : Fl) (ps : List Int) : (tornS x ps).1.length ≤ wtF x := by
  unfold tornS
  split
  · rename_i c hc
    obtain ⟨hi, hc'⟩ := List.getElem?_eq_some_iff.1 hc
    generalize modn (pickV ps) (x.chs.length + 1) = i at *
    have h := fold_wt (x.chs.take i) x.safe
    rw [List.map_take] at h
    have h2 := sum_takeq (x.chs.map wtC) (i + 1)
    rw [List.take_add_one, List.sum_append, List.getElem?_map, hc] at h2
    simp [wtC] at h2
    simp only [List.length_append, List.length_take]
    unfold wtF
    omega
  · exact state_wt x _
/-- A sum over numbers that differ, all below n. -/
theorem sum_ids (g : Nat → Nat) : ∀ (n : Nat) (ks : List Nat), ks.Nodup → (∀ k ∈ ks, k < n) → (ks.map g).sum ≤ ((List.range n).map g).sum
  | 0, ks, _, h => by
    cases ks with
    | nil => simp
    | cons k r => exact absurd (h k (by simp)) (by omega)
  | n + 1, ks, hn, h => by
    rw [List.range_succ, List.map_append, List.sum_append]
    by_cases hm : n ∈ ks
    · have hp := List.perm_cons_erase hm
      rw [(hp.map g).sum_nat, List.map_cons, List.sum_cons]
      have := sum_ids g n (ks.erase n) (hn.erase _) fun k hk => by
        have h1 := h k (List.mem_of_mem_erase hk)
        have h2 : k ≠ n := fun e => by subst e; exact absurd hk (fun h3 => (hn.mem_erase_iff.1 h3).1 rfl)
        omega
      simp
      omega
    · have := sum_ids g n ks hn fun k hk => by
        have h1 := h k hk
        have h2 : k ≠ n := fun e => hm (e ▸ hk)
        omega
      omega
theorem wtS_range (s : Dk) : ((List.range s.files.length).map fun k => wtF (s.fl k)).sum = wtS s := by
  unfold wtS
  congr 1
  refine List.ext_getElem (by simp) fun i h1 h2 => ?_
  have hi : i < s.files.length := by simpa using h1
  have := fl_get hi
  rw [List.getElem?_eq_getElem hi] at this
  injection this with this
  simp [this]
theorem tornAll_wt (s : Dk) : ∀ (l : List KE) (ps : List Int), sumL (tornAll s l ps).1 ≤ (l.map fun p => wtF (s.fl p.2)).sum
  | [], _ => by simp [tornAll, sumL]
  | (n, k) :: r, ps => by
    have h1 := torn_wt (s.fl k) ps
    have h2 := tornAll_wt s r (tornS (s.fl k) ps).2
    show sumL ((n, (tornS (s.fl k) ps).1) :: (tornAll s r (tornS (s.fl k) ps).2).1) ≤ _
    simp only [sumL, List.map_cons, List.sum_cons] at h2 ⊢
    omega
structure Bd (s : Dk) (T N : Nat) : Prop where
  wt : wtS s ≤ T
  few : ∀ i, (dirAt s i).length ≤ 65536
  inj : ∀ i, ((dirAt s i).map fun p : KE => p.2).Nodup
  fl : s.files.length ≤ N
section
variable {s s' : Dk} {T T' N N' M : Nat} {n a b : ByteArray}
theorem dirAt_keepq (h1 : s'.safe = s.safe) (h2 : s'.dchs = s.dchs) (i : Nat) : dirAt s' i = dirAt s i := by unfold dirAt; rw [h1, h2]
theorem Bd.up (h : Bd s T N) (hT : T ≤ T') (hN : N ≤ N') : Bd s T' N' := ⟨Nat.le_trans h.wt hT, h.few, h.inj, Nat.le_trans h.fl hN⟩
theorem Bd.keep (h : Bd s T N) (h1 : s'.safe = s.safe) (h2 : s'.dchs = s.dchs) (hw : wtS s' ≤ T') (hf : s'.files.length ≤ N') : Bd s' T' N' :=
  ⟨hw, fun i => by rw [dirAt_keepq h1 h2]; exact h.few i, fun i => by rw [dirAt_keepq h1 h2]; exact h.inj i, hf⟩
theorem dirAt_over (s : Dk) {i : Nat} (h : s.dchs.length ≤ i) : dirAt s i = s.seen := by
  unfold dirAt
  rw [List.take_of_length_le h]
  rfl
theorem Bd.snoc {c : DC} (h : Bd s T N) (h1 : s'.safe = s.safe) (h2 : s'.dchs = s.dchs ++ [c]) (hw : wtS s' ≤ T') (hf : s'.files.length ≤ N') (hl : s'.seen.length ≤ 65536) (hi : (s'.seen.map fun p : KE => p.2).Nodup) : Bd s' T' N' := by
  have hl2 : s'.dchs.length = s.dchs.length + 1 := by rw [h2, List.length_append]; rfl
  refine ⟨hw, fun i => ?_, fun i => ?_, hf⟩
  · rcases Nat.lt_or_ge s.dchs.length i with h3 | h3
    · rw [dirAt_over s' (by omega)]; exact hl
    · rw [dirAt_old h1 h2 h3]; exact h.few i
  · rcases Nat.lt_or_ge s.dchs.length i with h3 | h3
    · rw [dirAt_over s' (by omega)]; exact hi
    · rw [dirAt_old h1 h2 h3]; exact h.inj i
theorem Bd.seen (h : Bd s T N) : s.seen.length ≤ 65536 := by have := h.few s.dchs.length; rwa [dirAt_last] at this
theorem Bd.seenI (h : Bd s T N) : (s.seen.map fun p : KE => p.2).Nodup := by have := h.inj s.dchs.length; rwa [dirAt_last] at this
theorem Bd.settle (h : Bd s T N) (h1 : s'.safe = s.seen) (h2 : s'.dchs = []) (hw : wtS s' ≤ T') (hf : s'.files.length ≤ N') : Bd s' T' N' := by
  have e : ∀ i, dirAt s' i = s.seen := fun i => by unfold dirAt; rw [h1, h2]; simp
  exact ⟨hw, fun i => by rw [e]; exact h.seen, fun i => by rw [e]; exact h.seenI, hf⟩
theorem wt_files (h : s'.files = s.files) : wtS s' = wtS s := by unfold wtS; rw [h]
theorem Bd.spend (h : Bd s T N) : Bd (spendS s) T N :=
  h.keep (spend_fields s).2.1 (spend_fields s).2.2.1 (by rw [wt_files (spend_fields s).1]; exact h.wt) (by rw [(spend_fields s).1]; exact h.fl)
theorem sum_setq : ∀ (l : List Nat) (k x y : Nat), l[k]? = some y → (l.set k x).sum + y = l.sum + x
  | [], k, x, y, h => by cases h
  | z :: r, 0, x, y, h => by
    simp at h
    subst h
    simp only [List.set_cons_zero, List.sum_cons]
    omega
  | z :: r, k + 1, x, y, h => by
    have := sum_setq r k x y (by simpa using h)
    simp only [List.set_cons_succ, List.sum_cons]
    omega
theorem wt_set (s : Dk) {k : Nat} (hk : k < s.files.length) (x : Fl) : ((s.files.set k x).map wtF).sum + wtF (s.fl k) = wtS s + wtF x := by
  rw [List.map_set]
  exact sum_setq _ _ _ _ (by rw [List.getElem?_map, fl_get hk]; rfl)
theorem wt_snoc (x : Fl) (c : FC) : wtF ⟨x.safe, x.chs ++ [c]⟩ = wtF x + wtC c := by
  unfold wtF
  simp
  omega
theorem num_lt (hi : s.Inv M) (h : ¬ atE n s ≠ 0) : s.num n < s.files.length := by
  obtain ⟨_, _, k, hg⟩ := atE_zero.1 (Classical.not_not.1 h)
  rw [getL_num hg]
  exact hi.seen_ids _ ((get_mem hi.sorted).1 hg)
theorem Bd.file (h : Bd s T N) (h1 : s'.safe = s.safe) (h2 : s'.dchs = s.dchs) {k : Nat} {x : Fl} (hk : k < s.files.length) (h3 : s'.files = s.files.set k x) {m : Nat} (hx : wtF x ≤ wtF (s.fl k) + m) : Bd s' (T + m) N := by
  refine h.keep h1 h2 ?_ (by rw [h3, List.length_set]; exact h.fl)
  have := wt_set s hk x
  unfold wtS at this ⊢
  rw [h3]
  have := h.wt
  unfold wtS at this
  omega
theorem Bd.append {bs : List UInt8} (h : Bd s T N) (hi : s.Inv M) : Bd (appendS n bs s) (T + bs.length) N := by
  have hup := h.up (T' := T + bs.length) (Nat.le_add_right _ _) (Nat.le_refl _)
  unfold appendS
  split
  · exact hup
  · rename_i h0
    split
    · exact hup
    · split
      · exact hup.spend
      · have hk := num_lt hi h0
        refine h.file (s' := { (spendS s).addC (s.num n) (.inl bs) with used := s.used + bs.length }) (spend_fields s).2.1 (spend_fields s).2.2.1 hk (x := ⟨((spendS s).fl (s.num n)).safe, ((spendS s).fl (s.num n)).chs ++ [.inl bs]⟩) ?_ ?_
        · show (spendS s).files.set _ _ = _
          rw [(spend_fields s).1]
        · rw [wt_snoc, spend_fl]
          exact Nat.le_refl _
theorem Bd.trunc {x : Int} (h : Bd s T N) (hi : s.Inv M) : Bd (truncS n x s) T N := by
  unfold truncS
  split
  · exact h
  · rename_i h0
    split
    · exact h
    · split
      · exact h.spend
      · have hk := num_lt hi h0
        refine h.file (m := 0) (s' := { (spendS s).addC (s.num n) (.inr x.toNat) with used := s.used - ((s.fl (s.num n)).seen.length - x) }) (spend_fields s).2.1 (spend_fields s).2.2.1 hk (x := ⟨((spendS s).fl (s.num n)).safe, ((spendS s).fl (s.num n)).chs ++ [.inr x.toNat]⟩) ?_ ?_
        · show (spendS s).files.set _ _ = _
          rw [(spend_fields s).1]
        · rw [wt_snoc, spend_fl]
          exact Nat.le_refl _
theorem Bd.sync (h : Bd s T N) (hi : s.Inv M) : Bd (syncS n s) T N := by
  unfold syncS
  split
  · exact h
  · rename_i h0
    split
    · exact h.spend
    · have hk := num_lt hi h0
      refine h.file (m := 0) (s' := (spendS s).setF (s.num n) ⟨(s.fl (s.num n)).seen, []⟩) (spend_fields s).2.1 (spend_fields s).2.2.1 hk (x := ⟨(s.fl (s.num n)).seen, []⟩) ?_ ?_
      · show (spendS s).files.set _ _ = _
        rw [(spend_fields s).1]
      · have := seen_wt (s.fl (s.num n))
        show ((s.fl (s.num n)).seen.length + 0) ≤ _
        omega
theorem Bd.syncDir (h : Bd s T N) : Bd (syncDirS s) T N := by
  unfold syncDirS
  split
  · exact h
  · split
    · exact h.spend
    · exact h.settle rfl rfl (by show ((spendS s).files.map wtF).sum ≤ T; rw [(spend_fields s).1]; exact h.wt) (by show (spendS s).files.length ≤ N; rw [(spend_fields s).1]; exact h.fl)
theorem Bd.create (h : Bd s T N) (hi : s.Inv M) : Bd (createS n s) T (N + 1) := by
  have hj := (hi.create (n := n)).inj
  have hup := h.up (Nat.le_refl T) (Nat.le_succ N)
  unfold createS at hj ⊢
  split
  · exact hup
  · split
    · exact hup
    · split
      · exact hup
      · split
        · exact hup.spend
        · rename_i h1 h2 h3 h4
          rw [if_neg h1, if_neg h2, if_neg h3, if_neg h4] at hj
          refine h.snoc (c := .inl (n, s.files.length)) (spend_fields s).2.1 rfl ?_ ?_ ?_ hj
          · show ((s.files ++ [Fl.new]).map wtF).sum ≤ T
            have := h.wt
            unfold wtS at this
            simp [wtF, Fl.new]
            exact this
          · have := h.fl; simp; omega
          · have e : ({ spendS s with files := s.files ++ [Fl.new], dchs := s.dchs ++ [.inl (n, s.files.length)] } : Dk).seen = putL n s.files.length s.seen := by
              unfold Dk.seen
              show (s.dchs ++ [_]).foldl ddo (spendS s).safe = _
              rw [(spend_fields s).2.1, List.foldl_append]
              rfl
            rw [e]
            have := put_len n s.files.length s.seen
            omega
theorem del_lenq (n : ByteArray) {l : List KE} (h : Sorted l) : (delL n l).length ≤ l.length := by
  rw [← leftP_del n h]
  exact List.length_filter_le _ _
theorem Bd.remove (h : Bd s T N) (hi : s.Inv M) : Bd (removeS n s) T N := by
  have hj := (hi.remove (n := n)).inj
  unfold removeS at hj ⊢
  split
  · exact h
  · split
    · exact h.spend
    · rename_i h1 h2
      rw [if_neg h1, if_neg h2] at hj
      refine h.snoc (c := .inr (.inr n)) (spend_fields s).2.1 rfl ?_ ?_ ?_ hj
      · show ((spendS s).files.map wtF).sum ≤ T; rw [(spend_fields s).1]; exact h.wt
      · show (spendS s).files.length ≤ N; rw [(spend_fields s).1]; exact h.fl
      · have e : ({ spendS s with dchs := s.dchs ++ [.inr (.inr n)], used := s.used - lenOf s n } : Dk).seen = delL n s.seen := by
          unfold Dk.seen
          show (s.dchs ++ [_]).foldl ddo (spendS s).safe = _
          rw [(spend_fields s).2.1, List.foldl_append]
          rfl
        rw [e]
        exact Nat.le_trans (del_lenq n hi.sorted) h.seen
theorem Bd.rename (h : Bd s T N) (hi : s.Inv M) : Bd (renameS a b s) T N := by
  have hj := (hi.rename (a := a) (b := b)).inj
  unfold renameS at hj ⊢
  split
  · exact h
  · split
    · exact h
    · split
      · exact h
      · split
        · exact h
        · split
          · exact h.spend
          · rename_i h1 h2 h3 h4 h5
            rw [if_neg h1, if_neg h2, if_neg h3, if_neg h4, if_neg h5] at hj
            refine h.snoc (c := .inr (.inl (a, b))) (spend_fields s).2.1 rfl ?_ ?_ ?_ hj
            · show ((spendS s).files.map wtF).sum ≤ T; rw [(spend_fields s).1]; exact h.wt
            · show (spendS s).files.length ≤ N; rw [(spend_fields s).1]; exact h.fl
            · have e : ({ spendS s with dchs := s.dchs ++ [.inr (.inl (a, b))], used := s.used - lenOf s b } : Dk).seen = ddo s.seen (.inr (.inl (a, b))) := by
                unfold Dk.seen
                show (s.dchs ++ [_]).foldl ddo (spendS s).safe = _
                rw [(spend_fields s).2.1, List.foldl_append]
                rfl
              obtain ⟨_, _, k, hg⟩ := atE_zero.1 (Classical.not_not.1 h4)
              rw [e, ← ren_ref hi.sorted h3 hg, leftP_del a hi.sorted, leftP_del b (hi.sorted.del a)]
              have h6 := (del_perm hi.sorted ((get_mem hi.sorted).1 hg)).length_eq
              have h7 := put_len b k (delL b (delL a s.seen))
              have h8 := del_lenq b (hi.sorted.del a)
              have h9 := h.seen
              simp at h6
              omega
theorem Bd.quota {q : Int} (h : Bd s T N) : Bd (setQuotaS q s) T N := by
  unfold setQuotaS
  split
  · exact h.keep rfl rfl h.wt h.fl
  · exact h
theorem Bd.fuse {x : Int} (h : Bd s T N) : Bd (fuseS x s) T N := by
  unfold fuseS
  split
  · exact h
  · exact h.keep rfl rfl h.wt h.fl
theorem Bd.fresh (q : Int) : Bd (Dk.fresh q) T N := by
  have e : ∀ i, dirAt (Dk.fresh q) i = [] := fun i => by unfold dirAt Dk.fresh; simp
  exact ⟨by simp [wtS, Dk.fresh], fun i => by rw [e]; simp, fun i => by rw [e]; simp, by simp [Dk.fresh]⟩
/-- What a crash leaves can be loaded. -/
theorem Bd.crash {q : Int} (h : Bd s T N) (hi : s.Inv M) (hT : T ≤ 1073741824) (hq : 0 ≤ q ∧ q ≤ 1073741824) (ps : List Int) : LdOk q (crashL s ps) ∧ sumL (crashL s ps) ≤ T := by
  obtain ⟨e, hle⟩ := left_at s ps
  generalize modn (pickV ps) (s.dchs.length + 1) = k at e hle
  have hsd : Sorted (dirAt s k) := Sorted.fold hi.ok.sorted
  have hid : ∀ p ∈ dirAt s k, p.2 < s.files.length := ids_fold hi.ids (fun m f hf => hi.dids m f (List.mem_of_mem_take hf)) hi.ok.sorted (okD_take _ hi.ok.okd)
  have hgn : ∀ p ∈ dirAt s k, goodN p.1 = true := names_fold hi.ok.names fun c hc => hi.ok.dnames c (List.mem_of_mem_take hc)
  have hsum : sumL (crashL s ps) ≤ T := by
    unfold crashL
    refine Nat.le_trans (tornAll_wt s _ _) (Nat.le_trans ?_ h.wt)
    rw [e, ← wtS_range]
    have := sum_ids (fun k => wtF (s.fl k)) s.files.length ((dirAt s k).map fun p => p.2) (h.inj k) fun j hj => by
      obtain ⟨p, hp, rfl⟩ := List.mem_map.1 hj
      exact hid p hp
    rw [List.map_map] at this
    exact this
  have hat : ∀ (i : Nat) (hil : i < (dirAt s k).length), ∃ b, (crashL s ps)[i]? = some (((dirAt s k)[i]).1, b) := fun i hil => by
    obtain ⟨b, g1, _⟩ := tornAll_was s (dirAt s k) ps.tail i _ (List.getElem?_eq_getElem hil)
    exact ⟨b, by unfold crashL; rw [e]; exact g1⟩
  have hlen : (crashL s ps).length = (dirAt s k).length := by unfold crashL; rw [tornAll_len, e]
  refine ⟨⟨hq, ?_, fun p hp => ?_, by rw [hlen]; exact h.few k, Nat.le_trans hsum hT⟩, hsum⟩
  · unfold Asc
    rw [List.pairwise_iff_getElem]
    intro i j hi' hj' hij
    obtain ⟨b, g1⟩ := hat i (by omega)
    obtain ⟨c, g2⟩ := hat j (by omega)
    rw [List.getElem?_eq_getElem hi'] at g1
    rw [List.getElem?_eq_getElem hj'] at g2
    injection g1 with g1
    injection g2 with g2
    rw [g1, g2]
    exact List.pairwise_iff_getElem.1 hsd i j (by omega) (by omega) hij
  · obtain ⟨i, hil, rfl⟩ := List.getElem_of_mem hp
    obtain ⟨b, g1⟩ := hat i (by omega)
    rw [List.getElem?_eq_getElem hil] at g1
    injection g1 with g1
    rw [g1]
    exact hgn _ (List.getElem_mem _)
theorem ld_bd {q : Int} {fs : List FE} (h : LdOk q fs) (hT : sumL fs ≤ T) (hN : fs.length ≤ N) : Bd (ldS q fs) T N := by
  obtain ⟨h1, h2, h3, _⟩ := ld_facts q fs h.asc
  have e : ∀ i, dirAt (ldS q fs) i = ldL fs 0 := fun i => by unfold dirAt; rw [h1, h3]; simp
  refine ⟨?_, fun i => by rw [e, ldL_len]; exact h.few, fun i => by rw [e]; exact ldL_ids fs 0, by rw [h2, List.length_map]; exact hN⟩
  unfold wtS
  rw [h2, List.map_map]
  refine Nat.le_trans (Nat.le_of_eq ?_) hT
  unfold sumL
  congr 1
end
end Go.Proofs.Ytebeefkibbbkdaa
