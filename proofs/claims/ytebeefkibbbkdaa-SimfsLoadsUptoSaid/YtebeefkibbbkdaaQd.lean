import Derived.Test.YtebeefkibbbkdaaQc
/- chronicleref3: Do: Sync, Append. -/
namespace Go.Proofs.Ytebeefkibbbkdaa
open Go.RowKit Go.Maps

theorem two_past (w : World) (A B : Obj) (g i j : Nat) (u v : Value) (h : g < w.heap.size) : (((w.alloc A).alloc B).setCell ⟨g, i, none⟩ u).setCell ⟨g, j, none⟩ v = (((w.setCell ⟨g, i, none⟩ u).setCell ⟨g, j, none⟩ v).alloc A).alloc B := by
  rw [World.setCell_alloc_past _ _ _ _ (by simp; omega), World.setCell_alloc_past _ _ _ _ h, World.setCell_alloc_past _ _ _ _ (by simp [World.setCell]; omega), World.setCell_alloc_past _ _ _ _ (by simpa [World.setCell] using h)]
theorem RDk.rows {w : World} {L : Nat → Nat} {rb f : Nat} {s : Dk} (h : RDk w L rb s) (hf : f < s.files.length) : ∃ (gF nF cF : Nat) (uP : List (Value × Value)) (vD : Value) (uD : List Value) (p : Value × Value), s.files.length = nF ∧ uP[f]? = some p ∧ RM w L rb (.slice (some ⟨gF, 0, none⟩) nF cF) uP vD uD (s.files.map vers) (s.files.map grow) (dirsL s) s.quota s.fuse s.ops s.dead ∧
    w.cell? ⟨rb, 0, none⟩ = some (.slice (some ⟨gF, 0, none⟩) nF cF) ∧ w.cell? ⟨gF, f * 2, none⟩ = some p.1 ∧ w.frozen? ⟨gF, f * 2, none⟩ = false ∧ w.cell? ⟨gF, f * 2 + 1, none⟩ = some p.2 ∧ w.frozen? ⟨gF, f * 2 + 1, none⟩ = false := by
  obtain ⟨vF, uP, vD, uD, h⟩ := h
  obtain ⟨nF, hnF⟩ : ∃ nF, s.files.length = nF := ⟨_, rfl⟩
  have hul := h.F.ul
  rw [List.length_map] at hul
  obtain ⟨gF, cF, hv, _, _, _⟩ := Own.of_row h.F.r (by rw [List.length_map]; omega)
  subst hv
  obtain ⟨p, hp⟩ : ∃ p, uP[f]? = some p := ⟨_, List.getElem?_eq_getElem (by omega)⟩
  have hr := h.F.r
  rw [List.length_map, hnF] at hr h
  obtain ⟨g1, g2⟩ := pc_get uP f p hp
  obtain ⟨c1, c2⟩ := row_atq hr (by omega) g1
  obtain ⟨c3, c4⟩ := row_atq hr (by omega) g2
  exact ⟨gF, nF, cF, uP, vD, uD, p, hnF, hp, h, h.box.cell 0, c1, c2, c3, c4⟩
theorem RDk.reset {w : World} {L : Nat → Nat} {rb f gF nF cF : Nat} {s : Dk} {uP : List (Value × Value)} {vD bval : Value} {uD : List Value} {p : Value × Value} {y : List UInt8} (h : RM w L rb (.slice (some ⟨gF, 0, none⟩) nF cF) uP vD uD (s.files.map vers) (s.files.map grow) (dirsL s) s.quota s.fuse s.ops s.dead) (hu : uP[f]? = some p) (hf : f < s.files.length) (hx : w.ownsRow 0 5 1 bval y.length (bv y) ∧ Lb L bval 5) :
    ∃ L', RDk ((((w.alloc (.cells #[bval] 22)).alloc (.cells #[.int .i64 (-1)] 3)).setCell ⟨gF, f * 2, none⟩ (.slice (some ⟨w.heap.size, 0, none⟩) 1 1)).setCell ⟨gF, f * 2 + 1, none⟩ (.slice (some ⟨w.heap.size + 1, 0, none⟩) 1 1)) L' rb { s with files := s.files.set f ⟨y, []⟩ } ∧
      Ex w ((((w.alloc (.cells #[bval] 22)).alloc (.cells #[.int .i64 (-1)] 3)).setCell ⟨gF, f * 2, none⟩ (.slice (some ⟨w.heap.size, 0, none⟩) 1 1)).setCell ⟨gF, f * 2 + 1, none⟩ (.slice (some ⟨w.heap.size + 1, 0, none⟩) 1 1)) L L' := by
  obtain ⟨L', h1, h2⟩ := h.resetF hx (ver_get hf).1 (ver_get hf).2 hu
  refine ⟨L', ⟨.slice (some ⟨gF, 0, none⟩) nF cF, uP.set f (.slice (some ⟨w.heap.size, 0, none⟩) 1 1, .slice (some ⟨w.heap.size + 1, 0, none⟩) 1 1), vD, uD, ?_⟩, h2⟩
  rw [fileq_set, fileq_set]
  exact h1
set_option maxRecDepth 100000 in
set_option maxHeartbeats 16000000 in
theorem do4 (rb : Nat) (L : Nat → Nat) (s : Dk) (N n c : Nat) (nm nt : ByteArray) (x y : Int) (A : Option Addr) (bs : List UInt8) (w : World) (h : RDk w L rb s) (hi : s.Inv N) (hN : N ≤ 9999999) (hfm : s.files.length ≤ 9999999) (hz1 : nm.size ≤ maxLen) (hz2 : nt.size ≤ maxLen) (hn : bs.length = n) (hnm : n ≤ 1073741824) :
    Calls Try.prog 60 #[.pointer (some ⟨rb, 0, none⟩), .agg #[.int .i64 4, .string nm, .string nt, .int .i64 x, .int .i64 y, .slice A n c]] w fun e w' => e = .returned (.int .i64 (syncE nm s)) ∧ ∃ L', RDk w' L' rb (syncS nm s) ∧ Ex w w' L L' := by
  have h0 : L w.heap.size = 0 := Classical.byContradiction fun hne => by have := h.lt _ hne; omega
  have hM0 : MidR w (w.alloc (.cells #[.int .i64 4, .string nm, .string nt, .int .i64 x, .int .i64 y, .slice A n c] 111)) L L rb w.heap.size 111 #[.int .i64 4, .string nm, .string nt, .int .i64 x, .int .i64 y, .slice A n c] s := ⟨h.next (Below.al w _), Box.new w _ _, h0, Ex.below (Below.al w _) L⟩
  obtain ⟨vF, vD, hbx⟩ := h.box
  have hdd : (w.alloc (.cells #[.int .i64 4, .string nm, .string nt, .int .i64 x, .int .i64 y, .slice A n c] 111)).cell? ⟨rb, 4, none⟩ = some (.bool s.dead) := by
    obtain ⟨_, _, hb⟩ := hM0.rd.box
    exact hb.cell 4
  have M0 := Lib.hid hM0
  have H := Lib.hid (And.intro hi (And.intro hN (And.intro hfm (And.intro hz1 (And.intro hz2 (And.intro hn (And.intro hnm trivial)))))))
  clear h hi hN hfm hz1 hz2 hn hnm h0 hM0 hbx
  cases hdead : s.dead with
  | true =>
    have HE := Lib.hid (ref_dead (nm := nm) (nt := nt) (bs := bs) (y := y) hdead)
    rw [hdead] at hdd
    go_enter Try.func60, Try.ntmps60
    go_wp2
    go_ret
    rw [HE.out.2.2.2.2.2.2.1, HE.out.2.2.2.2.2.2.2.1]
    exact ⟨rfl, L, M0.out.rd, M0.out.ex⟩
  | false =>
    rw [hdead] at hdd
    by_cases hre : refE 4 nm nt y bs s = 0
    case neg =>
      obtain ⟨er, her⟩ : ∃ er, refE 4 nm nt y bs s = er := ⟨_, rfl⟩
      have hp := ref4 hdead hre
      rw [her] at hp hre
      have HP := Lib.hid hp
      have HR := Lib.hid her
      have hern : (er == 0) = false := by simpa using hre
      clear her hp
      go_enter Try.func60, Try.ntmps60
      go_wp2_with (first
        | (go_at_call 90
           refine (refusal4 rb L s N n c nm nt x y A bs _ M0.out.rd H.out.1 (by have := H.out.2.1; omega) (by have := H.out.2.2.1; omega) H.out.2.2.2.1 H.out.2.2.2.2.1 H.out.2.2.2.2.2.1).mono ?_
           rintro e w1 ⟨rfl, hb1⟩
           rw [HR.out]
           have M1 := Lib.hid (M0.out.next hb1)
           clear hb1 hdd))
      go_ret
      rw [HP.out.1, HP.out.2]
      exact ⟨rfl, L, M1.out.rd, M1.out.ex⟩
    case pos =>
      obtain ⟨f, hget, hE, hS⟩ := ok4 hdead hre
      have hlt : f < s.files.length := H.out.1.seen_ids _ ((get_mem H.out.1.sorted).1 hget)
      have HR := Lib.hid hre
      have HG := Lib.hid (And.intro hget hlt)
      have HL := Lib.hid (show leadW nm (spendS s).seen = (f : Nat) by rw [spend_seen]; exact leadW_some H.out.1.sorted hget)
      have hf0 : (0 : Int) ≤ f := by omega
      clear hget hlt hre
      by_cases hfu : s.fuse = 0
      case pos =>
        have HP := Lib.hid (show syncE nm s = 34 ∧ syncS nm s = spendS s by rw [hE, hS, if_pos hfu]; exact ⟨if_pos hfu, rfl⟩)
        have HFU := Lib.hid (show decide (s.fuse = 0) = true from decide_eq_true hfu)
        clear hfu hE hS
        go_enter Try.func60, Try.ntmps60
        go_wp2_with (first
          | (go_at_call 90
             refine (refusal4 rb L s N n c nm nt x y A bs _ M0.out.rd H.out.1 (by have := H.out.2.1; omega) (by have := H.out.2.2.1; omega) H.out.2.2.2.1 H.out.2.2.2.2.1 H.out.2.2.2.2.2.1).mono ?_
             rintro e w1 ⟨rfl, hb1⟩
             rw [HR.out]
             have M1 := Lib.hid (M0.out.next hb1)
             clear hb1 hdd)
          | (go_at_call 91
             refine (burnsR_any rb L s N _ M1.out.rd H.out.1.rg (by have := H.out.2.1; omega)).mono ?_
             rintro e w2 ⟨rfl, h2, x2⟩
             rw [HFU.out]
             have hxc := (M1.out.step h2 x2).bx.cell
             have M2 := Lib.hid (M1.out.step h2 x2)
             clear h2 x2))
        go_ret
        rw [HP.out.1, HP.out.2]
        exact ⟨rfl, L, M2.out.rd, M2.out.ex⟩
      case neg =>
        have HFU := Lib.hid (show decide (s.fuse = 0) = false from decide_eq_false hfu)
        have HP := Lib.hid (show syncE nm s = 0 ∧ syncS nm s = (spendS s).setF f ⟨(s.fl f).seen, []⟩ by rw [hE, hS, if_neg hfu]; exact ⟨if_neg hfu, rfl⟩)
        clear hE hS hfu
        go_enter Try.func60, Try.ntmps60
        go_wp2_with (first
          | (go_at_call 90
             refine (refusal4 rb L s N n c nm nt x y A bs _ M0.out.rd H.out.1 (by have := H.out.2.1; omega) (by have := H.out.2.2.1; omega) H.out.2.2.2.1 H.out.2.2.2.2.1 H.out.2.2.2.2.2.1).mono ?_
             rintro e w1 ⟨rfl, hb1⟩
             rw [HR.out]
             have M1 := Lib.hid (M0.out.next hb1)
             clear hb1 hdd)
          | (go_at_call 91
             refine (burnsR_any rb L s N _ M1.out.rd H.out.1.rg (by have := H.out.2.1; omega)).mono ?_
             rintro e w2 ⟨rfl, h2, x2⟩
             rw [HFU.out]
             have hxc := (M1.out.step h2 x2).bx.cell
             have M2 := Lib.hid (M1.out.step h2 x2)
             clear h2 x2)
          | (go_at_call 92
             refine (findD_any nm M2.out.rd H.out.1.spend (by have := H.out.2.1; omega)).mono ?_
             rintro e w3 ⟨rfl, k3, hw3⟩
             rw [HL.out]
             have hM3 : MidR w w3 L L rb w.heap.size 111 #[.int .i64 4, .string nm, .string nt, .int .i64 x, .int .i64 y, .slice A n c] (spendS s) := M2.out.next (by rw [hw3]; exact below_drewN (Below.refl _ _) k3)
             have hxc := hM3.bx.cell
             have M3 := Lib.hid hM3
             clear hw3 hM3)
          | (go_at_call 86
             refine (bytesD_any f M3.out.rd H.out.1.spend (by have := H.out.2.1; omega) (by rw [(spend_fields s).1]; exact HG.out.2) (by rw [(spend_fields s).1]; have := H.out.2.2.1; omega)).mono ?_
             rintro e w4 ⟨x4, c4, rfl, hN4, hL4, k4, hw4⟩
             rw [spend_fl] at hN4 hL4 ⊢
             obtain ⟨m4, hm4⟩ : ∃ m4, (s.fl f).seen.length = m4 := ⟨_, rfl⟩
             rw [hm4] at hN4 hL4 ⊢
             have hb4 : Below w3.heap.size w3 w4 := by rw [hw4]; exact below_drewN (Below.refl _ _) k4
             have hM4 := M3.out.next hb4
             have hxc := hM4.bx.cell
             have hr4 := row_next hN4 hb4
             have hm4m : m4 ≤ 1073741824 := by
               have h1 := H.out.1.len_le HG.out.1
               have h2 := H.out.1.ub
               omega
             obtain ⟨gF, nF, cF, uP, vD4, uD, p, hnF, hup, hRM, hc0, hd0, he0, hd1, he1⟩ := hM4.rd.rows (f := f) (by rw [(spend_fields s).1]; exact HG.out.2)
             rw [(spend_fields s).1] at hnF
             have hfn : (f : Int) < nF := Int.ofNat_lt.2 (by rw [← hnF]; exact HG.out.2)
             have hgl := World.block_lt_of_cell? _ _ hd0
             have M4 := Lib.hid (And.intro hM4 (And.intro (show w4.ownsRow 0 5 1 (.slice x4 m4 c4) (s.fl f).seen.length (bv (s.fl f).seen) ∧ Lb L (.slice x4 m4 c4) 5 by rw [hm4]; exact ⟨hr4, hL4⟩) (And.intro hRM hup)))
             clear hRM hup hnF
             clear hw4 hN4 hL4 hm4 hb4 hM4 hr4))
        go_ret
        rw [HP.out.1, HP.out.2]
        obtain ⟨L5, g1, g2⟩ := RDk.reset M4.out.2.2.1 M4.out.2.2.2 (by rw [(spend_fields s).1]; exact HG.out.2) M4.out.2.1
        rw [two_past _ _ _ _ _ _ _ _ hgl] at g1 g2
        exact ⟨rfl, L5, g1, M4.out.1.ex.trans g2⟩
set_option maxRecDepth 100000 in
set_option maxHeartbeats 16000000 in
theorem do2 (rb : Nat) (L : Nat → Nat) (s : Dk) (N n c : Nat) (nm nt : ByteArray) (x y : Int) (A : Option Addr) (bs : List UInt8) (w : World) (h : RDk w L rb s) (hi : s.Inv N) (hN : N ≤ 9999999) (hfm : s.files.length ≤ 9999999) (hz1 : nm.size ≤ maxLen) (hz2 : nt.size ≤ maxLen) (hn : bs.length = n) (hnm : n ≤ 1073741824) (hA : Out w (fun b => L b ≠ 0) A bs) :
    Calls Try.prog 60 #[.pointer (some ⟨rb, 0, none⟩), .agg #[.int .i64 2, .string nm, .string nt, .int .i64 x, .int .i64 y, .slice A n c]] w fun e w' => e = .returned (.int .i64 (appendE nm bs s)) ∧ ∃ L', RDk w' L' rb (appendS nm bs s) ∧ Ex w w' L L' := by
  have h0 : L w.heap.size = 0 := Classical.byContradiction fun hne => by have := h.lt _ hne; omega
  have hM0 : MidR w (w.alloc (.cells #[.int .i64 2, .string nm, .string nt, .int .i64 x, .int .i64 y, .slice A n c] 111)) L L rb w.heap.size 111 #[.int .i64 2, .string nm, .string nt, .int .i64 x, .int .i64 y, .slice A n c] s := ⟨h.next (Below.al w _), Box.new w _ _, h0, Ex.below (Below.al w _) L⟩
  obtain ⟨vF, vD, hbx⟩ := h.box
  have hdd : (w.alloc (.cells #[.int .i64 2, .string nm, .string nt, .int .i64 x, .int .i64 y, .slice A n c] 111)).cell? ⟨rb, 4, none⟩ = some (.bool s.dead) := by
    obtain ⟨_, _, hb⟩ := hM0.rd.box
    exact hb.cell 4
  have M0 := Lib.hid hM0
  have H := Lib.hid (And.intro hi (And.intro hN (And.intro hfm (And.intro hz1 (And.intro hz2 (And.intro hn (And.intro hnm hA)))))))
  clear h hi hN hfm hz1 hz2 hn hnm hA h0 hM0 hbx
  cases hdead : s.dead with
  | true =>
    have HE := Lib.hid (ref_dead (nm := nm) (nt := nt) (bs := bs) (y := y) hdead)
    rw [hdead] at hdd
    go_enter Try.func60, Try.ntmps60
    go_wp2
    go_ret
    rw [HE.out.2.2.1, HE.out.2.2.2.1]
    exact ⟨rfl, L, M0.out.rd, M0.out.ex⟩
  | false =>
    rw [hdead] at hdd
    by_cases hre : refE 2 nm nt y bs s = 0
    case neg =>
      obtain ⟨er, her⟩ : ∃ er, refE 2 nm nt y bs s = er := ⟨_, rfl⟩
      have hp := ref2 hdead hre
      rw [her] at hp hre
      have HP := Lib.hid hp
      have HR := Lib.hid her
      have hern : (er == 0) = false := by simpa using hre
      clear her hp
      go_enter Try.func60, Try.ntmps60
      go_wp2_with (first
        | (go_at_call 90
           refine (refusal2 rb L s N n c nm nt x y A bs _ M0.out.rd H.out.1 (by have := H.out.2.1; omega) (by have := H.out.2.2.1; omega) H.out.2.2.2.1 H.out.2.2.2.2.1 H.out.2.2.2.2.2.1 (by have := H.out.2.2.2.2.2.2.1; omega)).mono ?_
           rintro e w1 ⟨rfl, hb1⟩
           rw [HR.out]
           have M1 := Lib.hid (M0.out.next hb1)
           clear hb1 hdd))
      go_ret
      rw [HP.out.1, HP.out.2]
      exact ⟨rfl, L, M1.out.rd, M1.out.ex⟩
    case pos =>
      obtain ⟨f, hget, hE, hS⟩ := ok2 hdead hre
      have hlt : f < s.files.length := H.out.1.seen_ids _ ((get_mem H.out.1.sorted).1 hget)
      have HR := Lib.hid hre
      have HG := Lib.hid (And.intro hget hlt)
      have HL := Lib.hid (show leadW nm (spendS s).seen = (f : Nat) by rw [spend_seen]; exact leadW_some H.out.1.sorted hget)
      have hf0 : (0 : Int) ≤ f := by omega
      clear hget hlt hre
      by_cases hfu : s.fuse = 0
      case pos =>
        have HP := Lib.hid (show appendE nm bs s = 34 ∧ appendS nm bs s = spendS s by rw [hE, hS, if_pos hfu]; exact ⟨if_pos hfu, rfl⟩)
        have HFU := Lib.hid (show decide (s.fuse = 0) = true from decide_eq_true hfu)
        clear hfu hE hS
        go_enter Try.func60, Try.ntmps60
        go_wp2_with (first
          | (go_at_call 90
             refine (refusal2 rb L s N n c nm nt x y A bs _ M0.out.rd H.out.1 (by have := H.out.2.1; omega) (by have := H.out.2.2.1; omega) H.out.2.2.2.1 H.out.2.2.2.2.1 H.out.2.2.2.2.2.1 (by have := H.out.2.2.2.2.2.2.1; omega)).mono ?_
             rintro e w1 ⟨rfl, hb1⟩
             rw [HR.out]
             have M1 := Lib.hid (M0.out.next hb1)
             clear hb1 hdd)
          | (go_at_call 91
             refine (burnsR_any rb L s N _ M1.out.rd H.out.1.rg (by have := H.out.2.1; omega)).mono ?_
             rintro e w2 ⟨rfl, h2, x2⟩
             rw [HFU.out]
             have hxc := (M1.out.step h2 x2).bx.cell
             have M2 := Lib.hid (M1.out.step h2 x2)
             clear h2 x2))
        go_ret
        rw [HP.out.1, HP.out.2]
        exact ⟨rfl, L, M2.out.rd, M2.out.ex⟩
      case neg =>
        have HFU := Lib.hid (show decide (s.fuse = 0) = false from decide_eq_false hfu)
        have HP := Lib.hid (show appendE nm bs s = 0 ∧ appendS nm bs s = { (spendS s).addC f (.inl bs) with used := s.used + bs.length } by rw [hE, hS, if_neg hfu]; exact ⟨if_neg hfu, rfl⟩)
        clear hE hS hfu
        obtain ⟨i1, hi1, hz1', hs1, hy1⟩ := info_parts info_u8
        have HBL := Lib.hid (show (bv bs).length = n * 1 by rw [bv_len, H.out.2.2.2.2.2.1, Nat.mul_one])
        go_enter Try.func60, Try.ntmps60
        go_wp2_with (first
          | (go_at_call 90
             refine (refusal2 rb L s N n c nm nt x y A bs _ M0.out.rd H.out.1 (by have := H.out.2.1; omega) (by have := H.out.2.2.1; omega) H.out.2.2.2.1 H.out.2.2.2.2.1 H.out.2.2.2.2.2.1 (by have := H.out.2.2.2.2.2.2.1; omega)).mono ?_
             rintro e w1 ⟨rfl, hb1⟩
             rw [HR.out]
             have M1 := Lib.hid (M0.out.next hb1)
             clear hb1 hdd)
          | (go_at_call 91
             refine (burnsR_any rb L s N _ M1.out.rd H.out.1.rg (by have := H.out.2.1; omega)).mono ?_
             rintro e w2 ⟨rfl, h2, x2⟩
             rw [HFU.out]
             have hxc := (M1.out.step h2 x2).bx.cell
             have M2 := Lib.hid (M1.out.step h2 x2)
             clear h2 x2)
          | (go_at_call 92
             refine (findD_any nm M2.out.rd H.out.1.spend (by have := H.out.2.1; omega)).mono ?_
             rintro e w3 ⟨rfl, k3, hw3⟩
             rw [HL.out]
             have hM3 : MidR w w3 L L rb w.heap.size 111 #[.int .i64 2, .string nm, .string nt, .int .i64 x, .int .i64 y, .slice A n c] (spendS s) := M2.out.next (by rw [hw3]; exact below_drewN (Below.refl _ _) k3)
             have hxc := hM3.bx.cell
             have M3 := Lib.hid hM3
             clear hw3 hM3)
          | (go_at_call 86
             refine (bytesD_any f M3.out.rd H.out.1.spend (by have := H.out.2.1; omega) (by rw [(spend_fields s).1]; exact HG.out.2) (by rw [(spend_fields s).1]; have := H.out.2.2.1; omega)).mono ?_
             rintro e w4 ⟨x4, c4, rfl, hN4, hL4, k4, hw4⟩
             rw [spend_fl] at hN4 hL4 ⊢
             obtain ⟨m4, hm4⟩ : ∃ m4, (s.fl f).seen.length = m4 := ⟨_, rfl⟩
             rw [hm4] at hN4 hL4 ⊢
             have hb4 : Below w3.heap.size w3 w4 := by rw [hw4]; exact below_drewN (Below.refl _ _) k4
             have hM4 := M3.out.next hb4
             have hxc := hM4.bx.cell
             have hr4 := row_next hN4 hb4
             have hm4m : m4 ≤ 1073741824 := by
               have h1 := H.out.1.len_le HG.out.1
               have h2 := H.out.1.ub
               omega
             have M4 := Lib.hid (And.intro hM4 (And.intro hr4 hm4))
             clear hw4 hN4 hL4 hm4 hb4 hM4 hr4)
          | (go_at_call 47
             refine (copiedR_any x4 m4 c4 (s.fl f).seen _ (row_rd M4.out.2.1) M4.out.2.2 (by omega)).mono ?_
             rintro e w5 ⟨x5, c5, rfl, hr5, hb5⟩
             have hxc := (M4.out.1.next hb5).bx.cell
             have M5 := Lib.hid (And.intro hb5 hr5)
             clear hr5 hb5)
          | (at_builtin
             refine wpList_app _ rfl (.tmp 68) (.tmp 70) _ rfl w4.heap.size 5 i1 _ 1 1 Try.underlying22 hi1 hz1' hs1 hy1 rfl (by omega) (.slice x5 m4 c5) m4 _ rfl M5.out.2 w5.heap.size A n c (bv bs) rfl HBL.out (Rd.next (H.out.2.2.2.2.2.2.2.ex M4.out.1.ex).1 M5.out.1) (one_bv _) (by unfold maxLen; have := H.out.2.2.2.2.2.2.1; omega) (by have := H.out.2.2.2.2.2.2.1; omega) M5.out.1.size ?_
             intro v6 w6 hown6 hg6 _
             obtain ⟨x6, c6, hv6⟩ := row_slice hown6
             subst hv6
             have hb6 : Below w4.heap.size w4 w6 := Below.grown M5.out.1 hg6 M5.out.1.size (fun j e => (M5.out.2.lt j e).1)
             have hM6 := M4.out.1.next hb6
             have hxc := hM6.bx.cell
             obtain ⟨g1, g2, g3, g4⟩ := M4.out.1.rd.row (a := 5) hb6 hown6 (by decide)
             have M6 := Lib.hid (And.intro (M4.out.1.step g1 g4) (And.intro g2 g3))
             clear hown6 hg6 hb6 hM6 g1 g2 g3 g4)
          | (go_at_call 95
             refine (changeD_any f (.inl bs) ((s.fl f).seen ++ bs) (m4 + n) x6 c6 n M6.out.1.rd (by rw [(spend_fields s).1]; exact HG.out.2) (by rw [(spend_fields s).1]; have := H.out.2.2.1; omega) (by rw [spend_fl]; have := H.out.1.sz.f _ (fl_mem HG.out.2); have := H.out.2.1; omega) (by rw [spend_fl]; rfl) (by rw [← H.out.2.2.2.2.2.1]; rfl) (by rw [List.length_append, M4.out.2.2, H.out.2.2.2.2.2.1]) ⟨by rw [bv_app]; exact M6.out.2.1, M6.out.2.2⟩).mono ?_
             rintro e w7 ⟨rfl, L7, g1, g2⟩
             have M7 := Lib.hid (M6.out.1.step g1 g2)
             clear g1 g2))
        go_ret
        rw [HP.out.1, HP.out.2]
        refine ⟨rfl, L7, M7.out.rd.congr ?_ rfl rfl rfl rfl rfl rfl, M7.out.ex⟩
        show (spendS s).files.set _ _ = (spendS s).files.set _ _
        rfl
end Go.Proofs.Ytebeefkibbbkdaa
/- chronicleref3: Picks.next; what a disk of the document holds, cell by cell. -/
namespace Go.Proofs.Ytebeefkibbbkdaa
open Go.RowKit Go.Maps

/-- The picks, the place of the next one. -/
def PQ (w : World) (pb B : Nat) (all : List Int) (k : Nat) : Prop := ∃ A c, Box w pb 170 #[.slice A all.length c, .int .i64 (k : Nat)] ∧ Rd w B A (all.map (Value.int .i64)) ∧ k ≤ all.length ∧ B ≤ pb ∧ B ≤ w.heap.size ∧ (∀ x ∈ all, (Lit.int .i64 x).wf = true) ∧ all.length ≤ 140737488355328
/-- One more pick is taken. -/
def Drops (all : List Int) (k k2 : Nat) : Prop := all.drop k2 = (all.drop k).tail
theorem PQ.keep {w w' : World} {pb B k : Nat} {all : List Int} (h : PQ w pb B all k) (hb : Below B w w') (hp : w'.heap[pb]? = w.heap[pb]?) : PQ w' pb B all k := by
  obtain ⟨A, c, h1, h2, h3, h4, h5, h6, h7⟩ := h
  exact ⟨A, c, hp.trans h1, h2.below hb, h3, h4, Nat.le_trans h5 hb.size, h6, h7⟩
theorem PQ.next {w w' : World} {pb B k : Nat} {all : List Int} (h : PQ w pb B all k) (hb : Below w.heap.size w w') : PQ w' pb B all k := by
  obtain ⟨A, c, h1, h2, h3, h4, h5, h6, h7⟩ := id h
  exact h.keep (hb.mono h5) (hb.block pb h1.lt)
theorem PQ.lt {w : World} {pb B k : Nat} {all : List Int} (h : PQ w pb B all k) : pb < w.heap.size := by
  obtain ⟨A, c, h1, _⟩ := h
  exact h1.lt
theorem PQ.far {w w' : World} {pb B k g : Nat} {all : List Int} (h : PQ w pb B all k) (hc : Chg (fun b => b = g) w w') (hB : B ≤ g) (hg : g ≠ pb) : PQ w' pb B all k := by
  have hl := h.lt
  obtain ⟨A, c, h1, h2, h3, h4, h5, h6, h7⟩ := id h
  exact h.keep (hc.below h5 fun b e => by subst e; exact hB) (hc.block pb hl fun e => hg e.symm)
set_option maxRecDepth 100000 in
set_option maxHeartbeats 4000000 in
theorem nextR_any (pb B n k : Nat) (all : List Int) (nn : Int) (w : World) (h : PQ w pb B all k) (hnn : nn = n) (hn : 0 < n) (hm : n ≤ 1000000000000000) :
    Calls Try.prog 104 #[.pointer (some ⟨pb, 0, none⟩), .int .i64 nn] w fun e w' => e = .returned (.int .i64 (modn (pickV (all.drop k)) n)) ∧ (∃ k2, PQ w' pb B all k2 ∧ Drops all k k2) ∧ Chg (fun b => b = pb) w w' := by
  subst hnn
  obtain ⟨A, c, h1, h2, h3, h4, h5, h6, h7⟩ := id h
  obtain ⟨np, hnp⟩ : ∃ np, all.length = np := ⟨_, rfl⟩
  rw [hnp] at h1 h3 h7
  have hxc := h1.cell
  have hxf := h1.free
  have hxl := h1.lt
  have hn1 : (1 : Int) ≤ n := by omega
  have hnz : ¬ (n : Int) = 0 := by omega
  by_cases hlt : k < np
  case neg =>
    have hd : all.drop k = [] := List.drop_eq_nil_of_le (by omega)
    have HM := Lib.hid (show modn (pickV (all.drop k)) n = 0 by rw [hd]; simp [pickV, modn])
    have H := Lib.hid (And.intro h hd)
    have hl0 : decide ((k : Int) < np) = false := decide_eq_false (by omega)
    have hl1 : decide (k < np) = false := decide_eq_false (by omega)
    clear h h1 h2 h3 h4 h5 h6 h7 hnp hd hlt
    go_enter Try.func104, Try.ntmps104
    go_upto_region 2 with fail
    go_quiet (fail)
    generalize hw1 : w.drewN _ = w1
    have HW := Lib.hid hw1
    clear hxc hxf hxl hw1
    go_wp2
    go_ret
    have hb : Below w.heap.size w w1 := by rw [← HW.out]; exact below_drewN (Below.refl _ _) _
    exact ⟨ret_int (by rw [HM.out]; simp), ⟨k, H.out.1.next hb, by unfold Drops; rw [H.out.2]; rfl⟩, Chg.of_below hb _⟩
  case pos =>
    have hkl : k < all.length := by omega
    obtain ⟨x, hx⟩ : ∃ x, all[k] = x := ⟨_, rfl⟩
    have hd : all.drop k = x :: all.drop (k + 1) := by rw [List.drop_eq_getElem_cons hkl, hx]
    have HM := Lib.hid (show pickV (all.drop k) = x by rw [hd]; rfl)
    have hwx := h6 x (hx ▸ List.getElem_mem hkl)
    have hxr : -9223372036854775808 ≤ x ∧ x ≤ 9223372036854775807 := by simp [Lit.wf, IntKind.min, IntKind.max, IntKind.signed, IntKind.bits] at hwx; omega
    have HC := Lib.hid (modn_cast x hn)
    have HT := Lib.hid (tmod_mod x hn)
    have HX := Lib.hid hxr
    obtain ⟨ad, rfl, hadb, hac⟩ := h2 k (.int .i64 x) (by rw [List.getElem?_map, List.getElem?_eq_getElem hkl, hx]; rfl)
    have hl0 : decide ((k : Int) < np) = true := decide_eq_true (by omega)
    have hl1 : decide (k < np) = true := decide_eq_true (by omega)
    have hk0 : (0 : Int) ≤ k := by omega
    have hk1 : (k : Int) < np := by omega
    have hkw : IntKind.i64.wrap ((k : Int) + 1) = (k : Int) + 1 := IntWalk.i64_in _ (by omega)
    have H := Lib.hid (And.intro h1 (And.intro h2 (And.intro hd (And.intro hnp (And.intro (show k + 1 ≤ np by omega) (And.intro h4 (And.intro h5 (And.intro h6 h7))))))))
    have HA := Lib.hid hac
    have HFIN : Hid (∀ v, (∃ q, v = w.drewN q) → (∃ k2, PQ (v.setCell ⟨pb, 1, none⟩ (.int .i64 ((k : Int) + 1))) pb B all k2 ∧ Drops all k k2) ∧ Chg (fun b => b = pb) w (v.setCell ⟨pb, 1, none⟩ (.int .i64 ((k : Int) + 1)))) := by
      rintro v ⟨q, rfl⟩
      obtain ⟨g1, g2, g3, g4, g5, g6, g7, g8, g9⟩ := H.out
      refine ⟨⟨k + 1, ⟨some ad, c, ?_, ?_, by omega, g6, by simpa [World.setCell] using g7, g8, by omega⟩, by unfold Drops; rw [g3]; rfl⟩, chg_at ((Chg.refl (fun b => b = pb) w).drewN q) _ _⟩
      · have := (g1.drewN q).set_ 1 (.int .i64 ((k : Int) + 1))
        rw [g4]
        simpa using this
      · exact g2.below ((below_drewN (Below.refl _ _) q).setCell g6 _)
    clear h h1 h2 h3 h4 h5 h6 h7 hnp hd hlt hkl hx hwx hxr hadb
    by_cases hx0 : 0 ≤ x
    · have hr : ¬ x % (n : Int) < 0 := by have := Int.emod_nonneg x (show (n : Int) ≠ 0 by omega); omega
      have hr0 : 0 ≤ x % (n : Int) := by omega
      have hac := HA.out
      go_enter Try.func104, Try.ntmps104
      go_upto_region 2 with fail
      go_quiet (fail)
      generalize hw1 : w.drewN _ = w1
      have hB1 : Box w1 pb 170 #[.slice (some ad) np c, .int .i64 (k : Nat)] := by rw [← hw1]; exact H.out.1.drewN _
      have hc1 := hB1.cell
      have ha1 : w1.cell? (ad.add k) = some (.int .i64 x) := by rw [← hw1]; exact hac
      have HB1 := Lib.hid (And.intro hB1 hw1)
      clear hxc hxf hxl hac hB1 hw1
      go_upto_region 3 with fail
      go_quiet (fail)
      generalize hw2 : w1.drewN _ = w2
      have hB2 : Box w2 pb 170 #[.slice (some ad) np c, .int .i64 (k : Nat)] := by rw [← hw2]; exact HB1.out.1.drewN _
      have hc2 := hB2.cell
      have hf2 := hB2.free
      have hl2 := hB2.lt
      have HF := Lib.hid (HFIN.out w2 ⟨_, by rw [← hw2, ← HB1.out.2]; exact World.drewN_drewN ..⟩)
      clear hc1 ha1 hB2 hw2
      go_wp2
      go_ret
      exact ⟨ret_int (by rw [HM.out]; exact HC.out.symm), HF.out⟩
    · rcases HT.out with ⟨h1, h2⟩ | ⟨h1, h2, h3⟩
      · have hge : decide (0 ≤ x.tmod n) = true := decide_eq_true h1
        have H2 := Lib.hid h2
        clear h2
        have hac := HA.out
        go_enter Try.func104, Try.ntmps104
        go_upto_region 2 with fail
        go_quiet (fail)
        generalize hw1 : w.drewN _ = w1
        have hB1 : Box w1 pb 170 #[.slice (some ad) np c, .int .i64 (k : Nat)] := by rw [← hw1]; exact H.out.1.drewN _
        have hc1 := hB1.cell
        have ha1 : w1.cell? (ad.add k) = some (.int .i64 x) := by rw [← hw1]; exact hac
        have HB1 := Lib.hid (And.intro hB1 hw1)
        clear hxc hxf hxl hac hB1 hw1
        go_upto_region 3 with fail
        go_quiet (fail)
        generalize hw2 : w1.drewN _ = w2
        have hB2 : Box w2 pb 170 #[.slice (some ad) np c, .int .i64 (k : Nat)] := by rw [← hw2]; exact HB1.out.1.drewN _
        have hc2 := hB2.cell
        have hf2 := hB2.free
        have hl2 := hB2.lt
        have HF := Lib.hid (HFIN.out w2 ⟨_, by rw [← hw2, ← HB1.out.2]; exact World.drewN_drewN ..⟩)
        clear hc1 ha1 hB2 hw2
        go_wp2
        go_ret
        exact ⟨ret_int (by rw [HM.out]; rw [HC.out, ← H2.out]), HF.out⟩
      · have hge : ¬ 0 ≤ x.tmod n := by omega
        have H2 := Lib.hid h2
        have h4 : x.tmod n + n ≤ 1000000000000000 := by omega
        clear h2
        have hac := HA.out
        go_enter Try.func104, Try.ntmps104
        go_upto_region 2 with fail
        go_quiet (fail)
        generalize hw1 : w.drewN _ = w1
        have hB1 : Box w1 pb 170 #[.slice (some ad) np c, .int .i64 (k : Nat)] := by rw [← hw1]; exact H.out.1.drewN _
        have hc1 := hB1.cell
        have ha1 : w1.cell? (ad.add k) = some (.int .i64 x) := by rw [← hw1]; exact hac
        have HB1 := Lib.hid (And.intro hB1 hw1)
        clear hxc hxf hxl hac hB1 hw1
        go_upto_region 3 with fail
        go_quiet (fail)
        generalize hw2 : w1.drewN _ = w2
        have hB2 : Box w2 pb 170 #[.slice (some ad) np c, .int .i64 (k : Nat)] := by rw [← hw2]; exact HB1.out.1.drewN _
        have hc2 := hB2.cell
        have hf2 := hB2.free
        have hl2 := hB2.lt
        have HF := Lib.hid (HFIN.out w2 ⟨_, by rw [← hw2, ← HB1.out.2]; exact World.drewN_drewN ..⟩)
        clear hc1 ha1 hB2 hw2
        go_wp2
        go_ret
        exact ⟨ret_int (by rw [HM.out]; rw [HC.out, ← H2.out]), HF.out⟩
/-- A directory of the document's disk. -/
theorem RDk.dir_ {w : World} {L : Nat → Nat} {rb k : Nat} {s : Dk} (h : RDk w L rb s) (hk : k ≤ s.dchs.length) :
    ∃ (gD nD cD : Nat) (x : Option Addr) (cx : Nat), nD = s.dchs.length + 1 ∧ w.cell? ⟨rb, 1, none⟩ = some (.slice (some ⟨gD, 0, none⟩) nD cD) ∧ L gD ≠ 0 ∧ w.cell? ⟨gD, k, none⟩ = some (.slice x (dirAt s k).length cx) ∧ LnkM w L (.slice x (dirAt s k).length cx) (dirAt s k) := by
  obtain ⟨vF, uP, vD, uD, h⟩ := h
  have hr := h.D.r
  rw [dirs_len] at hr
  obtain ⟨gD, cD, rfl, _, _, _⟩ := Own.of_row hr (by omega)
  have hul : uD.length = s.dchs.length + 1 := by have := hr.1; simpa using this
  obtain ⟨u, hu⟩ : ∃ u, uD[k]? = some u := ⟨_, List.getElem?_eq_getElem (by omega)⟩
  have hd : (dirsL s)[k]? = some (dirAt s k) := by
    unfold dirsL
    rw [List.getElem?_map, List.getElem?_range (by omega)]
    rfl
  have hN := h.D.f k _ u hd hu
  obtain ⟨x, cx, rfl⟩ := row_slice hN.1
  exact ⟨gD, _, cD, x, cx, rfl, h.box.cell 1, by rw [h.D.l gD rfl]; decide, (row_atq hr (by omega) hu).1, hN⟩
/-- A file of the document's disk: its states, its growths. -/
theorem RDk.file_ {w : World} {L : Nat → Nat} {rb k : Nat} {s : Dk} (h : RDk w L rb s) (hk : k < s.files.length) :
    ∃ (gF nF cF gu cu gg cg : Nat), nF = s.files.length ∧ L rb ≠ 0 ∧ L gF ≠ 0 ∧ L gu ≠ 0 ∧ L gg ≠ 0 ∧ w.cell? ⟨rb, 0, none⟩ = some (.slice (some ⟨gF, 0, none⟩) nF cF) ∧ w.cell? ⟨gF, k * 2, none⟩ = some (.slice (some ⟨gu, 0, none⟩) ((s.fl k).chs.length + 1) cu) ∧ w.cell? ⟨gF, k * 2 + 1, none⟩ = some (.slice (some ⟨gg, 0, none⟩) ((s.fl k).chs.length + 1) cg) ∧
      (∀ j, j ≤ (s.fl k).chs.length → ∃ (x : Option Addr) (c : Nat), w.cell? ⟨gu, j, none⟩ = some (.slice x (((s.fl k).chs.take j).foldl fdo (s.fl k).safe).length c) ∧ w.ownsRow 0 5 1 (.slice x (((s.fl k).chs.take j).foldl fdo (s.fl k).safe).length c) (((s.fl k).chs.take j).foldl fdo (s.fl k).safe).length (bv (((s.fl k).chs.take j).foldl fdo (s.fl k).safe)) ∧ Lb L (.slice x (((s.fl k).chs.take j).foldl fdo (s.fl k).safe).length c) 5) ∧
      (∀ (j : Nat) (z : Int), (grow (s.fl k))[j]? = some z → w.cell? ⟨gg, j, none⟩ = some (.int .i64 z)) := by
  obtain ⟨gF, nF, cF, uP, vD, uD, p, hnF, hup, h, hc0, hd0, _, hd1, _⟩ := h.rows hk
  obtain ⟨us, r1, r2, r3⟩ := h.F.f k _ p (ver_get hk).1 hup
  obtain ⟨q1, q2⟩ := h.F.g k _ p (ver_get hk).2 hup
  rw [vers_len] at r1
  have hgl : (grow (s.fl k)).length = (s.fl k).chs.length + 1 := by simp [grow]
  rw [hgl] at q1
  obtain ⟨gu, cu, hu, _, _, _⟩ := Own.of_row r1 (by omega)
  obtain ⟨gg, cg, hg, _, _, _⟩ := Own.of_row q1 (by omega)
  rw [hu] at r1 r2 hd0
  rw [hg] at q1 q2 hd1
  have hul : us.length = (s.fl k).chs.length + 1 := by have := r1.1; simpa using this
  refine ⟨gF, nF, cF, gu, cu, gg, cg, hnF.symm, by rw [h.lp]; decide, by rw [h.F.l gF rfl]; decide, by rw [r2 gu rfl]; omega, by rw [q2 gg rfl]; omega, hc0, hd0, hd1, fun j hj => ?_, fun j z hz => ?_⟩
  · obtain ⟨u, hu2⟩ : ∃ u, us[j]? = some u := ⟨_, List.getElem?_eq_getElem (by omega)⟩
    obtain ⟨k1, k2⟩ := r3 j _ u (vers_get (s.fl k) hj) hu2
    obtain ⟨x, c, rfl⟩ := row_slice k1
    exact ⟨x, c, (row_atq r1 (by omega) hu2).1, k1, k2⟩
  · exact (row_atq q1 (by omega) (by rw [List.getElem?_map, hz]; rfl)).1
/-- The document's disk, behind a change of another's block. -/
theorem RDk.far {w w' : World} {L : Nat → Nat} {rb pb : Nat} {s : Dk} (h : RDk w L rb s) (hc : Chg (fun b => b = pb) w w') (hp : L pb = 0) : RDk w' L rb s := by
  obtain ⟨vF, uP, vD, uD, h⟩ := h
  exact ⟨vF, uP, vD, uD, h.keep hc.size fun b hb => hc.block b (h.lt b hb) fun e => hb (by rw [e]; exact hp)⟩
end Go.Proofs.Ytebeefkibbbkdaa
/- chronicleref3: Crash. -/
namespace Go.Proofs.Ytebeefkibbbkdaa
open Go.RowKit Go.Maps

theorem cell_far {w w' : World} {L : Nat → Nat} {pb : Nat} {p : Addr} {u : Value} (h : w.cell? p = some u) (hc : Chg (fun b => b = pb) w w') (hp : L pb = 0) (hL : L p.block ≠ 0) : w'.cell? p = some u := by
  rw [← h]
  exact cell_heap (hc.block _ (World.block_lt_of_cell? w _ h) fun e => hL (by rw [e]; exact hp))
theorem row_far2 {w w' : World} {L : Nat → Nat} {pb z n a : Nat} {e : TypeId} {v : Value} {xs : List Value} (h : w.ownsRow 0 e z v n xs) (hc : Chg (fun b => b = pb) w w') (hp : L pb = 0) (hL : Lb L v a) (ha : a ≠ 0) : w'.ownsRow 0 e z v n xs :=
  row_block h fun k hk => hc.block k (h.lt k hk).2 fun e => ha (by rw [← hL k hk, e]; exact hp)
theorem crash_stepQ {w5 wr w6 w8 : World} {pb tl c6 k : Nat} {pp : List (ByteArray × List UInt8)} {us : List Value} {v v' : Value} {n : ByteArray} {b6 : Option Addr} {bs : List UInt8} {ps : List Int} (hc : Chg (fun b => b = pb) w5 wr) (hp : pb < w5.heap.size) (htl : bs.length = tl)
    (h1 : FLs (w6.alloc (.cells #[.string n, .slice b6 tl c6] 37)) w5.heap.size pp us v) (h2 : (w6.alloc (.cells #[.string n, .slice b6 tl c6] 37)).ownsRow w5.heap.size 5 1 (.slice b6 tl c6) tl (bv bs)) (h3 : Chg (fun b => b = pb) wr (w6.alloc (.cells #[.string n, .slice b6 tl c6] 37)))
    (hown : w8.ownsRow w5.heap.size 37 2 v' (pp.length + 1) ((pp.zip us).flatMap fcell ++ [.string n, .slice b6 tl c6])) (hg : (w6.alloc (.cells #[.string n, .slice b6 tl c6] 37)).grownBy w8 v.ownBlock) (hP : PQ w6 pb pb ps k) :
    FLs w8 w5.heap.size (pp ++ [(n, bs)]) (us ++ [.slice b6 tl c6]) v' ∧ PQ w8 pb pb ps k ∧ Chg (fun b => b = pb) w5 w8 := by
  subst htl
  have hold : ∀ k, v.ownBlock = some k → w5.heap.size ≤ k := fun k hk => (h1.2.1.lt k hk).1
  have hc8 : Chg (fun k => v.ownBlock = some k) (w6.alloc (.cells #[.string n, .slice b6 bs.length c6] 37)) w8 := (Chg.refl _ _).grown hg fun k hk => .inl hk
  have hP7 : PQ (w6.alloc (.cells #[.string n, .slice b6 bs.length c6] 37)) pb pb ps k := hP.next (Below.al w6 _)
  have hl7 := hP7.lt
  obtain ⟨_, _, _, _, _, _, hBw, _, _⟩ := id hP7
  refine ⟨h1.add ⟨b6, c6, rfl⟩ h2 hg hown, hP7.keep (hc8.below hBw fun b hb => by have := hold b hb; omega) (hc8.block pb hl7 fun hb => by have := hold pb hb; omega), (hc.trans h3).trans' hc8 fun j hj hj2 => by have := hold j hj2; omega⟩
theorem row_far' {w w' : World} {pb B z n : Nat} {e : TypeId} {v : Value} {xs : List Value} (h : w.ownsRow B e z v n xs) (hc : Chg (fun b => b = pb) w w') (hp : pb < B) : w'.ownsRow B e z v n xs :=
  row_block h fun k hk => hc.block k (h.lt k hk).2 fun e => by have := (h.lt k hk).1; omega
set_option maxRecDepth 100000 in
set_option maxHeartbeats 16000000 in
theorem crashR_any (rb : Nat) (L : Nat → Nat) (s : Dk) (N c np : Nat) (ps : List Int) (A : Option Addr) (w : World) (h : RDk w L rb s) (hi : s.Inv N) (hN : N ≤ 9999999) (hP : Rd w w.heap.size A (ps.map (Value.int .i64))) (hnp : ps.length = np) (hwf : ∀ x ∈ ps, (Lit.int .i64 x).wf = true) (hpl : np ≤ 140737488355328) :
    Calls Try.prog 65 #[.pointer (some ⟨rb, 0, none⟩), .slice A np c] w fun e w' => ∃ us b cap, e = .returned (.slice b (crashL s ps).length cap) ∧ FLs w' w.heap.size (crashL s ps) us (.slice b (crashL s ps).length cap) ∧ Below w.heap.size w w' := by
  obtain ⟨i1, hi1, hz1, hs1, hy1⟩ := info_parts info_file
  obtain ⟨i2, hi2, hz2, hs2, hy2⟩ := info_parts info_u8
  have hbl := Below.al w (.cells #[.slice A np c, .int .i64 0] 170)
  have hp0 : L w.heap.size = 0 := Classical.byContradiction fun hne => by have := h.lt _ hne; omega
  have hR1 := h.next hbl
  have hP1 : PQ (w.alloc (.cells #[.slice A np c, .int .i64 0] 170)) w.heap.size w.heap.size ps 0 := ⟨A, c, by rw [hnp]; exact Box.new w _ _, hP.below hbl, Nat.zero_le _, Nat.le_refl _, hbl.size, hwf, by rw [hnp]; exact hpl⟩
  obtain ⟨md, hmd⟩ : ∃ md, s.dchs.length = md := ⟨_, rfl⟩
  have hmdl : md ≤ 99999999 := by have := hi.sz.d; omega
  obtain ⟨gD0, nD, cD, _, _, hnD, hcD, _, _, _⟩ := hR1.dir_ (k := 0) (Nat.zero_le _)
  rw [hmd] at hnD
  obtain ⟨mv, hmv⟩ : ∃ mv, modn (pickV ps) (md + 1) = mv := ⟨_, rfl⟩
  have hmvl : mv ≤ md := by have := modn_lt (pickV ps) (show 0 < md + 1 by omega); omega
  have H := Lib.hid (And.intro h (And.intro hi (And.intro hN (And.intro hp0 (And.intro hR1 (And.intro hP1 (And.intro hbl (And.intro hmd (And.intro hmv hnD)))))))))
  clear h hi hN hP hnp hwf hpl hp0 hR1 hP1 hbl hmd hmv
  subst hnD
  go_enter Try.func65, Try.ntmps65
  go_upto_region 5 with (first
    | (go_at_call 104
       refine (nextR_any w.heap.size w.heap.size (md + 1) 0 ps _ _ H.out.2.2.2.2.2.1 (by first | rfl | omega) (by omega) (by omega)).mono ?_
       rintro e w2 ⟨rfl, ⟨k2, hp2, hd2⟩, hc2⟩
       rw [List.drop_zero, H.out.2.2.2.2.2.2.2.2.1]
       have hR2 := H.out.2.2.2.2.1.far hc2 H.out.2.2.2.1
       obtain ⟨gD, nD2, cD2, dx, dc, hn2, hg1, hg2, hg3, hg4⟩ := hR2.dir_ (k := mv) (by rw [H.out.2.2.2.2.2.2.2.1]; exact hmvl)
       rw [H.out.2.2.2.2.2.2.2.1] at hn2
       subst hn2
       obtain ⟨lf, hlf⟩ : ∃ lf, dirAt s mv = lf := ⟨_, rfl⟩
       rw [hlf] at hg3 hg4
       obtain ⟨dk, hdk⟩ : ∃ dk, lf.length = dk := ⟨_, rfl⟩
       rw [hdk] at hg3 hg4
       have hmv0 : (0 : Int) ≤ mv := by omega
       have hmv1 : (mv : Int) < ((md + 1 : Nat) : Int) := by omega
       have X2 := Lib.hid (And.intro hR2 (And.intro hp2 (And.intro hd2 (And.intro hc2 (And.intro hlf (And.intro hdk (show ∀ v, Chg (fun b => b = w.heap.size) w2 v → RdK v v.heap.size dx lf from fun v hv => rdK_own (c := dc) (B := 0) (by rw [hdk]; have := row_far2 hg4.1 hv H.out.2.2.2.1 hg4.2 (by decide); rw [hdk] at this; exact this))))))))
       clear hR2 hp2 hd2 hc2 hlf hdk hg2 hg4 hcD))
  have hleft : leftL s ps = lf := by
    have := left_at s ps
    rw [H.out.2.2.2.2.2.2.2.1, H.out.2.2.2.2.2.2.2.2.1] at this
    rw [this.1, X2.out.2.2.2.2.1]
  have hdkl : dk ≤ 99999999 := by
    rw [← X2.out.2.2.2.2.2.1, ← hleft]
    have h1 := fold_len (s.dchs.take (modn (pickV ps) (s.dchs.length + 1))) s.safe
    have h2 := H.out.2.1.sz.d
    have h3 := H.out.2.2.1
    rw [List.length_take] at h1
    unfold leftL
    omega
  have hids : ∀ p ∈ lf, p.2 < s.files.length := by
    rw [← hleft]
    exact ids_fold H.out.2.1.ids (fun m f hf => H.out.2.1.dids m f (List.mem_of_mem_take hf)) H.out.2.1.ok.sorted (okD_take _ H.out.2.1.ok.okd)
  have HL := Lib.hid (And.intro hleft hids)
  have hz2w := X2.out.2.2.2.1.size
  clear hleft hids hg1 hg3 hmv0 hmv1
  go_wp2
  go_loopw [8, 9] (fun v8 v9 wx => ∃ (j : Nat) (us : List Value) (kp : Nat), j ≤ dk ∧ v9 = .int .i64 j ∧ FLs wx w2.heap.size (tornAll s (lf.take j) ps.tail).1 us v8 ∧ PQ wx w.heap.size w.heap.size ps kp ∧ ps.drop kp = (tornAll s (lf.take j) ps.tail).2 ∧ Chg (fun b => b = w.heap.size) w2 wx) (fun _ i _ => dk - (intOf i).toNat)
  case atStart => exact ⟨0, [], k2, Nat.zero_le _, rfl, FLs.nil _ _, X2.out.2.1, by have := X2.out.2.2.1; unfold Drops at this; rw [this]; rfl, Chg.refl _ _⟩
  case round =>
    obtain ⟨j, us, kp, hj, rfl, hF, hQ, hdr, hC⟩ := hrel
    obtain ⟨fb, fc, rfl⟩ := row_slice hF.2.1
    have hCz := hC.size
    by_cases hlt : j < dk
    case neg =>
      have hjd : dk = j := by omega
      subst hjd
      have hlk : lf.take dk = lf := by rw [← X2.out.2.2.2.2.2.1]; exact List.take_length
      have hcr : (tornAll s lf ps.tail).1 = crashL s ps := by unfold crashL; rw [HL.out.1]
      rw [hlk, hcr] at hF
      obtain ⟨gl, hgl⟩ : ∃ gl, (crashL s ps).length = gl := ⟨_, rfl⟩
      have hgl2 : (tornAll s (lf.take dk) ps.tail).1.length = gl := by rw [hlk, hcr]; exact hgl
      have hz1w : w.heap.size ≤ w2.heap.size := Nat.le_trans H.out.2.2.2.2.2.2.1.size hz2w
      have HE := Lib.hid (And.intro hF (And.intro hgl (show Below w.heap.size w wr from H.out.2.2.2.2.2.2.1.trans ((X2.out.2.2.2.1.trans hC).below (by exact H.out.2.2.2.2.2.2.1.size) fun b e => Nat.le_of_eq e.symm))))
      have hz1h := Lib.hid hz1w
      rw [hgl2]
      clear hF hQ hdr hC hlk hcr hgl hgl2 hz1w
      go_wp2
      go_ret
      rw [HE.out.2.1]
      have hF := HE.out.1
      rw [HE.out.2.1] at hF
      exact ⟨us, _, _, rfl, hF.mono hz1h.out, HE.out.2.2⟩
    case pos =>
      have hjq : j < lf.length := by rw [X2.out.2.2.2.2.2.1]; exact hlt
      obtain ⟨q, hq⟩ : ∃ q, lf[j] = q := ⟨_, rfl⟩
      have hqg : lf[j]? = some q := by rw [List.getElem?_eq_getElem hjq, hq]
      have hqm : q ∈ lf := hq ▸ List.getElem_mem hjq
      have hkf := HL.out.2 q hqm
      obtain ⟨ad, hdx, _, d0, d1⟩ := X2.out.2.2.2.2.2.2 wr hC j q hqg
      subst hdx
      have hRr := X2.out.1.far hC H.out.2.2.2.1
      obtain ⟨gF, nF, cF, gu, cu, gg, cg, hnF, la, lb, lc, ld, e0, e1, e2, hver, hgro⟩ := hRr.file_ hkf
      obtain ⟨m, hm⟩ : ∃ m, (s.fl q.2).chs.length = m := ⟨_, rfl⟩
      have hml : m ≤ 99999999 := by have h1 := H.out.2.1.sz.f _ (fl_mem hkf); have h2 := H.out.2.2.1; omega
      rw [hm] at e1 e2
      have hkn : (q.2 : Int) < nF := Int.ofNat_lt.2 (by rw [hnF]; exact hkf)
      have hk0 : (0 : Int) ≤ (q.2 : Nat) := by omega
      have hj0 : (0 : Int) ≤ j := by omega
      have hj1 : (j : Int) < dk := by omega
      obtain ⟨v, hv⟩ : ∃ v, modn (pickV (tornAll s (lf.take j) ps.tail).2) (m + 1) = v := ⟨_, rfl⟩
      have hvm : v ≤ m := by have := modn_lt (pickV (tornAll s (lf.take j) ps.tail).2) (show 0 < m + 1 by omega); omega
      obtain ⟨bx, bc, hbx, hbr, hbL⟩ := hver v (by omega)
      obtain ⟨st, hst⟩ : ∃ st, ((s.fl q.2).chs.take v).foldl fdo (s.fl q.2).safe = st := ⟨_, rfl⟩
      rw [hst] at hbx hbr hbL
      obtain ⟨l0, hl0⟩ : ∃ l0, st.length = l0 := ⟨_, rfl⟩
      rw [hl0] at hbx hbr hbL
      have hl0m : l0 ≤ 1073741824 := by
        have := H.out.2.1.sz.m _ (fl_mem hkf) v
        rw [hst, hl0] at this
        exact this
      have hsn := tornAll_snoc s q (lf.take j) ps.tail
      have hFl := tornAll_len s (lf.take j) ps.tail
      obtain ⟨pp, hpp⟩ : ∃ pp, tornAll s (lf.take j) ps.tail = pp := ⟨_, rfl⟩
      rw [hpp] at hF hdr hv hsn hFl ⊢
      obtain ⟨gl, hgl⟩ : ∃ gl, pp.1.length = gl := ⟨_, rfl⟩
      have hglj : gl = j := by rw [← hgl, hFl, List.length_take]; omega
      have hgl9 : gl ≤ 99999999 := by omega
      rw [hgl]
      have HG := Lib.hid (And.intro hgl (And.intro hglj (And.intro (show lf.take (j + 1) = lf.take j ++ [q] by rw [← hq]; exact List.take_succ_eq_append_getElem hjq) (And.intro hsn hpp))))
      have HF := Lib.hid (And.intro hF (And.intro hQ (And.intro hdr hC)))
      have HV := Lib.hid (And.intro hm (And.intro hv (And.intro hst (And.intro hl0 (And.intro hvm (And.intro hqg hkf))))))
      have HB := Lib.hid (And.intro hbr hbL)
      have HK := Lib.hid (show ∀ (u : World) (p : Addr) (x : Value), Chg (fun b => b = w.heap.size) wr u → L p.block ≠ 0 → wr.cell? p = some x → u.cell? p = some x from fun u p x h1 h2 h3 => cell_far h3 h1 H.out.2.2.2.1 h2)
      have HLL := Lib.hid (And.intro la (And.intro lb (And.intro lc ld)))
      have HE1 := Lib.hid (And.intro hbx (And.intro hver hgro))
      have hF1 := hF.1
      clear hF hQ hdr hC hq hqg hqm hkf hjq hnF hRr hm hv hst hl0 hbr hbL hver hgro hsn hFl hpp hgl hglj hF1 la lb lc ld hbx
      go_upto_region 8 with fail
      obtain ⟨wz, hwz⟩ : ∃ wz, wr.drew = wz := ⟨_, rfl⟩
      have hcz : Chg (fun b => b = w.heap.size) wr wz := by rw [← hwz]; exact Chg.of_below (below_drew (Below.refl _ _)) _
      have hS0 : wz.cell? ⟨rb, 0, none⟩ = some (.slice (some ⟨gF, 0, none⟩) nF cF) ∧ wz.cell? ⟨(ad.add (j * 2)).block, (ad.add (j * 2)).off + 1, none⟩ = some (.int .i64 (q.2 : Nat)) ∧ wz.cell? ⟨gF, q.2 * 2, none⟩ = some (.slice (some ⟨gu, 0, none⟩) (m + 1) cu) ∧ wz.cell? ⟨gF, q.2 * 2 + 1, none⟩ = some (.slice (some ⟨gg, 0, none⟩) (m + 1) cg) := by rw [← hwz]; exact ⟨e0, d1, e1, e2⟩
      have HS0 := Lib.hid hS0
      have hzz := Lib.hid (show wz.heap = wr.heap by rw [← hwz]; rfl)
      have HBZ := Lib.hid (show Below wr.heap.size wr wz by rw [← hwz]; exact below_drew (Below.refl _ _))
      clear hcz d0 d1 e0 e1 e2
      go_cut [10] (fun s10 wy => s10 = .pointer (some ⟨wr.heap.size, 0, none⟩) ∧ Box wy wr.heap.size 103 #[.slice (some ⟨gu, 0, none⟩) (m + 1) cu, .slice (some ⟨gg, 0, none⟩) (m + 1) cg] ∧ Below wr.heap.size wr wy)
      case first =>
        refine WT.start (fun w' : World => w'.cell? ⟨rb, 0, none⟩ = some (.slice (some ⟨gF, 0, none⟩) nF cF) ∧ w'.cell? ⟨(ad.add (j * 2)).block, (ad.add (j * 2)).off + 1, none⟩ = some (.int .i64 (q.2 : Nat)) ∧ w'.cell? ⟨gF, q.2 * 2, none⟩ = some (.slice (some ⟨gu, 0, none⟩) (m + 1) cu) ∧ w'.cell? ⟨gF, q.2 * 2 + 1, none⟩ = some (.slice (some ⟨gg, 0, none⟩) (m + 1) cg)) 12 (by kernel_rfl) ?_
        rw [hwz]
        clear hwz
        refine WT.take 0 (v := ?_) rfl (by kernel_rfl) (by kernel_rfl) (by kernel_rfl) (by kernel_rfl) (fun _ _ _ h => h) (Or.inl ⟨by rfl, ?hy⟩) hS0 ?_
        case hy => first | (intro w hSw; go_simp; done) | (intro w hSw; go_simp; with_reducible rfl)
        simp only [Act.put, List.setIfInBounds_toArray, List.set_cons_zero, List.set_cons_succ]
        refine WT.take 1 (v := ?_) rfl (by kernel_rfl) (by kernel_rfl) (by kernel_rfl) (by kernel_rfl) (fun _ _ _ h => h) (Or.inl ⟨by rfl, ?hy⟩) hS0 ?_
        case hy => first | (intro w hSw; go_simp; done) | (intro w hSw; go_simp; with_reducible rfl)
        simp only [Act.put, List.setIfInBounds_toArray, List.set_cons_zero, List.set_cons_succ]
        refine WT.take 2 (v := ?_) rfl (by kernel_rfl) (by kernel_rfl) (by kernel_rfl) (by kernel_rfl) (fun _ _ _ h => h) (Or.inl ⟨by rfl, ?hy⟩) hS0 ?_
        case hy => first | (intro w hSw; go_simp; done) | (intro w hSw; go_simp; with_reducible rfl)
        simp only [Act.put, List.setIfInBounds_toArray, List.set_cons_zero, List.set_cons_succ]
        refine WT.take 3 (v := ?_) rfl (by kernel_rfl) (by kernel_rfl) (by kernel_rfl) (by kernel_rfl) (fun _ _ _ h => h) (Or.inl ⟨by rfl, ?hy⟩) hS0 ?_
        case hy => first | (intro w hSw; go_simp; done) | (intro w hSw; go_simp; with_reducible rfl)
        simp only [Act.put, List.setIfInBounds_toArray, List.set_cons_zero, List.set_cons_succ]
        refine WT.take 4 (v := ?_) rfl (by kernel_rfl) (by kernel_rfl) (by kernel_rfl) (by kernel_rfl) (fun _ _ _ h => h) (Or.inl ⟨by rfl, ?hy⟩) hS0 ?_
        case hy => first | (intro w hSw; go_simp; done) | (intro w hSw; go_simp; with_reducible rfl)
        simp only [Act.put, List.setIfInBounds_toArray, List.set_cons_zero, List.set_cons_succ]
        refine WT.take 5 (v := ?_) rfl (by kernel_rfl) (by kernel_rfl) (by kernel_rfl) (by kernel_rfl) (fun _ _ _ h => h) (Or.inl ⟨by rfl, ?hy⟩) hS0 ?_
        case hy => first | (intro w hSw; go_simp; done) | (intro w hSw; go_simp; with_reducible rfl)
        simp only [Act.put, List.setIfInBounds_toArray, List.set_cons_zero, List.set_cons_succ]
        refine WT.take 6 (v := ?_) rfl (by kernel_rfl) (by kernel_rfl) (by kernel_rfl) (by kernel_rfl) (fun _ _ _ h => h) (Or.inl ⟨by rfl, ?hy⟩) hS0 ?_
        case hy => first | (intro w hSw; go_simp; done) | (intro w hSw; go_simp; with_reducible rfl)
        simp only [Act.put, List.setIfInBounds_toArray, List.set_cons_zero, List.set_cons_succ]
        refine WT.take 7 (v := ?_) rfl (by kernel_rfl) (by kernel_rfl) (by kernel_rfl) (by kernel_rfl) (fun _ _ _ h => h) (Or.inl ⟨by rfl, ?hy⟩) hS0 ?_
        case hy => first | (intro w hSw; go_simp; done) | (intro w hSw; go_simp; with_reducible rfl)
        simp only [Act.put, List.setIfInBounds_toArray, List.set_cons_zero, List.set_cons_succ]
        refine WT.take 8 (v := ?_) rfl (by kernel_rfl) (by kernel_rfl) (by kernel_rfl) (by kernel_rfl) (fun _ _ _ h => h) (Or.inl ⟨by rfl, ?hy⟩) hS0 ?_
        case hy => first | (intro w hSw; go_simp; done) | (intro w hSw; go_simp; with_reducible rfl)
        simp only [Act.put, List.setIfInBounds_toArray, List.set_cons_zero, List.set_cons_succ]
        refine WT.take 9 (v := ?_) rfl (by kernel_rfl) (by kernel_rfl) (by kernel_rfl) (by kernel_rfl) (fun _ _ _ h => h) (Or.inl ⟨by rfl, ?hy⟩) hS0 ?_
        case hy => first | (intro w hSw; go_simp; done) | (intro w hSw; go_simp; with_reducible rfl)
        simp only [Act.put, List.setIfInBounds_toArray, List.set_cons_zero, List.set_cons_succ]
        refine WT.take 10 (v := ?_) rfl (by kernel_rfl) (by kernel_rfl) (by kernel_rfl) (by kernel_rfl) (fun _ _ _ h => h) (Or.inl ⟨by rfl, ?hy⟩) hS0 ?_
        case hy => first | (intro w hSw; go_simp; done) | (intro w hSw; go_simp; with_reducible rfl)
        simp only [Act.put, List.setIfInBounds_toArray, List.set_cons_zero, List.set_cons_succ]
        refine WT.step 11 rfl (by kernel_rfl) (by decide) fun K hK => ?_
        go_simp
        have hS1 := And.intro (cell_alq HS0.out.1 (.cells #[.slice none 0 0, .slice none 0 0] 103)) (And.intro (cell_alq HS0.out.2.1 (.cells #[.slice none 0 0, .slice none 0 0] 103)) (And.intro (cell_alq HS0.out.2.2.1 (.cells #[.slice none 0 0, .slice none 0 0] 103)) (cell_alq HS0.out.2.2.2 (.cells #[.slice none 0 0, .slice none 0 0] 103))))
        clear hS0
        refine hK.out _ _ hS1 ?_
        clear hK K
        refine WT.last 12 rfl (by kernel_rfl) rfl fun K hK => ?_
        go_simp
        refine hK.out _ _ ?_
        clear hK K
        refine WT.done (by kernel_rfl) ?_
        go_wp2_with fail
        go_meet
        case rel =>
          refine ⟨by rw [hzz.out], ?_, HBZ.out.trans ((Below.al wz _).mono HBZ.out.size)⟩
          have := Box.new wz 103 #[.slice (some ⟨gu, 0, none⟩) (m + 1) cu, .slice (some ⟨gg, 0, none⟩) (m + 1) cg]
          rw [hzz.out] at this
          exact this
      case rest =>
        obtain ⟨rfl, hxb, hbc⟩ := hcut
        clear hwz hS0
        have hpw : w.heap.size < wr.heap.size := Nat.lt_of_lt_of_le X2.out.2.1.lt hCz
        have hc1 : Chg (fun b => b = w.heap.size) wr wc := Chg.of_below hbc _
        have hxc := hxb.cell
        have HX := Lib.hid (And.intro hxb (And.intro hbc (And.intro hc1 (HF.out.2.1.next hbc))))
        have hv0 : (0 : Int) ≤ v := by omega
        have hv1 : (v : Int) < ((m + 1 : Nat) : Int) := by omega
        have HPW := Lib.hid hpw
        have T2 := trivial
        clear hxb hbc hc1 hpw
        cases hcc : (s.fl q.2).chs[v]? with
        | none =>
          have hvm2 : v = m := by
            have := List.getElem?_eq_none_iff.1 hcc
            have := HV.out.1
            omega
          have HTS := Lib.hid (show tornS (s.fl q.2) pp.2 = (st, pp.2.tail) by unfold tornS; rw [HV.out.1, HV.out.2.1, hcc, HV.out.2.2.1])
          have hlt2 : decide ((v : Int) + 1 < ((m + 1 : Nat) : Int)) = false := decide_eq_false (by omega)
          have hvw : IntKind.i64.wrap ((v : Int) + 1) = (v : Int) + 1 := IntWalk.i64_in _ (by omega)
          have hlt5 : decide ((v : Int) + 1 < (m : Int) + 1) = false := decide_eq_false (by omega)
          have hlt6 : decide ((v : Int) < (m : Int)) = false := decide_eq_false (by omega)
          have hlt7 : decide (v < m) = false := decide_eq_false (by omega)
          have HVM := Lib.hid hvm2
          clear hcc hvm2
          go_wp2_with (first
            | (go_at_call 104
               have z2 := T2
               clear z2
               refine (nextR_any w.heap.size w.heap.size (m + 1) kp ps _ _ HX.out.2.2.2 (by first | rfl | omega) (by omega) (by omega)).mono ?_
               rintro e w4 ⟨rfl, ⟨k4, hp4, hd4⟩, hc4⟩
               rw [HF.out.2.2.1, HV.out.2.1]
               have hcum := HX.out.2.2.1.trans hc4
               have hxc4 := (HX.out.1.chg hc4 (by have := HPW.out; omega)).cell
               have hu4 := HK.out w4 ⟨gu, v, none⟩ _ hcum HLL.out.2.2.1 HE1.out.1
               have X4 := Lib.hid (And.intro hp4 (And.intro hd4 (And.intro hcum (HX.out.1.chg hc4 (by have := HPW.out; omega)))))
               clear hp4 hd4 hc4 hcum hxc T2)
            | (go_at_call 47
               refine (copiedR_any bx l0 bc st _ (row_rd (row_far2 HB.out.1 X4.out.2.2.1 H.out.2.2.2.1 HB.out.2 (by decide))) HV.out.2.2.2.1 (by omega)).mono ?_
               rintro e w5 ⟨x5, c5, rfl, hr5, hb5⟩
               have hs45 := Lib.hid hb5.size
               have hcum := X4.out.2.2.1.trans (Chg.of_below hb5 _)
               have hxc5 := (X4.out.2.2.2.next hb5).cell
               have X5 := Lib.hid (And.intro hr5 (And.intro (X4.out.1.next hb5) (And.intro hcum (X4.out.2.2.2.next hb5))))
               obtain ⟨ad5, ed5, _, d5, _⟩ := X2.out.2.2.2.2.2.2 w5 (HF.out.2.2.2.trans hcum) j q HV.out.2.2.2.2.2.1
               cases ed5
               clear hr5 hb5 hcum hu4 hxc4)
            | (at_builtin
               have hA := crash_add (n := q.1) HF.out.1 HF.out.2.2.2.size (by exact X2.out.2.1.lt) X5.out.2.2.1 (row_le X5.out.1 X4.out.2.2.1.size)
               have H6 := Lib.hid hA
               clear hA
               refine wpList_app _ rfl (.tmp 106) (.tmp 114) _ rfl w2.heap.size 37 i1 _ 2 40 Try.underlying31 hi1 hz1 hs1 hy1 rfl (by omega) (.slice fb gl fc) gl _ rfl (by have := H6.out.1.2.1; rw [HG.out.1] at this; exact this) _ _ 1 1 [.string q.1, .slice x5 l0 c5] rfl rfl (rd_new _ _ _) (by simp [Value.oneCell']) (by unfold maxLen; omega) (by omega) (by have := H6.out.2.2.2; simp; omega) ?_
               intro v' w8 hown hg8 hor
               have HGG := Lib.hid (And.intro hown hg8)
               clear hown hg8 hor))
          go_roundw
          case rel =>
            have hst := crash_stepQ (pp := pp.1) (bs := st) (n := q.1) HF.out.2.2.2 X2.out.2.1.lt HV.out.2.2.2.1 H6.out.1 H6.out.2.1 H6.out.2.2.1 (by have := HGG.out.1; rw [← HG.out.1] at this; exact this) (by have := HGG.out.2; rw [← HG.out.1] at this; exact this) X5.out.2.1
            refine ⟨j + 1, us ++ [.slice x5 l0 c5], k4, by omega, by go_num, ?_, hst.2.1, ?_, hst.2.2⟩
            · rw [HG.out.2.2.1, HG.out.2.2.2.1, HTS.out]
              exact hst.1
            · rw [HG.out.2.2.1, HG.out.2.2.2.1, HTS.out]
              have := X4.out.2.1; unfold Drops at this; rw [this, HF.out.2.2.1]
          case measure => simp [intOf]; omega
        | some cc =>
          have hvl : v < m := by have := (List.getElem?_eq_some_iff.1 hcc).1; have := HV.out.1; omega
          have hgr := HE1.out.2.2 (v + 1) (growC cc) (grow_get (s.fl q.2) hcc)
          have hlt2 : decide ((v : Int) + 1 < ((m + 1 : Nat) : Int)) = true := decide_eq_true (by omega)
          have hlt3 : (v : Int) + 1 < ((m + 1 : Nat) : Int) := by omega
          have hvw : IntKind.i64.wrap ((v : Int) + 1) = (v : Int) + 1 := IntWalk.i64_in _ (by omega)
          have hv2 : (0 : Int) ≤ (v : Int) + 1 := by omega
          cases cc with
          | inr z =>
            have hgr2 : wr.cell? ⟨gg, v + 1, none⟩ = some (.int .i64 (-1)) := hgr
            have HGR := Lib.hid hgr2
            have HTS := Lib.hid (show tornS (s.fl q.2) pp.2 = (st, pp.2.tail) by unfold tornS; rw [HV.out.1, HV.out.2.1, hcc, HV.out.2.2.1])
            clear hcc hgr hgr2
            go_wp2_with (first
              | (go_at_call 104
                 have z2 := T2
                 clear z2
                 refine (nextR_any w.heap.size w.heap.size (m + 1) kp ps _ _ HX.out.2.2.2 (by first | rfl | omega) (by omega) (by omega)).mono ?_
                 rintro e w4 ⟨rfl, ⟨k4, hp4, hd4⟩, hc4⟩
                 rw [HF.out.2.2.1, HV.out.2.1]
                 have hcum := HX.out.2.2.1.trans hc4
                 have hxc4 := (HX.out.1.chg hc4 (by have := HPW.out; omega)).cell
                 have hu4 := HK.out w4 ⟨gu, v, none⟩ _ hcum HLL.out.2.2.1 HE1.out.1
                 have X4 := Lib.hid (And.intro hp4 (And.intro hd4 (And.intro hcum (HX.out.1.chg hc4 (by have := HPW.out; omega)))))
                 clear hp4 hd4 hc4 hcum hxc T2)
              | (go_at_call 47
                 refine (copiedR_any bx l0 bc st _ (row_rd (row_far2 HB.out.1 X4.out.2.2.1 H.out.2.2.2.1 HB.out.2 (by decide))) HV.out.2.2.2.1 (by omega)).mono ?_
                 rintro e w5 ⟨x5, c5, rfl, hr5, hb5⟩
                 have hs45 := Lib.hid hb5.size
                 have hcum := X4.out.2.2.1.trans (Chg.of_below hb5 _)
                 have hxc5 := (X4.out.2.2.2.next hb5).cell
                 have X5 := Lib.hid (And.intro hr5 (And.intro (X4.out.1.next hb5) (And.intro hcum (X4.out.2.2.2.next hb5))))
                 obtain ⟨ad5, ed5, _, d5, _⟩ := X2.out.2.2.2.2.2.2 w5 (HF.out.2.2.2.trans hcum) j q HV.out.2.2.2.2.2.1
                 cases ed5
                 have hgg5 := HK.out w5 ⟨gg, v + 1, none⟩ _ hcum HLL.out.2.2.2 HGR.out
                 clear hr5 hb5 hcum hu4 hxc4)
              | (at_builtin
                 have hA := crash_add (n := q.1) HF.out.1 HF.out.2.2.2.size (by exact X2.out.2.1.lt) X5.out.2.2.1 (row_le X5.out.1 X4.out.2.2.1.size)
                 have H6 := Lib.hid hA
                 clear hA
                 refine wpList_app _ rfl (.tmp 106) (.tmp 114) _ rfl w2.heap.size 37 i1 _ 2 40 Try.underlying31 hi1 hz1 hs1 hy1 rfl (by omega) (.slice fb gl fc) gl _ rfl (by have := H6.out.1.2.1; rw [HG.out.1] at this; exact this) _ _ 1 1 [.string q.1, .slice x5 l0 c5] rfl rfl (rd_new _ _ _) (by simp [Value.oneCell']) (by unfold maxLen; omega) (by omega) (by have := H6.out.2.2.2; simp; omega) ?_
                 intro v' w8 hown hg8 hor
                 have HGG := Lib.hid (And.intro hown hg8)
                 clear hown hg8 hor))
            go_roundw
            case rel =>
              have hst := crash_stepQ (pp := pp.1) (bs := st) (n := q.1) HF.out.2.2.2 X2.out.2.1.lt HV.out.2.2.2.1 H6.out.1 H6.out.2.1 H6.out.2.2.1 (by have := HGG.out.1; rw [← HG.out.1] at this; exact this) (by have := HGG.out.2; rw [← HG.out.1] at this; exact this) X5.out.2.1
              refine ⟨j + 1, us ++ [.slice x5 l0 c5], k4, by omega, by go_num, ?_, hst.2.1, ?_, hst.2.2⟩
              · rw [HG.out.2.2.1, HG.out.2.2.2.1, HTS.out]
                exact hst.1
              · rw [HG.out.2.2.1, HG.out.2.2.2.1, HTS.out]
                have := X4.out.2.1; unfold Drops at this; rw [this, HF.out.2.2.1]
            case measure => simp [intOf]; omega
          | inl cb =>
            obtain ⟨lc, hlc⟩ : ∃ lc, cb.length = lc := ⟨_, rfl⟩
            have hgr2 : wr.cell? ⟨gg, v + 1, none⟩ = some (.int .i64 (lc : Nat)) := by rw [← hlc]; exact hgr
            have HGR := Lib.hid hgr2
            obtain ⟨t, ht⟩ : ∃ t, modn (pickV pp.2.tail) (lc + 1) = t := ⟨_, rfl⟩
            have htl : t ≤ lc := by have := modn_lt (pickV pp.2.tail) (show 0 < lc + 1 by omega); omega
            have hlc0 : (0 : Int) ≤ lc := by omega
            have hlcb : decide ((0 : Int) ≤ lc) = true := decide_eq_true hlc0
            obtain ⟨vx, vc, hvx, hvr, hvL⟩ := HE1.out.2.1 (v + 1) (by rw [HV.out.1]; omega)
            have hnx : ((s.fl q.2).chs.take (v + 1)).foldl fdo (s.fl q.2).safe = st ++ cb := by
              rw [List.take_add_one, hcc, List.foldl_append, HV.out.2.2.1]
              rfl
            rw [hnx] at hvx hvr hvL
            obtain ⟨l1, hl1⟩ : ∃ l1, (st ++ cb).length = l1 := ⟨_, rfl⟩
            have hl1e : l1 = l0 + lc := by rw [← hl1, List.length_append, HV.out.2.2.2.1, hlc]
            have hl1m : l1 ≤ 1073741824 := by
              have := H.out.2.1.sz.m _ (fl_mem HV.out.2.2.2.2.2.2) (v + 1)
              rw [hnx, hl1] at this
              exact this
            rw [hl1] at hvx hvr hvL
            have hvcap := row_cap hvr
            have hlw : IntKind.i64.wrap ((lc : Int) + 1) = (lc : Int) + 1 := IntWalk.i64_in _ (by omega)
            have htw : IntKind.i64.wrap ((l0 : Int) + t) = (l0 : Int) + t := IntWalk.i64_in _ (by omega)
            have HTS := Lib.hid (show tornS (s.fl q.2) pp.2 = (st ++ cb.take t, pp.2.tail.tail) by unfold tornS; rw [HV.out.1, HV.out.2.1, hcc, HV.out.2.2.1]; show (st ++ cb.take (modn (pickV pp.2.tail) (cb.length + 1)), pp.2.tail.tail) = _; rw [hlc, ht])
            have HN := Lib.hid (And.intro (And.intro hvr hvL) (And.intro hvx (And.intro hl1 (And.intro ht hlc))))
            have hlt4 : t ≤ 1073741824 := by omega
            have hvcc := Lib.hid (show l0 + t ≤ vc ∧ l1 ≤ vc by omega)
            clear hcc hgr hgr2 hvx hvr hvL hnx hl1 hvcap hlc ht
            go_upto_region 13 with (first
              | (go_at_call 104
                 have z2 := T2
                 clear z2
                 refine (nextR_any w.heap.size w.heap.size (m + 1) kp ps _ _ HX.out.2.2.2 (by first | rfl | omega) (by omega) (by omega)).mono ?_
                 rintro e w4 ⟨rfl, ⟨k4, hp4, hd4⟩, hc4⟩
                 rw [HF.out.2.2.1, HV.out.2.1]
                 have hcum := HX.out.2.2.1.trans hc4
                 have hxc4 := (HX.out.1.chg hc4 (by have := HPW.out; omega)).cell
                 have hu4 := HK.out w4 ⟨gu, v, none⟩ _ hcum HLL.out.2.2.1 HE1.out.1
                 have X4 := Lib.hid (And.intro hp4 (And.intro hd4 (And.intro hcum (HX.out.1.chg hc4 (by have := HPW.out; omega)))))
                 clear hp4 hd4 hc4 hcum hxc T2)
              | (go_at_call 47
                 refine (copiedR_any bx l0 bc st _ (row_rd (row_far2 HB.out.1 X4.out.2.2.1 H.out.2.2.2.1 HB.out.2 (by decide))) HV.out.2.2.2.1 (by omega)).mono ?_
                 rintro e w5 ⟨x5, c5, rfl, hr5, hb5⟩
                 have hs45 := Lib.hid hb5.size
                 have hcum := X4.out.2.2.1.trans (Chg.of_below hb5 _)
                 have hxc5 := (X4.out.2.2.2.next hb5).cell
                 have X5 := Lib.hid (And.intro hr5 (And.intro (X4.out.1.next hb5) (And.intro hcum (X4.out.2.2.2.next hb5))))
                 have hgg5 := HK.out w5 ⟨gg, v + 1, none⟩ _ hcum HLL.out.2.2.2 HGR.out
                 have T3 := trivial
                 clear hr5 hb5 hcum hu4 hxc4)
              | (go_at_call 104
                 have z3 := T3
                 clear z3
                 refine (nextR_any w.heap.size w.heap.size (lc + 1) k4 ps _ _ X5.out.2.1 (by first | rfl | omega) (by omega) (by omega)).mono ?_
                 rintro e w6 ⟨rfl, ⟨k6, hp6, hd6⟩, hc6⟩
                 rw [show ps.drop k4 = pp.2.tail by have := X4.out.2.1; unfold Drops at this; rw [this, HF.out.2.2.1], HN.out.2.2.2.1]
                 have hs56 := Lib.hid hc6.size
                 have hcum6 := X5.out.2.2.1.trans hc6
                 have hx6 := X5.out.2.2.2.chg hc6 (by have := HPW.out; omega)
                 have hr6 := row_far' X5.out.1 hc6 (show w.heap.size < w4.heap.size by have := HPW.out; have := X4.out.2.2.1.size; omega)
                 have X6 := Lib.hid (And.intro hp6 (And.intro hd6 (And.intro hcum6 (And.intro hx6 hr6))))
                 clear hp6 hd6 hc6 hcum6 hx6 hr6 T3 hxc5 hgg5))
            obtain ⟨wz2, hwz2⟩ : ∃ wz2, w6.drew = wz2 := ⟨_, rfl⟩
            have hb6 : Below w6.heap.size w6 wz2 := by rw [← hwz2]; exact below_drew (Below.refl _ _)
            have hcum7 := X6.out.2.2.1.trans (Chg.of_below hb6 _)
            have hS0 : wz2.cell? ⟨wr.heap.size, 0, none⟩ = some (.slice (some ⟨gu, 0, none⟩) (m + 1) cu) ∧ wz2.cell? ⟨gu, v + 1, none⟩ = some (.slice vx l1 vc) ∧ wz2.cell? ⟨gu, v, none⟩ = some (.slice bx l0 bc) := ⟨(X6.out.2.2.2.1.next hb6).cell 0, HK.out wz2 ⟨gu, v + 1, none⟩ _ hcum7 HLL.out.2.2.1 HN.out.2.1, HK.out wz2 ⟨gu, v, none⟩ _ hcum7 HLL.out.2.2.1 HE1.out.1⟩
            have hvi1 : (v : Int) < (m : Int) + 1 := by omega
            have hvi2 : (v : Int) + 1 < (m : Int) + 1 := by omega
            have hvi3 : (v : Int) < m := by omega
            have hsl1 : (0 : Int) ≤ (l0 : Int) + t := by omega
            have hsl2 : (l0 : Int) + t ≤ (vc : Int) := by have := hvcc.out.1; omega
            have hsl3 : ((l0 : Int) + t).toNat = l0 + t := by omega
            have hrun := fun W => run_part2 W vx l1 vc l0 t (l0 : Int) ((l0 : Int) + t) rfl rfl hvcc.out.1
            have X7 := Lib.hid (And.intro (X6.out.1.next hb6) (And.intro hcum7 (And.intro hS0 (row_next X6.out.2.2.2.2 hb6))))
            have hz46 := Lib.hid (Nat.le_trans hs45.out (Nat.le_trans hs56.out hb6.size))
            have hgul := Lib.hid (World.block_lt_of_cell? _ _ HE1.out.1)
            have hfbl := Lib.hid X4.out.2.2.2.lt
            clear hb6 hcum7
            go_cut [12] (fun s12 wy => ∃ x8 c8, s12 = .slice x8 (l0 + t) c8 ∧ wy.ownsRow w4.heap.size 5 1 (.slice x8 (l0 + t) c8) (l0 + t) (bv (st ++ cb.take t)) ∧ PQ wy w.heap.size w.heap.size ps k6 ∧ Chg (fun b => b = w.heap.size) wr wy)
            case first =>
              refine WT.start (fun w' : World => w'.cell? ⟨wr.heap.size, 0, none⟩ = some (.slice (some ⟨gu, 0, none⟩) (m + 1) cu) ∧ w'.cell? ⟨gu, v + 1, none⟩ = some (.slice vx l1 vc) ∧ w'.cell? ⟨gu, v, none⟩ = some (.slice bx l0 bc)) 23 (by kernel_rfl) ?_
              rw [hwz2]
              clear hwz2
              refine WT.take 0 (v := ?_) rfl (by kernel_rfl) (by kernel_rfl) (by kernel_rfl) (by kernel_rfl) (fun _ _ _ h => h) (Or.inl ⟨by rfl, ?hy⟩) hS0 ?_
              case hy => first | (intro w hSw; go_simp; done) | (intro w hSw; go_simp; with_reducible rfl)
              simp only [Act.put, List.setIfInBounds_toArray, List.set_cons_zero, List.set_cons_succ]
              refine WT.take 1 (v := ?_) rfl (by kernel_rfl) (by kernel_rfl) (by kernel_rfl) (by kernel_rfl) (fun _ _ _ h => h) (Or.inl ⟨by rfl, ?hy⟩) hS0 ?_
              case hy => first | (intro w hSw; go_simp; done) | (intro w hSw; go_simp; with_reducible rfl)
              simp only [Act.put, List.setIfInBounds_toArray, List.set_cons_zero, List.set_cons_succ]
              refine WT.take 2 (v := ?_) rfl (by kernel_rfl) (by kernel_rfl) (by kernel_rfl) (by kernel_rfl) (fun _ _ _ h => h) (Or.inl ⟨by rfl, ?hy⟩) hS0 ?_
              case hy => first | (intro w hSw; go_simp; done) | (intro w hSw; go_simp; with_reducible rfl)
              simp only [Act.put, List.setIfInBounds_toArray, List.set_cons_zero, List.set_cons_succ]
              refine WT.take 3 (v := ?_) rfl (by kernel_rfl) (by kernel_rfl) (by kernel_rfl) (by kernel_rfl) (fun _ _ _ h => h) (Or.inl ⟨by rfl, ?hy⟩) hS0 ?_
              case hy => first | (intro w hSw; go_simp; done) | (intro w hSw; go_simp; with_reducible rfl)
              simp only [Act.put, List.setIfInBounds_toArray, List.set_cons_zero, List.set_cons_succ]
              refine WT.take 4 (v := ?_) rfl (by kernel_rfl) (by kernel_rfl) (by kernel_rfl) (by kernel_rfl) (fun _ _ _ h => h) (Or.inl ⟨by rfl, ?hy⟩) hS0 ?_
              case hy => first | (intro w hSw; go_simp; done) | (intro w hSw; go_simp; with_reducible rfl)
              simp only [Act.put, List.setIfInBounds_toArray, List.set_cons_zero, List.set_cons_succ]
              refine WT.take 5 (v := ?_) rfl (by kernel_rfl) (by kernel_rfl) (by kernel_rfl) (by kernel_rfl) (fun _ _ _ h => h) (Or.inl ⟨by rfl, ?hy⟩) hS0 ?_
              case hy => first | (intro w hSw; go_simp; done) | (intro w hSw; go_simp; with_reducible rfl)
              simp only [Act.put, List.setIfInBounds_toArray, List.set_cons_zero, List.set_cons_succ]
              refine WT.take 6 (v := ?_) rfl (by kernel_rfl) (by kernel_rfl) (by kernel_rfl) (by kernel_rfl) (fun _ _ _ h => h) (Or.inl ⟨by rfl, ?hy⟩) hS0 ?_
              case hy => first | (intro w hSw; go_simp; done) | (intro w hSw; go_simp; with_reducible rfl)
              simp only [Act.put, List.setIfInBounds_toArray, List.set_cons_zero, List.set_cons_succ]
              refine WT.take 7 (v := ?_) rfl (by kernel_rfl) (by kernel_rfl) (by kernel_rfl) (by kernel_rfl) (fun _ _ _ h => h) (Or.inl ⟨by rfl, ?hy⟩) hS0 ?_
              case hy => first | (intro w hSw; go_simp; done) | (intro w hSw; go_simp; with_reducible rfl)
              simp only [Act.put, List.setIfInBounds_toArray, List.set_cons_zero, List.set_cons_succ]
              refine WT.take 8 (v := ?_) rfl (by kernel_rfl) (by kernel_rfl) (by kernel_rfl) (by kernel_rfl) (fun _ _ _ h => h) (Or.inl ⟨by rfl, ?hy⟩) hS0 ?_
              case hy => first | (intro w hSw; go_simp; done) | (intro w hSw; go_simp; with_reducible rfl)
              simp only [Act.put, List.setIfInBounds_toArray, List.set_cons_zero, List.set_cons_succ]
              refine WT.take 9 (v := ?_) rfl (by kernel_rfl) (by kernel_rfl) (by kernel_rfl) (by kernel_rfl) (fun _ _ _ h => h) (Or.inl ⟨by rfl, ?hy⟩) hS0 ?_
              case hy => first | (intro w hSw; go_simp; done) | (intro w hSw; go_simp; with_reducible rfl)
              simp only [Act.put, List.setIfInBounds_toArray, List.set_cons_zero, List.set_cons_succ]
              refine WT.take 10 (v := ?_) rfl (by kernel_rfl) (by kernel_rfl) (by kernel_rfl) (by kernel_rfl) (fun _ _ _ h => h) (Or.inl ⟨by rfl, ?hy⟩) hS0 ?_
              case hy => first | (intro w hSw; go_simp; done) | (intro w hSw; go_simp; with_reducible rfl)
              simp only [Act.put, List.setIfInBounds_toArray, List.set_cons_zero, List.set_cons_succ]
              refine WT.take 11 (v := ?_) rfl (by kernel_rfl) (by kernel_rfl) (by kernel_rfl) (by kernel_rfl) (fun _ _ _ h => h) (Or.inl ⟨by rfl, ?hy⟩) hS0 ?_
              case hy => first | (intro w hSw; go_simp; done) | (intro w hSw; go_simp; with_reducible rfl)
              simp only [Act.put, List.setIfInBounds_toArray, List.set_cons_zero, List.set_cons_succ]
              refine WT.take 12 (v := ?_) rfl (by kernel_rfl) (by kernel_rfl) (by kernel_rfl) (by kernel_rfl) (fun _ _ _ h => h) (Or.inl ⟨by rfl, ?hy⟩) hS0 ?_
              case hy => first | (intro w hSw; go_simp; done) | (intro w hSw; go_simp; with_reducible rfl)
              simp only [Act.put, List.setIfInBounds_toArray, List.set_cons_zero, List.set_cons_succ]
              refine WT.take 13 (v := ?_) rfl (by kernel_rfl) (by kernel_rfl) (by kernel_rfl) (by kernel_rfl) (fun _ _ _ h => h) (Or.inl ⟨by rfl, ?hy⟩) hS0 ?_
              case hy => first | (intro w hSw; go_simp; done) | (intro w hSw; go_simp; with_reducible rfl)
              simp only [Act.put, List.setIfInBounds_toArray, List.set_cons_zero, List.set_cons_succ]
              refine WT.take 14 (v := ?_) rfl (by kernel_rfl) (by kernel_rfl) (by kernel_rfl) (by kernel_rfl) (fun _ _ _ h => h) (Or.inl ⟨by rfl, ?hy⟩) hS0 ?_
              case hy => first | (intro w hSw; go_simp; done) | (intro w hSw; go_simp; with_reducible rfl)
              simp only [Act.put, List.setIfInBounds_toArray, List.set_cons_zero, List.set_cons_succ]
              refine WT.take 15 (v := ?_) rfl (by kernel_rfl) (by kernel_rfl) (by kernel_rfl) (by kernel_rfl) (fun _ _ _ h => h) (Or.inl ⟨by rfl, ?hy⟩) hS0 ?_
              case hy => first | (intro w hSw; go_simp; done) | (intro w hSw; go_simp; with_reducible rfl)
              simp only [Act.put, List.setIfInBounds_toArray, List.set_cons_zero, List.set_cons_succ]
              refine WT.take 16 (v := ?_) rfl (by kernel_rfl) (by kernel_rfl) (by kernel_rfl) (by kernel_rfl) (fun _ _ _ h => h) (Or.inl ⟨by rfl, ?hy⟩) hS0 ?_
              case hy => first | (intro w hSw; go_simp; done) | (intro w hSw; go_simp; with_reducible rfl)
              simp only [Act.put, List.setIfInBounds_toArray, List.set_cons_zero, List.set_cons_succ]
              refine WT.take 17 (v := ?_) rfl (by kernel_rfl) (by kernel_rfl) (by kernel_rfl) (by kernel_rfl) (fun _ _ _ h => h) (Or.inl ⟨by rfl, ?hy⟩) hS0 ?_
              case hy => first | (intro w hSw; go_simp; done) | (intro w hSw; go_simp; with_reducible rfl)
              simp only [Act.put, List.setIfInBounds_toArray, List.set_cons_zero, List.set_cons_succ]
              refine WT.take 18 (v := ?_) rfl (by kernel_rfl) (by kernel_rfl) (by kernel_rfl) (by kernel_rfl) (fun _ _ _ h => h) (Or.inl ⟨by rfl, ?hy⟩) hS0 ?_
              case hy => first | (intro w hSw; go_simp; done) | (intro w hSw; go_simp; with_reducible rfl)
              simp only [Act.put, List.setIfInBounds_toArray, List.set_cons_zero, List.set_cons_succ]
              refine WT.take 19 (v := ?_) rfl (by kernel_rfl) (by kernel_rfl) (by kernel_rfl) (by kernel_rfl) (fun _ _ _ h => h) (Or.inl ⟨by rfl, ?hy⟩) hS0 ?_
              case hy => first | (intro w hSw; go_simp; done) | (intro w hSw; go_simp; with_reducible rfl)
              simp only [Act.put, List.setIfInBounds_toArray, List.set_cons_zero, List.set_cons_succ]
              refine WT.take 20 (v := ?_) rfl (by kernel_rfl) (by kernel_rfl) (by kernel_rfl) (by kernel_rfl) (fun _ _ _ h => h) (Or.inl ⟨by rfl, ?hy⟩) hS0 ?_
              case hy => first | (intro w hSw; go_simp; done) | (intro w hSw; go_simp; with_reducible rfl)
              simp only [Act.put, List.setIfInBounds_toArray, List.set_cons_zero, List.set_cons_succ]
              refine WT.take 21 (v := ?_) rfl (by kernel_rfl) (by kernel_rfl) (by kernel_rfl) (by kernel_rfl) (fun _ _ _ h => h) (Or.inl ⟨by rfl, ?hy⟩) hS0 ?_
              case hy => first | (intro w hSw; go_simp; done) | (intro w hSw; go_simp; with_reducible rfl)
              simp only [Act.put, List.setIfInBounds_toArray, List.set_cons_zero, List.set_cons_succ]
              refine WT.step 22 rfl (by kernel_rfl) (by decide) fun K hK => ?_
              refine step_app _ (by rfl) (.tmp 83) (.tmp 104) 22 (by rfl) w4.heap.size 5 i2 _ 1 1 Try.underlying22 hi2 hz2 hs2 hy2 rfl (by omega) (.slice x5 l0 c5) l0 (bv st) (by rfl) X7.out.2.2.2 wz2.heap.size (tailA vx vc l0) t (vc - l0) (bv (cb.take t)) (by rfl) (by rw [bv_len, List.length_take, HN.out.2.2.2.2]; omega) (by
                have h1 := ((row_rd (row_far2 HN.out.1.1 X7.out.2.1 H.out.2.2.2.1 HN.out.1.2 (by decide))).tail_ l0 (by rw [HN.out.2.2.1]; exact hvcc.out.2)).take_ t
                rw [show (st ++ cb).drop l0 = cb by rw [← HV.out.2.2.2.1, List.drop_left]] at h1
                exact h1) (one_bv _) (by unfold maxLen; omega) (by omega) hz46.out ?_
              intro v8 w8 hown8 hg8 _
              obtain ⟨x8, c8, hv8⟩ := row_slice hown8
              subst hv8
              have hold : ∀ k, (Value.slice x5 l0 c5).ownBlock = some k → w4.heap.size ≤ k := fun k hk => (X7.out.2.2.2.lt k hk).1
              have hb8 : Below w4.heap.size wz2 w8 := Below.grown (Below.refl _ _) hg8 hz46.out (fun k e => hold k e)
              have h46 := HPW.out
              have h4r := X4.out.2.2.1.size
              have hgl8 : gu < wr.heap.size := hgul.out
              have hS8 : w8.cell? ⟨wr.heap.size, 0, none⟩ = some (.slice (some ⟨gu, 0, none⟩) (m + 1) cu) ∧ w8.cell? ⟨gu, v + 1, none⟩ = some (.slice vx l1 vc) ∧ w8.cell? ⟨gu, v, none⟩ = some (.slice bx l0 bc) := ⟨(hb8.cell (show wr.heap.size < w4.heap.size from hfbl.out)).trans X7.out.2.2.1.1, (hb8.cell (show gu < w4.heap.size by omega)).trans X7.out.2.2.1.2.1, (hb8.cell (show gu < w4.heap.size by omega)).trans X7.out.2.2.1.2.2⟩
              have X8 := Lib.hid (show w8.ownsRow w4.heap.size 5 1 (.slice x8 (l0 + t) c8) (l0 + t) (bv (st ++ cb.take t)) ∧ PQ w8 w.heap.size w.heap.size ps k6 ∧ Chg (fun b => b = w.heap.size) wr w8 from ⟨by rw [bv_app]; exact hown8, X7.out.1.keep (hb8.mono (by omega)) (hb8.block _ (by omega)), X7.out.2.1.trans' (S' := fun b => w4.heap.size ≤ b) ((Chg.refl _ _).grown hg8 fun k hk => .inl (hold k hk)) (fun j hj hj2 => by omega)⟩)
              clear hown8 hg8 hold hb8
              go_simp
              refine hK.out _ _ hS8 ?_
              clear hK K
              refine WT.last 23 rfl (by kernel_rfl) rfl fun K hK => ?_
              go_simp
              refine hK.out _ _ ?_
              clear hK K
              refine WT.done (by kernel_rfl) ?_
              go_wp2_with fail
              all_goals
                go_meet
                case rel => exact ⟨x8, c8, rfl, X8.out⟩
            case rest =>
              obtain ⟨x8, c8, rfl, hr8, hp8, hc8⟩ := hcut
              obtain ⟨ad5, ed5, _, d5, _⟩ := X2.out.2.2.2.2.2.2 wc (HF.out.2.2.2.trans hc8) j q HV.out.2.2.2.2.2.1
              cases ed5
              have X8 := Lib.hid (And.intro hr8 (And.intro hp8 hc8))
              have hl8 := Lib.hid (show (st ++ cb.take t).length = l0 + t by rw [List.length_append, List.length_take, HV.out.2.2.2.1, HN.out.2.2.2.2]; omega)
              clear hr8 hp8 hc8 hwz2 hS0 hrun
              go_wp2_with (first
                | (at_builtin
                   have hA := crash_add (n := q.1) HF.out.1 HF.out.2.2.2.size (by exact X2.out.2.1.lt) X8.out.2.2 (row_le X8.out.1 X4.out.2.2.1.size)
                   have H6 := Lib.hid hA
                   clear hA
                   refine wpList_app _ rfl (.tmp 106) (.tmp 114) _ rfl w2.heap.size 37 i1 _ 2 40 Try.underlying31 hi1 hz1 hs1 hy1 rfl (by omega) (.slice fb gl fc) gl _ rfl (by have := H6.out.1.2.1; rw [HG.out.1] at this; exact this) _ _ 1 1 [.string q.1, .slice x8 (l0 + t) c8] rfl rfl (rd_new _ _ _) (by simp [Value.oneCell']) (by unfold maxLen; omega) (by omega) (by have := H6.out.2.2.2; simp; omega) ?_
                   intro v' w8 hown hg8 hor
                   have HGG := Lib.hid (And.intro hown hg8)
                   clear hown hg8 hor))
              go_roundw
              case rel =>
                have hst := crash_stepQ (pp := pp.1) (bs := st ++ cb.take t) (n := q.1) HF.out.2.2.2 X2.out.2.1.lt hl8.out H6.out.1 H6.out.2.1 H6.out.2.2.1 (by have := HGG.out.1; rw [← HG.out.1] at this; exact this) (by have := HGG.out.2; rw [← HG.out.1] at this; exact this) X8.out.2.1
                refine ⟨j + 1, us ++ [.slice x8 (l0 + t) c8], k6, by omega, by go_num, ?_, hst.2.1, ?_, hst.2.2⟩
                · rw [HG.out.2.2.1, HG.out.2.2.2.1, HTS.out]
                  exact hst.1
                · rw [HG.out.2.2.1, HG.out.2.2.2.1, HTS.out]
                  have h1 := X6.out.2.1; have h2 := X4.out.2.1; unfold Drops at h1 h2; rw [h1, h2, HF.out.2.2.1]
              case measure => simp [intOf]; omega
end Go.Proofs.Ytebeefkibbbkdaa
