import Derived.Test.YtebeefkibbbkdaaQh
import Derived.Test.YtebeefkibbbkdaaQo
import Derived.Test.YtebeefkibbbkdaaRows
import Derived.OrdersHeld
import Derived.Deep.RegionHeld
import Derived.Test.YtebeefkibbbkdaaQe
import Derived.Test.YtebeefkibbbkdaaQa
import Derived.OpenShut
import Derived.JoinedCond
/- SimfsScripts: every step. -/
namespace Go.Proofs.Ytebeefkibbbkdaa
open Go.RowKit Go.Maps

theorem Dk.Inv.setFuseQ {s : Dk} {N : Nat} (n : Int) (h : s.Inv N) (hn : n ≤ 9223372036854775807) : (fuseS n s).Inv N := by
  unfold fuseS
  split
  · exact h
  · exact Dk.Inv.same (s' := { s with fuse := max n (-1) }) h rfl rfl rfl rfl (Nat.le_refl N) ⟨h.rg.q, h.rg.u, ⟨by show -1 ≤ max n (-1); omega, by show max n (-1) ≤ _; omega⟩, h.rg.o⟩
theorem lv_fuseQ {W w : World} {S : Nat → Prop} {d N : Nat} {s : Dk} (n : Int) (h : Lv W w S d s N) (hn : n ≤ 9223372036854775807) : Calls Try.prog 8 #[.pointer (some ⟨d, 0, none⟩), .int .i64 n] w fun e w' => e = .returned (.tuple #[]) ∧ Lv.Then W w w' S d (fuseS n s) N :=
  (fuse_any S d s n w h.1).mono fun _ _ ⟨h1, h2⟩ => ⟨h1, h.did h2 (h.2.2.2.setFuseQ n hn)⟩
theorem lv_loadQ {W w : World} {q : Int} {fs : List FE} {A : Option Addr} {n c N : Nat} (hb : Below W.heap.size W w) (h : LdOk q fs) (hn : fs.length = n) (hI : IM w w.heap.size A fs) (hN : fs.length ≤ N) :
    Calls Try.prog 14 #[.slice A n c, .int .i64 q] w fun e w' => ∃ d S, e = .returned (.tuple #[.pointer (some ⟨d, 0, none⟩), .int .i64 0]) ∧ Lv W w' S d (ldS q fs) N ∧ (∀ b, S b → w.heap.size ≤ b) ∧ Below w.heap.size w w' :=
  (load_ok q fs A n c w h hn hI).mono fun _ _ ⟨d, S, h1, h2, h3, h4⟩ => ⟨d, S, h1, ⟨h2, fun b hb2 => Nat.le_trans hb.size (h3 b hb2), hb.trans (h4.mono hb.size), ld_inv h hN⟩, h3, h4⟩
/-- What a step makes of the disk. -/
def stepS (st : SC) (s : Dk) : Dk := if 1 ≤ st.kind ∧ st.kind ≤ 7 then chS st s else if st.kind = 11 then setQuotaS st.y s else if st.kind = 12 then fuseS st.y s else if st.kind = 14 then ldS s.quota (crashL s st.ps) else s
theorem step_bd {st : SC} {s : Dk} {T N M : Nat} (h : Bd s T N) (hi : s.Inv M) (hT : T ≤ 1073741824) (hN : 65536 ≤ N) : Bd (stepS st s) (T + st.bs.length) (N + 1) := by
  have hup := h.up (T' := T + st.bs.length) (N' := N + 1) (Nat.le_add_right _ _) (Nat.le_succ N)
  unfold stepS
  split
  · unfold chS
    split
    · exact (h.create hi).up (Nat.le_add_right _ _) (Nat.le_refl _)
    · split
      · exact (h.append hi).up (Nat.le_refl _) (Nat.le_succ N)
      · split
        · exact (h.trunc hi).up (Nat.le_add_right _ _) (Nat.le_succ N)
        · split
          · exact (h.sync hi).up (Nat.le_add_right _ _) (Nat.le_succ N)
          · split
            · exact h.syncDir.up (Nat.le_add_right _ _) (Nat.le_succ N)
            · split
              · exact (h.rename hi).up (Nat.le_add_right _ _) (Nat.le_succ N)
              · exact (h.remove hi).up (Nat.le_add_right _ _) (Nat.le_succ N)
  · split
    · exact hup.quota
    · split
      · exact hup.fuse
      · split
        · obtain ⟨h1, h2⟩ := h.crash hi hT hi.rg.q st.ps
          exact ld_bd h1 (Nat.le_trans h2 (Nat.le_add_right _ _)) (by have := h1.few; omega)
        · exact hup
set_option maxRecDepth 100000 in
set_option maxHeartbeats 16000000 in
theorem step8 (W : World) (S : Nat → Prop) (d : Nat) (s : Dk) (N : Nat) (L : Nat → Nat) (rb bb : Nat) (st : SC) (w : World) (h : Bo W w S d s N L rb s bb) (hN : N ≤ 999999) (hfm : s.files.length ≤ 999999) (hk : st.kind = 8) (hs : st.Ok W W.heap.size) :
    Calls Try.prog 18 #[.pointer (some ⟨bb, 0, none⟩), .agg st.cells.toArray] w fun e w' => e = .returned (.bool true) ∧ ∃ S' d' L' rb', Bo W w' S' d' (s) (N + 1) L' rb' (s) bb := by
  have HQ := Lib.hid (fun w1 (h1 : Bo W w1 S d s N L rb s bb) => asked8 W S d s N L rb bb st w1 h1 hN hfm hk hs)
  obtain ⟨k, nm, nt, x, y, A, bs, c, A2, ps, c2⟩ := st
  obtain ⟨n, hn⟩ : ∃ n, bs.length = n := ⟨_, rfl⟩
  obtain ⟨n2, hn2⟩ : ∃ n2, ps.length = n2 := ⟨_, rfl⟩
  dsimp only at hk
  subst hk
  simp only [SC.cells, hn, hn2] at HQ ⊢
  have M0 := Lib.hid (Bs.start h #[.int .i64 8, .string nm, .string nt, .int .i64 x, .int .i64 y, .slice A n c, .slice A2 n2 c2])
  have hxc := M0.out.bx.cell
  clear h hN hfm hn hn2 hs
  go_enter Try.func18, Try.ntmps18
  go_wp2_with (first
    | (go_at_call 61
       refine (HQ.out _ M0.out.bo).mono ?_
       rintro e w1 ⟨rfl, hb1⟩
       have M1 := Lib.hid ((M0.out.next hb1).bo.up (Nat.le_succ N))
       clear hb1))
  go_ret
  exact ⟨rfl, S, d, L, rb, M1.out⟩
set_option maxRecDepth 100000 in
set_option maxHeartbeats 16000000 in
theorem step9 (W : World) (S : Nat → Prop) (d : Nat) (s : Dk) (N : Nat) (L : Nat → Nat) (rb bb : Nat) (st : SC) (w : World) (h : Bo W w S d s N L rb s bb) (hN : N ≤ 999999) (hfm : s.files.length ≤ 999999) (hk : st.kind = 9) (hs : st.Ok W W.heap.size) :
    Calls Try.prog 18 #[.pointer (some ⟨bb, 0, none⟩), .agg st.cells.toArray] w fun e w' => e = .returned (.bool true) ∧ ∃ S' d' L' rb', Bo W w' S' d' (s) (N + 1) L' rb' (s) bb := by
  have HQ := Lib.hid (fun w1 (h1 : Bo W w1 S d s N L rb s bb) => asked9 W S d s N L rb bb st w1 h1 hN hfm hk hs)
  obtain ⟨k, nm, nt, x, y, A, bs, c, A2, ps, c2⟩ := st
  obtain ⟨n, hn⟩ : ∃ n, bs.length = n := ⟨_, rfl⟩
  obtain ⟨n2, hn2⟩ : ∃ n2, ps.length = n2 := ⟨_, rfl⟩
  dsimp only at hk
  subst hk
  simp only [SC.cells, hn, hn2] at HQ ⊢
  have M0 := Lib.hid (Bs.start h #[.int .i64 9, .string nm, .string nt, .int .i64 x, .int .i64 y, .slice A n c, .slice A2 n2 c2])
  have hxc := M0.out.bx.cell
  clear h hN hfm hn hn2 hs
  go_enter Try.func18, Try.ntmps18
  go_wp2_with (first
    | (go_at_call 61
       refine (HQ.out _ M0.out.bo).mono ?_
       rintro e w1 ⟨rfl, hb1⟩
       have M1 := Lib.hid ((M0.out.next hb1).bo.up (Nat.le_succ N))
       clear hb1))
  go_ret
  exact ⟨rfl, S, d, L, rb, M1.out⟩
set_option maxRecDepth 100000 in
set_option maxHeartbeats 16000000 in
theorem step10 (W : World) (S : Nat → Prop) (d : Nat) (s : Dk) (N : Nat) (L : Nat → Nat) (rb bb : Nat) (st : SC) (w : World) (h : Bo W w S d s N L rb s bb) (hN : N ≤ 999999) (hfm : s.files.length ≤ 999999) (hk : st.kind = 10) (hs : st.Ok W W.heap.size) :
    Calls Try.prog 18 #[.pointer (some ⟨bb, 0, none⟩), .agg st.cells.toArray] w fun e w' => e = .returned (.bool true) ∧ ∃ S' d' L' rb', Bo W w' S' d' (s) (N + 1) L' rb' (s) bb := by
  have HQ := Lib.hid (fun w1 (h1 : Bo W w1 S d s N L rb s bb) => asked10 W S d s N L rb bb st w1 h1 hN hfm hk hs)
  obtain ⟨k, nm, nt, x, y, A, bs, c, A2, ps, c2⟩ := st
  obtain ⟨n, hn⟩ : ∃ n, bs.length = n := ⟨_, rfl⟩
  obtain ⟨n2, hn2⟩ : ∃ n2, ps.length = n2 := ⟨_, rfl⟩
  dsimp only at hk
  subst hk
  simp only [SC.cells, hn, hn2] at HQ ⊢
  have M0 := Lib.hid (Bs.start h #[.int .i64 10, .string nm, .string nt, .int .i64 x, .int .i64 y, .slice A n c, .slice A2 n2 c2])
  have hxc := M0.out.bx.cell
  clear h hN hfm hn hn2 hs
  go_enter Try.func18, Try.ntmps18
  go_wp2_with (first
    | (go_at_call 61
       refine (HQ.out _ M0.out.bo).mono ?_
       rintro e w1 ⟨rfl, hb1⟩
       have M1 := Lib.hid ((M0.out.next hb1).bo.up (Nat.le_succ N))
       clear hb1))
  go_ret
  exact ⟨rfl, S, d, L, rb, M1.out⟩
set_option maxRecDepth 100000 in
set_option maxHeartbeats 16000000 in
theorem step13 (W : World) (S : Nat → Prop) (d : Nat) (s : Dk) (N : Nat) (L : Nat → Nat) (rb bb : Nat) (st : SC) (w : World) (h : Bo W w S d s N L rb s bb) (hN : N ≤ 999999) (hfm : s.files.length ≤ 999999) (hk : st.kind = 13) (hs : st.Ok W W.heap.size) (hc2 : st.ps.length ≤ st.c2) (hps : st.ps.length ≤ 1048576) :
    Calls Try.prog 18 #[.pointer (some ⟨bb, 0, none⟩), .agg st.cells.toArray] w fun e w' => e = .returned (.bool true) ∧ ∃ S' d' L' rb', Bo W w' S' d' (s) (N + 1) L' rb' (s) bb := by
  have HQ := Lib.hid (fun w1 (h1 : Bo W w1 S d s N L rb s bb) => asked13 W S d s N L rb bb st w1 h1 hN hfm hk hs hc2 hps)
  obtain ⟨k, nm, nt, x, y, A, bs, c, A2, ps, c2⟩ := st
  obtain ⟨n, hn⟩ : ∃ n, bs.length = n := ⟨_, rfl⟩
  obtain ⟨n2, hn2⟩ : ∃ n2, ps.length = n2 := ⟨_, rfl⟩
  dsimp only at hk
  subst hk
  simp only [SC.cells, hn, hn2] at HQ ⊢
  have M0 := Lib.hid (Bs.start h #[.int .i64 13, .string nm, .string nt, .int .i64 x, .int .i64 y, .slice A n c, .slice A2 n2 c2])
  have hxc := M0.out.bx.cell
  clear h hN hfm hn hn2 hs hc2 hps
  go_enter Try.func18, Try.ntmps18
  go_wp2_with (first
    | (go_at_call 61
       refine (HQ.out _ M0.out.bo).mono ?_
       rintro e w1 ⟨rfl, hb1⟩
       have M1 := Lib.hid ((M0.out.next hb1).bo.up (Nat.le_succ N))
       clear hb1))
  go_ret
  exact ⟨rfl, S, d, L, rb, M1.out⟩
set_option maxRecDepth 100000 in
set_option maxHeartbeats 16000000 in
theorem step11 (W : World) (S : Nat → Prop) (d : Nat) (s : Dk) (N : Nat) (L : Nat → Nat) (rb bb : Nat) (st : SC) (w : World) (h : Bo W w S d s N L rb s bb) (hN : N ≤ 999999) (hfm : s.files.length ≤ 999999) (hk : st.kind = 11) (hs : st.Ok W W.heap.size) :
    Calls Try.prog 18 #[.pointer (some ⟨bb, 0, none⟩), .agg st.cells.toArray] w fun e w' => e = .returned (.bool true) ∧ ∃ S' d' L' rb', Bo W w' S' d' (setQuotaS st.y s) (N + 1) L' rb' (setQuotaS st.y s) bb := by
  obtain ⟨k, nm, nt, x, y, A, bs, c, A2, ps, c2⟩ := st
  obtain ⟨n, hn⟩ : ∃ n, bs.length = n := ⟨_, rfl⟩
  obtain ⟨n2, hn2⟩ : ∃ n2, ps.length = n2 := ⟨_, rfl⟩
  obtain ⟨hA, hP, hz1, hz2, hwf⟩ := hs
  dsimp only at hA hP hz1 hz2 hwf hk ⊢
  subst hk
  simp only [SC.cells, hn, hn2]
  have H := Lib.hid (And.intro h.lv.2.2.2 (And.intro hN (And.intro hfm (And.intro hn2 (And.intro hP (And.intro hwf trivial))))))
  have M0 := Lib.hid (Bs.start h #[.int .i64 11, .string nm, .string nt, .int .i64 x, .int .i64 y, .slice A n c, .slice A2 n2 c2])
  have hxc := M0.out.bx.cell
  clear h hN hfm hz1 hz2 hn hn2 hA hP hwf
  obtain ⟨ev, hev⟩ : ∃ ev, setQuotaE y = ev := ⟨_, rfl⟩
  have HV := Lib.hid hev
  clear hev
  go_enter Try.func18, Try.ntmps18
  go_upto_region 18 with fail
  have hs := cell_nine M0.out
  have M := Lib.hid (M0.out.next (below_drew (Below.refl _ _)))
  have hsd := cell_nine M.out
  go_region_held3 (fun w' => w'.cell? ⟨bb, 0, none⟩ = some (.pointer (some ⟨d, 0, none⟩)) ∧ w'.cell? ⟨bb, 1, none⟩ = some (.pointer (some ⟨rb, 0, none⟩)) ∧ w'.cell? ⟨w.heap.size, 0, none⟩ = some (.int .i64 11) ∧ w'.cell? ⟨w.heap.size, 1, none⟩ = some (.string nm) ∧ w'.cell? ⟨w.heap.size, 2, none⟩ = some (.string nt) ∧ w'.cell? ⟨w.heap.size, 3, none⟩ = some (.int .i64 x) ∧ w'.cell? ⟨w.heap.size, 4, none⟩ = some (.int .i64 y) ∧ w'.cell? ⟨w.heap.size, 5, none⟩ = some (.slice A n c) ∧ w'.cell? ⟨w.heap.size, 6, none⟩ = some (.slice A2 n2 c2))
    (first | with_reducible exact hs | with_reducible exact hsd)
    (first
      | (go_at_call 62
         refine (lv_setQuota y M.out.bo.lv).mono ?_
         rintro e w1 ⟨rfl, h1⟩
         rw [HV.out]
         obtain ⟨S1, hM1⟩ := M.out.a h1
         have M1 := Lib.hid hM1
         clear hs hsd
         have hs := cell_nine M1.out
         have hsd := hs
         clear h1 hM1))
  clear hxc
  have hxc := M1.out.bx.cell
  go_upto_region 19 with fail
  have M1d := Lib.hid (M1.out.next (below_drew (Below.refl _ _)))
  clear hsd
  have hsd := cell_nine M1d.out
  go_region_held3 (fun w' => w'.cell? ⟨bb, 0, none⟩ = some (.pointer (some ⟨d, 0, none⟩)) ∧ w'.cell? ⟨bb, 1, none⟩ = some (.pointer (some ⟨rb, 0, none⟩)) ∧ w'.cell? ⟨w.heap.size, 0, none⟩ = some (.int .i64 11) ∧ w'.cell? ⟨w.heap.size, 1, none⟩ = some (.string nm) ∧ w'.cell? ⟨w.heap.size, 2, none⟩ = some (.string nt) ∧ w'.cell? ⟨w.heap.size, 3, none⟩ = some (.int .i64 x) ∧ w'.cell? ⟨w.heap.size, 4, none⟩ = some (.int .i64 y) ∧ w'.cell? ⟨w.heap.size, 5, none⟩ = some (.slice A n c) ∧ w'.cell? ⟨w.heap.size, 6, none⟩ = some (.slice A2 n2 c2))
    (first | with_reducible exact hs | with_reducible exact hsd)
    (first
      | (go_at_call 63
         refine (setQuotaR_any rb L s y _ M1d.out.bo.rd).mono ?_
         rintro e w2 ⟨rfl, h1, h2⟩
         rw [HV.out]
         have M2 := Lib.hid (M1d.out.b h1 h2)
         clear hs hsd
         have hs := cell_nine M2.out
         have hsd := hs
         clear h1 h2))
  go_wp2
  go_ret
  exact ⟨rfl, S1, d, L, rb, M2.out.bo.up (Nat.le_succ N)⟩
set_option maxRecDepth 100000 in
set_option maxHeartbeats 16000000 in
theorem step12 (W : World) (S : Nat → Prop) (d : Nat) (s : Dk) (N : Nat) (L : Nat → Nat) (rb bb : Nat) (st : SC) (w : World) (h : Bo W w S d s N L rb s bb) (hN : N ≤ 999999) (hfm : s.files.length ≤ 999999) (hk : st.kind = 12) (hs : st.Ok W W.heap.size) (hy : st.y ≤ 9223372036854775807) :
    Calls Try.prog 18 #[.pointer (some ⟨bb, 0, none⟩), .agg st.cells.toArray] w fun e w' => e = .returned (.bool true) ∧ ∃ S' d' L' rb', Bo W w' S' d' (fuseS st.y s) (N + 1) L' rb' (fuseS st.y s) bb := by
  obtain ⟨k, nm, nt, x, y, A, bs, c, A2, ps, c2⟩ := st
  obtain ⟨n, hn⟩ : ∃ n, bs.length = n := ⟨_, rfl⟩
  obtain ⟨n2, hn2⟩ : ∃ n2, ps.length = n2 := ⟨_, rfl⟩
  obtain ⟨hA, hP, hz1, hz2, hwf⟩ := hs
  dsimp only at hA hP hz1 hz2 hwf hk hy ⊢
  subst hk
  simp only [SC.cells, hn, hn2]
  have H := Lib.hid (And.intro h.lv.2.2.2 (And.intro hN (And.intro hfm (And.intro hn2 (And.intro hP (And.intro hwf hy))))))
  have M0 := Lib.hid (Bs.start h #[.int .i64 12, .string nm, .string nt, .int .i64 x, .int .i64 y, .slice A n c, .slice A2 n2 c2])
  have hxc := M0.out.bx.cell
  clear h hN hfm hz1 hz2 hn hn2 hA hP hwf hy
  go_enter Try.func18, Try.ntmps18
  go_upto_region 22 with fail
  have hs := cell_nine M0.out
  have M := Lib.hid (M0.out.next (below_drew (Below.refl _ _)))
  have hsd := cell_nine M.out
  go_region_held3 (fun w' => w'.cell? ⟨bb, 0, none⟩ = some (.pointer (some ⟨d, 0, none⟩)) ∧ w'.cell? ⟨bb, 1, none⟩ = some (.pointer (some ⟨rb, 0, none⟩)) ∧ w'.cell? ⟨w.heap.size, 0, none⟩ = some (.int .i64 12) ∧ w'.cell? ⟨w.heap.size, 1, none⟩ = some (.string nm) ∧ w'.cell? ⟨w.heap.size, 2, none⟩ = some (.string nt) ∧ w'.cell? ⟨w.heap.size, 3, none⟩ = some (.int .i64 x) ∧ w'.cell? ⟨w.heap.size, 4, none⟩ = some (.int .i64 y) ∧ w'.cell? ⟨w.heap.size, 5, none⟩ = some (.slice A n c) ∧ w'.cell? ⟨w.heap.size, 6, none⟩ = some (.slice A2 n2 c2))
    (first | with_reducible exact hs | with_reducible exact hsd)
    (first
      | (go_at_call 8
         refine (lv_fuseQ y M.out.bo.lv H.out.2.2.2.2.2.2).mono ?_
         rintro e w1 ⟨rfl, h1⟩
         obtain ⟨S1, hM1⟩ := M.out.a h1
         have M1 := Lib.hid hM1
         clear hs hsd
         have hs := cell_nine M1.out
         have hsd := hs
         clear h1 hM1))
  clear hxc
  have hxc := M1.out.bx.cell
  go_upto_region 23 with fail
  have M1d := Lib.hid (M1.out.next (below_drew (Below.refl _ _)))
  clear hsd
  have hsd := cell_nine M1d.out
  go_region_held3 (fun w' => w'.cell? ⟨bb, 0, none⟩ = some (.pointer (some ⟨d, 0, none⟩)) ∧ w'.cell? ⟨bb, 1, none⟩ = some (.pointer (some ⟨rb, 0, none⟩)) ∧ w'.cell? ⟨w.heap.size, 0, none⟩ = some (.int .i64 12) ∧ w'.cell? ⟨w.heap.size, 1, none⟩ = some (.string nm) ∧ w'.cell? ⟨w.heap.size, 2, none⟩ = some (.string nt) ∧ w'.cell? ⟨w.heap.size, 3, none⟩ = some (.int .i64 x) ∧ w'.cell? ⟨w.heap.size, 4, none⟩ = some (.int .i64 y) ∧ w'.cell? ⟨w.heap.size, 5, none⟩ = some (.slice A n c) ∧ w'.cell? ⟨w.heap.size, 6, none⟩ = some (.slice A2 n2 c2))
    (first | with_reducible exact hs | with_reducible exact hsd)
    (first
      | (go_at_call 64
         refine (fuseR_any rb L s y _ M1d.out.bo.rd).mono ?_
         rintro e w2 ⟨rfl, h1, h2⟩
         have M2 := Lib.hid (M1d.out.b h1 h2)
         clear hs hsd
         have hs := cell_nine M2.out
         have hsd := hs
         clear h1 h2))
  go_wp2
  go_ret
  exact ⟨rfl, S1, d, L, rb, M2.out.bo.up (Nat.le_succ N)⟩
set_option maxRecDepth 100000 in
set_option maxHeartbeats 16000000 in
theorem step14 (W : World) (S : Nat → Prop) (d : Nat) (s : Dk) (N : Nat) (L : Nat → Nat) (rb bb : Nat) (st : SC) (w : World) (h : Bo W w S d s N L rb s bb) (hN : N ≤ 999999) (hfm : s.files.length ≤ 999999) (hk : st.kind = 14) (hs : st.Ok W W.heap.size) (hc2 : st.ps.length ≤ st.c2) (hps : st.ps.length ≤ 1048576) (hN2 : 65536 ≤ N) (hld : LdOk s.quota (crashL s st.ps)) :
    Calls Try.prog 18 #[.pointer (some ⟨bb, 0, none⟩), .agg st.cells.toArray] w fun e w' => e = .returned (.bool true) ∧ ∃ S' d' L' rb', Bo W w' S' d' (ldS s.quota (crashL s st.ps)) (N + 1) L' rb' (ldS s.quota (crashL s st.ps)) bb := by
  obtain ⟨k, nm, nt, x, y, A, bs, c, A2, ps, c2⟩ := st
  obtain ⟨n, hn⟩ : ∃ n, bs.length = n := ⟨_, rfl⟩
  obtain ⟨n2, hn2⟩ : ∃ n2, ps.length = n2 := ⟨_, rfl⟩
  obtain ⟨hA, hP, hz1, hz2, hwf⟩ := hs
  dsimp only at hA hP hz1 hz2 hwf hk hc2 hps hld ⊢
  subst hk
  simp only [SC.cells, hn, hn2] at hc2 hps ⊢
  have H := Lib.hid (And.intro h.lv.2.2.2 (And.intro hN (And.intro hfm (And.intro hn2 (And.intro hP (And.intro hwf (And.intro hc2 (And.intro hps (And.intro hN2 hld)))))))))
  have M0 := Lib.hid (Bs.start h #[.int .i64 14, .string nm, .string nt, .int .i64 x, .int .i64 y, .slice A n c, .slice A2 n2 c2])
  have hxc := M0.out.bx.cell
  clear h hN hfm hz1 hz2 hn hn2 hA hP hwf hc2 hps hN2 hld
  obtain ⟨cl, hcl⟩ : ∃ cl, crashL s ps = cl := ⟨_, rfl⟩
  obtain ⟨cn, hcn⟩ : ∃ cn, cl.length = cn := ⟨_, rfl⟩
  have hcnm : cn ≤ 65536 := by rw [← hcn, ← hcl]; exact H.out.2.2.2.2.2.2.2.2.2.few
  have HE := Lib.hid (And.intro hcl hcn)
  have HSM := Lib.hid (show ∀ p ∈ cl, p.2.length ≤ 140737488351232 by rw [← hcl]; exact crash_small H.out.1 ps)
  rw [hcl]
  clear hcl hcn
  go_enter Try.func18, Try.ntmps18
  go_upto_region 25 with fail
  have hs := cell_nine M0.out
  have M := Lib.hid (M0.out.next (below_drew (Below.refl _ _)))
  have hsd := cell_nine M.out
  go_region_held3 (fun w' => w'.cell? ⟨bb, 0, none⟩ = some (.pointer (some ⟨d, 0, none⟩)) ∧ w'.cell? ⟨bb, 1, none⟩ = some (.pointer (some ⟨rb, 0, none⟩)) ∧ w'.cell? ⟨w.heap.size, 0, none⟩ = some (.int .i64 14) ∧ w'.cell? ⟨w.heap.size, 1, none⟩ = some (.string nm) ∧ w'.cell? ⟨w.heap.size, 2, none⟩ = some (.string nt) ∧ w'.cell? ⟨w.heap.size, 3, none⟩ = some (.int .i64 x) ∧ w'.cell? ⟨w.heap.size, 4, none⟩ = some (.int .i64 y) ∧ w'.cell? ⟨w.heap.size, 5, none⟩ = some (.slice A n c) ∧ w'.cell? ⟨w.heap.size, 6, none⟩ = some (.slice A2 n2 c2))
    (first | with_reducible exact hs | with_reducible exact hsd)
    (first
      | (go_at_call 10
         refine (lv_crash ps A2 n2 c2 M.out.bo.lv (by have := H.out.2.1; omega) (rd_low H.out.2.2.2.2.1 M.out.bo.bel) H.out.2.2.2.1 H.out.2.2.2.2.2.2.1 H.out.2.2.2.2.2.1 (by have := H.out.2.2.2.2.2.2.2.1; omega)).mono ?_
         rintro e w1 ⟨usX, bX, cX, rfl, hf, hb⟩
         rw [HE.out.1, HE.out.2] at hf
         rw [HE.out.1, HE.out.2]
         have qX := Lib.hid hf.im
         have M1 := Lib.hid (M.out.next hb)
         clear hs hsd
         have hs := cell_nine M1.out
         have hsd := hs
         clear hf hb))
  clear hxc
  have hxc := M1.out.bx.cell
  go_upto_region 26 with fail
  have M1d := Lib.hid (M1.out.next (below_drew (Below.refl _ _)))
  have qXd := Lib.hid (qX.out.next (below_drew (Below.refl _ _)))
  clear hsd
  have hsd := cell_nine M1d.out
  go_region_held3 (fun w' => w'.cell? ⟨bb, 0, none⟩ = some (.pointer (some ⟨d, 0, none⟩)) ∧ w'.cell? ⟨bb, 1, none⟩ = some (.pointer (some ⟨rb, 0, none⟩)) ∧ w'.cell? ⟨w.heap.size, 0, none⟩ = some (.int .i64 14) ∧ w'.cell? ⟨w.heap.size, 1, none⟩ = some (.string nm) ∧ w'.cell? ⟨w.heap.size, 2, none⟩ = some (.string nt) ∧ w'.cell? ⟨w.heap.size, 3, none⟩ = some (.int .i64 x) ∧ w'.cell? ⟨w.heap.size, 4, none⟩ = some (.int .i64 y) ∧ w'.cell? ⟨w.heap.size, 5, none⟩ = some (.slice A n c) ∧ w'.cell? ⟨w.heap.size, 6, none⟩ = some (.slice A2 n2 c2))
    (first | with_reducible exact hs | with_reducible exact hsd)
    (first
      | (go_at_call 65
         refine (crashR_any rb L s N c2 n2 ps A2 _ M1d.out.bo.rd H.out.1 (by have := H.out.2.1; omega) (rd_low H.out.2.2.2.2.1 M1d.out.bo.bel) H.out.2.2.2.1 H.out.2.2.2.2.2.1 (by have := H.out.2.2.2.2.2.2.2.1; omega)).mono ?_
         rintro e w2 ⟨usY, bY, cY, rfl, hf, hb⟩
         rw [HE.out.1, HE.out.2] at hf
         rw [HE.out.1, HE.out.2]
         have qY := Lib.hid hf.im
         have qX2 := Lib.hid (qXd.out.next hb)
         have M2 := Lib.hid (M1d.out.next hb)
         clear hs hsd
         have hs := cell_nine M2.out
         have hsd := hs
         clear hf hb))
  go_wp2_with (first
    | (go_at_call 16
       refine (sameImage_any bX bY cn cX cn cY cl cl _ HE.out.2 HE.out.2 qX2.out qY.out (by omega) (by omega) HSM.out HSM.out).mono ?_
       rintro e w3 ⟨rfl, kq, hwq⟩
       rw [show decide (cl = cl) = true from decide_eq_true rfl]
       have hb : Below w2.heap.size w2 w3 := by rw [hwq]; exact below_drewN (Below.refl _ _) kq
       have qX3 := Lib.hid (qX2.out.next hb)
       have qY3 := Lib.hid (qY.out.next hb)
       have M3 := Lib.hid (M2.out.next hb)
       have hbc := M3.out.bo.bx.cell
       have Q1 := trivial
       clear hwq hb hs hsd)
    | (go_at_call 52
       have z := Q1
       clear z
       refine (quotaR_any rb L s _ M3.out.bo.rd).mono ?_
       rintro e wq ⟨rfl, hwq⟩
       have hq1 := hwq.symm
       subst hq1
       have Q2 := trivial
       clear hwq Q1)
    | (go_at_call 14
       refine (lv_loadQ (W := W) (N := N + 1) M3.out.bo.bel (by rw [← HE.out.1]; exact H.out.2.2.2.2.2.2.2.2.2) HE.out.2 qX3.out (by rw [HE.out.2]; have := H.out.2.2.2.2.2.2.2.2.1; omega)).mono ?_
       rintro e w4 ⟨d4, S4, rfl, g1, g2, g3⟩
       have M4 := Lib.hid (M3.out.next g3)
       have L4 := Lib.hid (And.intro g1 g2)
       have hz34 := Lib.hid g3.size
       have qY4 := Lib.hid (qY3.out.next g3)
       have hbc4 := M4.out.bo.bx.cell
       clear g1 g2 g3 hbc)
    | (go_at_call 52
       have z := Q2
       clear z
       refine (quotaR_any rb L s _ M4.out.bo.rd).mono ?_
       rintro e wq ⟨rfl, hwq⟩
       have hq1 := hwq.symm
       subst hq1
       clear hwq Q2)
    | (go_at_call 15
       refine (loadR_ok s.quota cl bY cn cY _ (by rw [← HE.out.1]; exact H.out.2.2.2.2.2.2.2.2.2) HE.out.2 qY4.out).mono ?_
       rintro e w5 ⟨rb5, L5, rfl, g1, g2, g3⟩
       have M5 := Lib.hid (M4.out.next g3)
       have L5h := Lib.hid (And.intro (L4.out.1.next g3) (And.intro g1 (And.intro g2 g3.size)))
       have hbc5 := M5.out.bo.bx.cell
       have hbf5 := M5.out.bo.bx.free
       have hbl5 := M5.out.bo.bx.lt
       clear g1 g2 g3 hbc4))
  go_ret
  obtain ⟨k1, k2, k3, k4⟩ := L5h.out
  have hbb4 : bb < w3.heap.size := M3.out.bo.bx.lt
  have hnS : ¬ S4 bb := fun hb => by have := L4.out.2 bb hb; omega
  have hw34 : w3.heap.size ≤ w4.heap.size := by have := M4.out.bo.bx.lt; exact hz34.out
  have hnL : L5 bb = 0 := Classical.byContradiction fun hne => by have := k3 bb hne; omega
  have hB1 := (M5.out.bo.bx.set_ 0 (.pointer (some ⟨d4, 0, none⟩))).set_ 1 (.pointer (some ⟨rb5, 0, none⟩))
  have hc : Chg (fun b => b = bb) w5 ((w5.setCell ⟨bb, 0, none⟩ (.pointer (some ⟨d4, 0, none⟩))).setCell ⟨bb, 1, none⟩ (.pointer (some ⟨rb5, 0, none⟩))) := chg_at (chg_at (Chg.refl (fun b => b = bb) w5) _ _) _ _
  refine ⟨rfl, S4, d4, L5, rb5, k1.far hc (fun b hb e => hnS (e ▸ hb)) (fun b e => by subst e; exact M5.out.bo.bW), k2.far hc hnL, fun b hb => ?_, fun b hb => ?_, by simpa using hB1, hnS, hnL, M5.out.bo.bW⟩
  · have h1 := k3 b hb
    have h2 := M4.out.bo.bel.size
    omega
  · refine Classical.byContradiction fun hne => ?_
    have h1 := k3 b hne
    have h2 := L4.out.1.lt b hb
    omega
end Go.Proofs.Ytebeefkibbbkdaa
/- The steps of a script that came in, opened; the bounds of an '..UptoSaid'. -/
namespace Go.Proofs.Ytebeefkibbbkdaa
open Go.RowKit Go.ChangeShapes Go.WideShapes Go.ChangeAt Go.Deep

/-- A script, read at A. -/
def Stp (w : World) (B : Nat) (A : Option Addr) (l : List SC) : Prop := Rd w B A (l.flatMap SC.cells) ∧ ∀ s ∈ l, s.Ok w B
theorem bulk_nth {H : Type} {parts : List (DataW H)} {d : DataW H} {j : Nat} (h : parts[j]? = some d) : Rows.uptoBulk d ≤ Rows.uptoBulk (.agg parts) := by
  have := bulk_part (List.mem_of_getElem? h)
  simp only [Rows.uptoBulk]
  omega
theorem bulk_to {H : Type} {d : DataW H} {n : Nat} {p : Prop} (h : (d = .nil ∧ p) ∨ ∃ el sp, d = .slice el sp ∧ el.length = n) (hp : p → n = 0) : n ≤ Rows.uptoBulk d := by
  rcases h with ⟨_, h⟩ | ⟨el, sp, rfl, h2⟩
  · rw [hp h]; omega
  · have := bulk_slice el sp; omega
section
variable {H : Type} {enc : TypeId × Value → H} {w : World}
set_option maxRecDepth 100000 in
theorem op_steps (n : Nat) (c : Value) (y : DataW H × List MemPlace) (h : TR enc Try.prog w n 39 [c] y) :
    ∃ (A : Option Addr) (l : List SC) (cap : Nat), c = .slice A l.length cap ∧ Stp w w.heap.size A l ∧ (∀ s ∈ l, s.bs.length ≤ Rows.uptoBulk y.1 ∧ s.ps.length ≤ Rows.uptoBulk y.1) ∧ l.length ≤ Rows.uptoBulk y.1 ∧ l.length ≤ cap := by
  rcases open_slice Try.underlying39 h with ⟨hcs, hy⟩ | ⟨a, len, cap, q, n', D, Pl, hcs, _, hl, hm, hq, hy, hi⟩
  · exact ⟨none, [], 0, by simpa using hcs, ⟨Rd.nil _ _ _, by simp⟩, by simp, Nat.zero_le _, Nat.le_refl _⟩
  · have hq' : q = cap := by simpa using hq
    have hc : Try.prog.cellsOf 52 = 7 := by kernel_rfl
    rw [hc] at hi
    have hf : ∀ s : SC, s.cells.length = 7 := fun _ => rfl
    have hD : ∀ i, i < len → Rows.uptoBulk (D i) ≤ Rows.uptoBulk y.1 := fun i hlt => by
      rw [hy]
      have := bulk_part (show D i ∈ (List.range len).map D from List.mem_map.2 ⟨i, List.mem_range.2 hlt, rfl⟩)
      simp only [Rows.uptoBulk]
      omega
    obtain ⟨l, hll, hlq⟩ := list_choice (Q := fun i (b : SC) => (b.Ok w w.heap.size ∧ b.bs.length ≤ Rows.uptoBulk y.1 ∧ b.ps.length ≤ Rows.uptoBulk y.1) ∧ w.cells? 0 (a.add (i * 7)) 7 = some b.cells) len fun i hlt => by
      obtain ⟨cs', h1, h2⟩ := hi i (by omega)
      obtain ⟨b, parts, rfl, hg, e2, _, ⟨d5, e5, b5⟩, d6, e6, b6⟩ := op_step _ _ _ h2
      have hd := hD i hlt
      have e2' : D i = .agg parts := e2
      rw [e2'] at hd
      have h5 := bulk_nth e5
      have h6 := bulk_nth e6
      have g5 := bulk_to b5 (fun h => by rw [h]; rfl)
      have g6 := bulk_to b6 (fun h => by rw [h]; rfl)
      exact ⟨b, ⟨hg, by omega, by omega⟩, h1⟩
    refine ⟨some a, l, cap, by rw [hll]; simpa using hcs, ⟨?_, fun s hs => ?_⟩, fun s hs => ?_, ?_, by omega⟩
    · intro j u hj
      obtain ⟨b, h1, h2⟩ := flat_at SC.cells 7 hf l j u hj
      obtain ⟨_, h3⟩ := hlq _ _ h1
      obtain ⟨_, _, h4⟩ := World.cells?_some h3
      have hlt : j % 7 < 7 := Nat.mod_lt _ (by decide)
      have h5 := h4 (j % 7) hlt
      rw [h2, add_add', Nat.mul_comm, Nat.div_add_mod] at h5
      refine ⟨a, rfl, ?_, h5⟩
      rw [← add_block a j]; exact World.block_lt_of_cell? _ _ h5
    · obtain ⟨i, hi', rfl⟩ := List.getElem_of_mem hs
      exact (hlq i _ (List.getElem?_eq_getElem hi')).1.1
    · obtain ⟨i, hi', rfl⟩ := List.getElem_of_mem hs
      exact (hlq i _ (List.getElem?_eq_getElem hi')).1.2
    · rw [hy, hll]
      have := bulk_len ((List.range len).map D)
      simp only [List.length_map, List.length_range] at this
      simp only [Rows.uptoBulk]
      omega
end
/-- The cells of the i-th step of a script. -/
theorem stp_get (l : List SC) : ∀ (i : Nat) (hi : i < l.length) (j : Nat) (u : Value), (l[i].cells)[j]? = some u → (l.flatMap SC.cells)[i * 7 + j]? = some u := by
  induction l with
  | nil => intro i hi; simp at hi
  | cons p l ih =>
    intro i hi j u hj
    cases i with
    | zero =>
      have hl := (List.getElem?_eq_some_iff.1 hj).1
      simp only [List.flatMap_cons, List.getElem_cons_zero, Nat.zero_mul, Nat.zero_add] at hj hl ⊢
      rw [List.getElem?_append_left hl]; exact hj
    | succ i =>
      simp only [List.flatMap_cons, List.getElem_cons_succ] at hj ⊢
      have hl : (SC.cells p).length = 7 := rfl
      rw [List.getElem?_append_right (by omega), hl, show (i + 1) * 7 + j - 7 = i * 7 + j by omega]
      exact ih i (by simpa using hi) j u hj
theorem Stp.below {w w' : World} {B : Nat} {A : Option Addr} {l : List SC} (h : Stp w B A l) (hb : Below B w w') : Stp w' B A l :=
  ⟨h.1.below hb, fun s hs => by obtain ⟨h1, h2, h3⟩ := h.2 s hs; exact ⟨h1.below hb, h2.below hb, h3⟩⟩
theorem Stp.step {w : World} {B : Nat} {A : Option Addr} {l : List SC} (h : Stp w B A l) {i : Nat} {s : SC} (hs : l[i]? = some s) : ∃ ad : Addr, A = some ad ∧ ad.block < B ∧ w.cell? (ad.add (i * 7)) = some (.int .i64 s.kind) ∧
    w.cell? ⟨(ad.add (i * 7)).block, (ad.add (i * 7)).off + 1, none⟩ = some (.string s.nm) ∧ w.cell? ⟨(ad.add (i * 7)).block, (ad.add (i * 7)).off + 2, none⟩ = some (.string s.to) ∧ w.cell? ⟨(ad.add (i * 7)).block, (ad.add (i * 7)).off + 3, none⟩ = some (.int .i64 s.x) ∧
    w.cell? ⟨(ad.add (i * 7)).block, (ad.add (i * 7)).off + 4, none⟩ = some (.int .i64 s.y) ∧ w.cell? ⟨(ad.add (i * 7)).block, (ad.add (i * 7)).off + 5, none⟩ = some (.slice s.A s.bs.length s.c) ∧ w.cell? ⟨(ad.add (i * 7)).block, (ad.add (i * 7)).off + 6, none⟩ = some (.slice s.A2 s.ps.length s.c2) ∧ s.Ok w B := by
  obtain ⟨hi, rfl⟩ := List.getElem?_eq_some_iff.1 hs
  have g := stp_get l i hi
  obtain ⟨ad, rfl, hb, c0⟩ := h.1 _ _ (g 0 _ rfl)
  refine ⟨ad, rfl, hb, c0, ?_, ?_, ?_, ?_, ?_, ?_, h.2 _ (List.getElem_mem hi)⟩
  · obtain ⟨a', e, _, c⟩ := h.1 _ _ (g 1 _ rfl); cases e; rw [← add_add'] at c; exact c
  · obtain ⟨a', e, _, c⟩ := h.1 _ _ (g 2 _ rfl); cases e; rw [← add_add'] at c; exact c
  · obtain ⟨a', e, _, c⟩ := h.1 _ _ (g 3 _ rfl); cases e; rw [← add_add'] at c; exact c
  · obtain ⟨a', e, _, c⟩ := h.1 _ _ (g 4 _ rfl); cases e; rw [← add_add'] at c; exact c
  · obtain ⟨a', e, _, c⟩ := h.1 _ _ (g 5 _ rfl); cases e; rw [← add_add'] at c; exact c
  · obtain ⟨a', e, _, c⟩ := h.1 _ _ (g 6 _ rfl); cases e; rw [← add_add'] at c; exact c
end Go.Proofs.Ytebeefkibbbkdaa
/- SimfsScripts: the law. -/
namespace Go.Proofs.Ytebeefkibbbkdaa
open Go.RowKit Go.Maps

set_option maxRecDepth 100000 in
set_option maxHeartbeats 16000000 in
theorem stepLo (W : World) (S : Nat → Prop) (d : Nat) (s : Dk) (N : Nat) (L : Nat → Nat) (rb bb : Nat) (st : SC) (w : World) (h : Bo W w S d s N L rb s bb) (hk : st.kind < 1) :
    Calls Try.prog 18 #[.pointer (some ⟨bb, 0, none⟩), .agg st.cells.toArray] w fun e w' => e = .returned (.bool true) ∧ ∃ S' d' L' rb', Bo W w' S' d' (s) (N + 1) L' rb' (s) bb := by
  obtain ⟨k, nm, nt, x, y, A, bs, c, A2, ps, c2⟩ := st
  obtain ⟨n, hn⟩ : ∃ n, bs.length = n := ⟨_, rfl⟩
  obtain ⟨n2, hn2⟩ : ∃ n2, ps.length = n2 := ⟨_, rfl⟩
  dsimp only at hk
  simp only [SC.cells, hn, hn2]
  have M0 := Lib.hid (Bs.start h #[.int .i64 k, .string nm, .string nt, .int .i64 x, .int .i64 y, .slice A n c, .slice A2 n2 c2])
  have hxc := M0.out.bx.cell
  clear h hn hn2
  go_enter Try.func18, Try.ntmps18
  go_wp2
  go_ret
  exact ⟨rfl, S, d, L, rb, M0.out.bo.up (Nat.le_succ N)⟩
set_option maxRecDepth 100000 in
set_option maxHeartbeats 16000000 in
theorem stepHi (W : World) (S : Nat → Prop) (d : Nat) (s : Dk) (N : Nat) (L : Nat → Nat) (rb bb : Nat) (st : SC) (w : World) (h : Bo W w S d s N L rb s bb) (hk : 14 < st.kind) :
    Calls Try.prog 18 #[.pointer (some ⟨bb, 0, none⟩), .agg st.cells.toArray] w fun e w' => e = .returned (.bool true) ∧ ∃ S' d' L' rb', Bo W w' S' d' (s) (N + 1) L' rb' (s) bb := by
  obtain ⟨k, nm, nt, x, y, A, bs, c, A2, ps, c2⟩ := st
  obtain ⟨n, hn⟩ : ∃ n, bs.length = n := ⟨_, rfl⟩
  obtain ⟨n2, hn2⟩ : ∃ n2, ps.length = n2 := ⟨_, rfl⟩
  dsimp only at hk
  simp only [SC.cells, hn, hn2]
  have M0 := Lib.hid (Bs.start h #[.int .i64 k, .string nm, .string nt, .int .i64 x, .int .i64 y, .slice A n c, .slice A2 n2 c2])
  have hxc := M0.out.bx.cell
  clear h hn hn2
  go_enter Try.func18, Try.ntmps18
  go_wp2
  go_ret
  exact ⟨rfl, S, d, L, rb, M0.out.bo.up (Nat.le_succ N)⟩
theorem step_any (W : World) (S : Nat → Prop) (d : Nat) (s : Dk) (T N : Nat) (L : Nat → Nat) (rb bb : Nat) (st : SC) (w : World) (h : Bo W w S d s N L rb s bb) (hB : Bd s T N) (hT : T ≤ 1073741824) (hN : N ≤ 999999) (hN2 : 65536 ≤ N) (hs : st.Ok W W.heap.size) (hc2 : st.ps.length ≤ st.c2) (hps : st.ps.length ≤ 1048576) (hbs : st.bs.length ≤ 1048576) (hy : st.y ≤ 9223372036854775807) :
    Calls Try.prog 18 #[.pointer (some ⟨bb, 0, none⟩), .agg st.cells.toArray] w fun e w' => e = .returned (.bool true) ∧ ∃ S' d' L' rb', Bo W w' S' d' (stepS st s) (N + 1) L' rb' (stepS st s) bb := by
  have hfm : s.files.length ≤ 999999 := Nat.le_trans hB.fl hN
  by_cases h17 : 1 ≤ st.kind ∧ st.kind ≤ 7
  · have e : stepS st s = chS st s := by unfold stepS; rw [if_pos h17]
    rw [e]
    have key : Calls Try.prog 18 #[.pointer (some ⟨bb, 0, none⟩), .agg st.cells.toArray] w fun e w' => e = .returned (.bool true) ∧ ∃ S' L', Bo W w' S' d (chS st s) (N + 1) L' rb (chS st s) bb := by
      rcases (show st.kind = 1 ∨ st.kind = 2 ∨ st.kind = 3 ∨ st.kind = 4 ∨ st.kind = 5 ∨ st.kind = 6 ∨ st.kind = 7 by omega) with k | k | k | k | k | k | k
      · exact step1 W S d s N L rb bb st w h hN hfm k hs hbs
      · exact step2 W S d s N L rb bb st w h hN hfm k hs hbs
      · exact step3 W S d s N L rb bb st w h hN hfm k hs hbs
      · exact step4 W S d s N L rb bb st w h hN hfm k hs hbs
      · exact step5 W S d s N L rb bb st w h hN hfm k hs hbs
      · exact step6 W S d s N L rb bb st w h hN hfm k hs hbs
      · exact step7 W S d s N L rb bb st w h hN hfm k hs hbs
    exact key.mono fun _ _ ⟨h1, S', L', h2⟩ => ⟨h1, S', d, L', rb, h2⟩
  · by_cases h11 : st.kind = 11
    · have e : stepS st s = setQuotaS st.y s := by unfold stepS; rw [if_neg h17, if_pos h11]
      rw [e]; exact step11 W S d s N L rb bb st w h hN hfm h11 hs
    · by_cases h12 : st.kind = 12
      · have e : stepS st s = fuseS st.y s := by unfold stepS; rw [if_neg h17, if_neg h11, if_pos h12]
        rw [e]; exact step12 W S d s N L rb bb st w h hN hfm h12 hs hy
      · by_cases h14 : st.kind = 14
        · have e : stepS st s = ldS s.quota (crashL s st.ps) := by unfold stepS; rw [if_neg h17, if_neg h11, if_neg h12, if_pos h14]
          rw [e]; exact step14 W S d s N L rb bb st w h hN hfm h14 hs hc2 hps hN2 (hB.crash h.lv.2.2.2 hT h.lv.2.2.2.rg.q st.ps).1
        · have e : stepS st s = s := by unfold stepS; rw [if_neg h17, if_neg h11, if_neg h12, if_neg h14]
          rw [e]
          rcases (show st.kind < 1 ∨ 14 < st.kind ∨ st.kind = 8 ∨ st.kind = 9 ∨ st.kind = 10 ∨ st.kind = 13 by omega) with k | k | k | k | k | k
          · exact stepLo W S d s N L rb bb st w h k
          · exact stepHi W S d s N L rb bb st w h k
          · exact step8 W S d s N L rb bb st w h hN hfm k hs
          · exact step9 W S d s N L rb bb st w h hN hfm k hs
          · exact step10 W S d s N L rb bb st w h hN hfm k hs
          · exact step13 W S d s N L rb bb st w h hN hfm k hs hc2 hps
/-- What every step of a script that came in is known to be. -/
structure ScOk (l : List SC) : Prop where
  bs : ∀ s ∈ l, s.bs.length ≤ 1048576
  ps : ∀ s ∈ l, s.ps.length ≤ 1048576
  pc : ∀ s ∈ l, s.ps.length ≤ s.c2
  y : ∀ s ∈ l, s.y ≤ 9223372036854775807
  sum : (l.map fun s => s.bs.length).sum ≤ 1048576
def sumTo (l : List SC) (j : Nat) : Nat := ((l.take j).map fun s => s.bs.length).sum
theorem sumTo_le (l : List SC) (j : Nat) : sumTo l j ≤ (l.map fun s => s.bs.length).sum := by
  have h : (l.map fun s => s.bs.length).sum = sumTo l j + ((l.drop j).map fun s => s.bs.length).sum := by
    unfold sumTo
    rw [← List.sum_append_nat, ← List.map_append, List.take_append_drop]
  omega
theorem sumTo_succ {l : List SC} {j : Nat} {st : SC} (h : l[j]? = some st) : sumTo l (j + 1) = sumTo l j + st.bs.length := by
  obtain ⟨hj, rfl⟩ := List.getElem?_eq_some_iff.1 h
  unfold sumTo
  rw [List.take_succ_eq_append_getElem hj, List.map_append, List.sum_append_nat]
  simp
/-- Both disks, in a script: T bytes at most, N numbers at most. -/
def Gs (W w : World) (bb T N : Nat) : Prop := ∃ S d s L rb, Bo W w S d s N L rb s bb ∧ Bd s T N
theorem Gs.next {W w w' : World} {bb T N : Nat} (h : Gs W w bb T N) (hb : Below w.heap.size w w') : Gs W w' bb T N := by
  obtain ⟨S, d, s, L, rb, h1, h2⟩ := h
  exact ⟨S, d, s, L, rb, h1.next hb, h2⟩
theorem Gs.bel {W w : World} {bb T N : Nat} (h : Gs W w bb T N) : Below W.heap.size W w := by
  obtain ⟨S, d, s, L, rb, h1, h2⟩ := h
  exact h1.bel
theorem Gs.facts {W w : World} {bb T N : Nat} (h : Gs W w bb T N) (hN : N ≤ 9999999) : Calls Try.prog 17 #[.pointer (some ⟨bb, 0, none⟩)] w fun e w' => e = .returned (.bool true) ∧ Gs W w' bb T N := by
  obtain ⟨S, d, s, L, rb, h1, h2⟩ := h
  exact (facts_any W S d s N L rb bb w h1 hN (Nat.le_trans h2.fl hN)).mono fun _ _ ⟨e, hb⟩ => ⟨e, S, d, s, L, rb, h1.next hb, h2⟩
theorem Gs.step {W w : World} {bb T N : Nat} {st : SC} (h : Gs W w bb T N) (hT : T ≤ 1073741824) (hN : N ≤ 999999) (hN2 : 65536 ≤ N) (hs : st.Ok W W.heap.size) (hc2 : st.ps.length ≤ st.c2) (hps : st.ps.length ≤ 1048576) (hbs : st.bs.length ≤ 1048576) (hy : st.y ≤ 9223372036854775807) :
    Calls Try.prog 18 #[.pointer (some ⟨bb, 0, none⟩), .agg st.cells.toArray] w fun e w' => e = .returned (.bool true) ∧ Gs W w' bb (T + st.bs.length) (N + 1) := by
  obtain ⟨S, d, s, L, rb, h1, h2⟩ := h
  exact (step_any W S d s T N L rb bb st w h1 h2 hT hN hN2 hs hc2 hps hbs hy).mono fun _ _ ⟨e, S', d', L', rb', g⟩ => ⟨e, S', d', _, L', rb', g, step_bd h2 h1.lv.2.2.2 hT hN2⟩
/-- Two disks, made apart, put side by side. -/
theorem Gs.made {W w : World} {S : Nat → Prop} {d rb N T : Nat} {L : Nat → Nat} {s : Dk} (h : Lv W w S d s N) (hr : RDk w L rb s) (hl : ∀ b, L b ≠ 0 → W.heap.size ≤ b) (ha : ∀ b, S b → L b = 0) (hB : Bd s T N) :
    Gs W (w.alloc (.cells #[.pointer (some ⟨d, 0, none⟩), .pointer (some ⟨rb, 0, none⟩)] 49)) w.heap.size T N := by
  have hb := Below.al w (.cells #[.pointer (some ⟨d, 0, none⟩), .pointer (some ⟨rb, 0, none⟩)] 49)
  refine ⟨S, d, s, L, rb, ⟨h.next hb, hr.next hb, hl, ha, Box.new w _ _, fun hS => ?_, ?_, h.2.2.1.size⟩, hB⟩
  · have := h.lt _ hS; omega
  · exact Classical.byContradiction fun hne => by have := hr.lt _ hne; omega
set_option maxRecDepth 100000 in
set_option maxHeartbeats 16000000 in
theorem scripts_law (q : Int) (A : Option Addr) (n c : Nat) (l : List SC) (W : World) (hA : Stp W W.heap.size A l) (hn : l.length = n) (hnm : n ≤ 900000) (hO : ScOk l) :
    Calls Try.prog 5 #[.int .i64 q, .slice A n c] W fun e w' => e = .returned (.bool true) ∧ Below W.heap.size W w' := by
  have HA := Lib.hid (And.intro hA (And.intro hn hO))
  clear hA hn hO
  by_cases hq : 0 ≤ q ∧ q ≤ 1073741824
  · have HQ := Lib.hid hq
    clear hq
    go_enter Try.func5, Try.ntmps5
    go_wp2_with (first
      | (go_at_call 19
         refine (new_lv q W (Below.refl _ _) HQ.out).mono ?_
         rintro e w0 ⟨d, S0, rfl, h0, g0, _⟩
         have H0 := Lib.hid (And.intro h0 g0)
         clear h0 g0)
      | (go_at_call 20
         refine (newR_any q w0 HQ.out).mono ?_
         rintro e w1 ⟨rb, L1, rfl, g1, g2, g3⟩
         have H1 := Lib.hid (show Gs W (w1.alloc (.cells #[.pointer (some ⟨d, 0, none⟩), .pointer (some ⟨rb, 0, none⟩)] 49)) w1.heap.size (sumTo l 0) (65536 + 0) from
           Gs.made ((H0.out.1.next g3).up (Nat.zero_le _)) g1 (fun b hb => Nat.le_trans H0.out.1.2.2.1.size (g2 b hb)) (fun b hb => Classical.byContradiction fun hne => by have := g2 b hne; have := H0.out.1.lt b hb; omega) (Bd.fresh q))
         clear g1 g2 g3))
    go_loopw [10] (fun i wr => ∃ (j : Nat), j ≤ n ∧ i = .int .i64 j ∧ Gs W wr w1.heap.size (sumTo l j) (65536 + j)) (fun i _ => n - (intOf i).toNat)
    case atStart => exact ⟨0, Nat.zero_le _, rfl, H1.out⟩
    case round =>
      obtain ⟨j, hj, rfl, hL⟩ := hrel
      by_cases hlt : j < n
      · have hk0 : (0 : Int) ≤ j := by omega
        have hk1 : (j : Int) < n := by omega
        obtain ⟨st, hst⟩ : ∃ st, l[j]? = some st := ⟨_, List.getElem?_eq_getElem (by rw [HA.out.2.1]; exact hlt)⟩
        obtain ⟨ad, rfl, had, c0, c1, c2, c3, c4, c5, c6, _⟩ := (HA.out.1.below hL.bel).step hst
        have HT := sumTo_le l (j + 1)
        have HT2 := sumTo_le l j
        have hTs := HA.out.2.2.sum
        have HS := Lib.hid (hL.step (by omega) (by omega) (by omega) (HA.out.1.2 st (List.mem_of_getElem? hst)) (HA.out.2.2.pc st (List.mem_of_getElem? hst)) (HA.out.2.2.ps st (List.mem_of_getElem? hst)) (HA.out.2.2.bs st (List.mem_of_getElem? hst)) (HA.out.2.2.y st (List.mem_of_getElem? hst)))
        rw [← sumTo_succ hst] at HS
        clear HT HT2 hTs had hst
        obtain ⟨k, nm, nt, x, y, Ab, bs, cb, Ap, ps, cp⟩ := st
        obtain ⟨nb, hnb⟩ : ∃ nb, bs.length = nb := ⟨_, rfl⟩
        obtain ⟨np, hnp⟩ : ∃ np, ps.length = np := ⟨_, rfl⟩
        dsimp only at c0 c1 c2 c3 c4 c5 c6
        simp only [SC.cells, hnb, hnp] at HS
        rw [hnb] at c5
        rw [hnp] at c6
        clear hnb hnp hL
        have T0 := trivial
        go_wp2_with (first
          | (go_at_call 18
             refine HS.out.mono ?_
             rintro e w2 ⟨rfl, g2⟩
             have H2 := Lib.hid g2
             clear g2)
          | (go_at_call 17
             refine (H2.out.facts (by omega)).mono ?_
             rintro e w3 ⟨rfl, g3⟩
             have H3 := Lib.hid g3
             clear g3))
        go_roundw
        case rel => exact ⟨j + 1, by omega, by go_num, H3.out⟩
        case measure => simp [intOf]; omega
      · have hk1 : ¬ (j : Int) < n := by omega
        have HL := Lib.hid hL
        clear hL
        go_wp2_with (first
          | (go_at_call 17
             refine (HL.out.facts (by omega)).mono ?_
             rintro e w3 ⟨rfl, g3⟩
             have H3 := Lib.hid g3
             clear g3))
        go_ret
        exact ⟨rfl, H3.out.bel⟩
  · have HQ := Lib.hid hq
    clear hq
    go_enter Try.func5, Try.ntmps5
    go_wp2_with (first
      | (go_at_call 19
         refine (new_no q W HQ.out).mono ?_
         rintro e w0 ⟨rfl, rfl⟩)
      | (go_at_call 20
         refine (newR_no q _ (by have := HQ.out; omega)).mono ?_
         rintro e w0 ⟨rfl, rfl⟩))
    go_ret
    exact ⟨rfl, Below.refl _ _⟩
end Go.Proofs.Ytebeefkibbbkdaa
/- SimfsLoads: plain laws of an image that may not be. -/
namespace Go.Proofs.Ytebeefkibbbkdaa
open Go.RowKit Go.Maps

/-- The g-th file may not be: its name, or its place. -/
def BadAt (fs : List FE) (g : Nat) : Prop := ∃ p, fs[g]? = some p ∧ (goodN p.1 = false ∨ ∃ (i : Nat) (p0 : FE), g = i + 1 ∧ fs[i]? = some p0 ∧ kc p0.1 p.1 ≠ -1)
theorem mem_pre {fs : List FE} {j g : Nat} {p : FE} (h : fs[j]? = some p) (hj : j < g) : p ∈ fs.take g :=
  List.mem_of_getElem? (i := j) (by rw [List.getElem?_take_of_lt hj]; exact h)
theorem asc_pre {fs : List FE} {g a b : Nat} {pa pb : FE} (h : Asc (fs.take g)) (ha : fs[a]? = some pa) (hb : fs[b]? = some pb) (hab : a < b) (hbg : b < g) : kc pa.1 pb.1 = -1 := by
  have h1 : (fs.take g)[a]? = some pa := by rw [List.getElem?_take_of_lt (by omega)]; exact ha
  have h2 : (fs.take g)[b]? = some pb := by rw [List.getElem?_take_of_lt hbg]; exact hb
  obtain ⟨l1, e1⟩ := List.getElem?_eq_some_iff.1 h1
  obtain ⟨l2, e2⟩ := List.getElem?_eq_some_iff.1 h2
  have := List.pairwise_iff_getElem.1 h a b l1 l2 hab
  rw [e1, e2] at this
  exact this
theorem asc_take2 {fs : List FE} {g j : Nat} (h : Asc (fs.take g)) (hj : j ≤ g) : Asc (fs.take j) := by
  have := asc_take h j
  rwa [List.take_take, Nat.min_eq_left hj] at this
theorem ldok_pre {q : Int} {fs : List FE} {g j : Nat} (h : LdOk q (fs.take g)) (hj : j ≤ g) : LdOk q (fs.take j) := by
  have := h.take j
  rwa [List.take_take, Nat.min_eq_left hj] at this
theorem sum_pre {q : Int} {fs : List FE} {g j : Nat} (h : LdOk q (fs.take g)) (hj : j ≤ g) : sumL (fs.take j) ≤ 1073741824 := (ldok_pre h hj).sum
/-- Either the image may be, or there is a first file that may not. -/
theorem ld_split {q : Int} {fs : List FE} (hq : 0 ≤ q ∧ q ≤ 1073741824) (hn : fs.length ≤ 65536) (hs : sumL fs ≤ 1073741824) : LdOk q fs ∨ ∃ g, g < fs.length ∧ LdOk q (fs.take g) ∧ BadAt fs g := by
  have key : ∀ g, g ≤ fs.length → LdOk q (fs.take g) ∨ ∃ g', g' < fs.length ∧ LdOk q (fs.take g') ∧ BadAt fs g' := by
    intro g
    induction g with
    | zero => exact fun _ => .inl ⟨hq, List.Pairwise.nil, (fun p hp => by simp at hp), by simp, by simp [sumL]⟩
    | succ g ih =>
      intro hg
      rcases ih (by omega) with h | h
      · by_cases hb : BadAt fs g
        · exact .inr ⟨g, by omega, h, hb⟩
        · left
          obtain ⟨p, hp⟩ : ∃ p, fs[g]? = some p := ⟨_, List.getElem?_eq_getElem (by omega)⟩
          have hst : fs.take (g + 1) = fs.take g ++ [p] := by rw [List.take_add_one, hp]; rfl
          have hgood : goodN p.1 = true := Bool.not_eq_false _ ▸ fun e => hb ⟨p, hp, .inl e⟩
          refine ⟨hq, ?_, ?_, by rw [List.length_take]; omega, Nat.le_trans (sumL_take fs (g + 1)) hs⟩
          · rw [hst]
            refine List.pairwise_append.2 ⟨h.asc, List.pairwise_singleton _ _, fun a ha b hb2 => ?_⟩
            rw [List.mem_singleton] at hb2
            subst hb2
            obtain ⟨k, hk, rfl⟩ := List.getElem_of_mem ha
            rw [List.length_take] at hk
            rw [List.getElem_take]
            have hlast : ∀ (i : Nat) (p0 : FE), g = i + 1 → fs[i]? = some p0 → kc p0.1 b.1 = -1 := fun i p0 e1 e2 => Classical.byContradiction fun e3 => hb ⟨b, hp, .inr ⟨i, p0, e1, e2, e3⟩⟩
            by_cases hk2 : k + 1 = g
            · exact hlast k _ hk2.symm (List.getElem?_eq_getElem _)
            · obtain ⟨i, hi⟩ : ∃ i, g = i + 1 := ⟨g - 1, by omega⟩
              have hli := hlast i fs[i] hi (List.getElem?_eq_getElem _)
              have hki := asc_pre h.asc (List.getElem?_eq_getElem (show k < fs.length by omega)) (List.getElem?_eq_getElem (show i < fs.length by omega)) (by omega) (by omega)
              exact kc_trans hki hli
          · intro x hx
            rw [hst] at hx
            rcases List.mem_append.1 hx with h1 | h1
            · exact h.names x h1
            · rw [List.mem_singleton] at h1; subst h1; exact hgood
      · exact .inr h
  rcases key fs.length (Nat.le_refl _) with h | h
  · left; rwa [List.take_length] at h
  · exact .inr h
end Go.Proofs.Ytebeefkibbbkdaa
/- Load of an image that may not be. -/
namespace Go.Proofs.Ytebeefkibbbkdaa
open Go.RowKit Go.Maps

set_option maxRecDepth 100000 in
set_option maxHeartbeats 16000000 in
theorem load_bad (q : Int) (fs : List FE) (g : Nat) (A : Option Addr) (n c : Nat) (w : World) (h : LdOk q (fs.take g)) (hg : g < n) (hnm : n ≤ 65536) (hbad : BadAt fs g) (hsz : ∀ p ∈ fs, p.1.size ≤ maxLen) (hn : fs.length = n) (hI : IM w w.heap.size A fs) :
    Calls Try.prog 14 #[.slice A n c, .int .i64 q] w fun e w' => e = .returned (.tuple #[.pointer none, .int .i64 36]) ∧ Below w.heap.size w w' := by
  have hqd := Lib.hid (show qOk q = true from decide_eq_true h.q)
  have H := Lib.hid (And.intro h (And.intro hn hI))
  have HBD := Lib.hid (And.intro hbad hsz)
  clear h hn hI hbad hsz
  go_enter Try.func14, Try.ntmps14
  go_wp2_with (first
    | (go_at_call 42
       refine (goodQuota_any q _).mono ?_
       rintro e w1 ⟨rfl, hw⟩
       have hw1 := hw.symm
       subst hw1
       rw [hqd.out])
    | (go_at_call 43
       refine (fresh_any q _).mono ?_
       rintro e w1 ⟨d, S0, rfl, h0, h1, h2⟩
       have H1 := Lib.hid (And.intro h0 (And.intro h1 h2))
       clear h0 h1 h2))
  obtain ⟨L0, fb0, ms, mf, vc, hD0, hS0⟩ := H1.out.1
  have HD0 := Lib.hid (And.intro hD0 hS0)
  clear hD0 hS0
  go_loopw [20] (fun i wr => ∃ (j : Nat) (L : Nat → Nat) (fb : List Nat), j ≤ g ∧ i = .int .i64 j ∧ DM wr L d fb (ldS q (fs.take j)) ms mf vc ∧ (∀ b, L b ≠ 0 → w.heap.size ≤ b) ∧ Below w.heap.size w wr) (fun i _ => n - (intOf i).toNat)
  case atStart => exact ⟨0, L0, fb0, Nat.zero_le _, rfl, HD0.out.1, fun b hb => H1.out.2.1 b ((HD0.out.2 b).2 hb), H1.out.2.2⟩
  case round =>
    obtain ⟨j, L, fb, hj, rfl, hD, hL, hB⟩ := hrel
    by_cases hlt : j < g
    · have hj0 : (0 : Int) ≤ j := by omega
      have hj1 : (j : Int) < n := by omega
      obtain ⟨p, hp⟩ : ∃ p, fs[j]? = some p := ⟨_, List.getElem?_eq_getElem (by rw [H.out.2.1]; omega)⟩
      have hIw := H.out.2.2.below hB
      obtain ⟨ad, x, cx, rfl, had, c0, c1, hrx⟩ := hIw j p hp
      have hpm := List.mem_of_getElem? hp
      have hpg := mem_pre hp hlt
      have hgn := H.out.1.names p hpg
      have hst : fs.take (j + 1) = fs.take j ++ [p] := by
        obtain ⟨hl, e⟩ := List.getElem?_eq_some_iff.1 hp
        rw [← e]
        exact List.take_succ_eq_append_getElem hl
      obtain ⟨nm, bs⟩ := p
      obtain ⟨m, hm⟩ : ∃ m, bs.length = m := ⟨_, rfl⟩
      have hmx : m ≤ 1073741824 := by have h1 := sumL_mem hpg; have h2 := H.out.1.sum; simp only at h1; omega
      simp only at c0 c1 hrx hgn
      rw [hm] at c1
      have HP := Lib.hid (And.intro hp (And.intro hrx (And.intro hgn (And.intro hst hm))))
      have HDD := Lib.hid (And.intro hD (And.intro hL hB))
      clear hD hL hB hIw hpm hpg hgn hst hp hrx hm
      have hxb := (Box.new wr 37 #[.string nm, .slice x m cx])
      have HX := Lib.hid hxb
      clear hxb
      have hx0 := HX.out.cell
      go_upto_region 9 with fail
      go_cut [43] (fun s43 wx => s43 = .bool false ∧ Below (wr.alloc (.cells #[.string nm, .slice x m cx] 37)).heap.size (wr.alloc (.cells #[.string nm, .slice x m cx] 37)) wx)
      case first =>
        by_cases hj2 : j = 0
        · have hS1 : (wr.alloc (.cells #[.string nm, .slice x m cx] 37)).drew.cell? ⟨wr.heap.size, 0, none⟩ = some (.string nm) := HX.out.cell 0
          have hjn : ¬ ((j : Int) > 0) := by omega
          have hjn2 : ¬ (0 < j) := by omega
          clear hj2
          refine wp_region_held_drew (S := fun w' => w'.cell? ⟨wr.heap.size, 0, none⟩ = some (.string nm)) (by kernel_rfl) hS1 fun _ => ?_
          refine hold_take 0 (v := ?_) rfl (by kernel_rfl) (by kernel_rfl) (by kernel_rfl) (fun _ _ _ h => h) (Or.inl ⟨by rfl, ?hy⟩) hS1 ?_
          case hy => first | (intro w hSw; go_simp; done) | (intro w hSw; go_simp; with_reducible rfl)
          simp only [Act.put, List.setIfInBounds_toArray, List.set_cons_zero, List.set_cons_succ]
          refine hold_take 1 (v := ?_) rfl (by kernel_rfl) (by kernel_rfl) (by kernel_rfl) (fun _ _ _ h => h) (Or.inl ⟨by rfl, ?hy⟩) hS1 ?_
          case hy => first | (intro w hSw; go_simp; done) | (intro w hSw; go_simp; with_reducible rfl)
          simp only [Act.put, List.setIfInBounds_toArray, List.set_cons_zero, List.set_cons_succ]
          refine hold_step 2 rfl (by kernel_rfl) fun K hK => ?_
          go_simp
          go_at_call 44
          refine (goodName_any nm _ (by have := (goodN_size HP.out.2.2.1).2; unfold maxLen; omega)).mono ?_
          rintro e w2 ⟨rfl, hb2⟩
          rw [HP.out.2.2.1]
          have hX2 := (show Box (wr.alloc (.cells #[.string nm, .slice x m cx] 37)).drew _ _ _ from HX.out).next hb2
          have hS2 : w2.cell? ⟨wr.heap.size, 0, none⟩ = some (.string nm) := hX2.cell 0
          have H2 := Lib.hid (And.intro hX2 hb2)
          clear hX2 hb2
          go_simp
          refine hK.out _ _ hS2 ?_
          clear hK K
          refine hold_take 3 (v := ?_) rfl (by kernel_rfl) (by kernel_rfl) (by kernel_rfl) (fun _ _ _ h => h) (Or.inl ⟨by rfl, ?hy⟩) hS2 ?_
          case hy => first | (intro w hSw; go_simp; done) | (intro w hSw; go_simp; with_reducible rfl)
          simp only [Act.put, List.setIfInBounds_toArray, List.set_cons_zero, List.set_cons_succ]
          refine hold_take 4 (v := ?_) rfl (by kernel_rfl) (by kernel_rfl) (by kernel_rfl) (fun _ _ _ h => h) (Or.inl ⟨by rfl, ?hy⟩) hS2 ?_
          case hy => first | (intro w hSw; go_simp; done) | (intro w hSw; go_simp; with_reducible rfl)
          simp only [Act.put, List.setIfInBounds_toArray, List.set_cons_zero, List.set_cons_succ]
          refine hold_take 5 (v := ?_) rfl (by kernel_rfl) (by kernel_rfl) (by kernel_rfl) (fun _ _ _ h => h) (Or.inl ⟨by rfl, ?hy⟩) hS2 ?_
          case hy => first | (intro w hSw; go_simp; done) | (intro w hSw; go_simp; with_reducible rfl)
          simp only [Act.put, List.setIfInBounds_toArray, List.set_cons_zero, List.set_cons_succ]
          refine hold_take 6 (v := ?_) rfl (by kernel_rfl) (by kernel_rfl) (by kernel_rfl) (fun _ _ _ h => h) (Or.inl ⟨by rfl, ?hy⟩) hS2 ?_
          case hy => first | (intro w hSw; go_simp; done) | (intro w hSw; go_simp; with_reducible rfl)
          simp only [Act.put, List.setIfInBounds_toArray, List.set_cons_zero, List.set_cons_succ]
          refine hold_take 7 (v := ?_) rfl (by kernel_rfl) (by kernel_rfl) (by kernel_rfl) (fun _ _ _ h => h) (Or.inl ⟨by rfl, ?hy⟩) hS2 ?_
          case hy => first | (intro w hSw; go_simp; done) | (intro w hSw; go_simp; with_reducible rfl)
          simp only [Act.put, List.setIfInBounds_toArray, List.set_cons_zero, List.set_cons_succ]
          refine hold_take 8 (v := undef) rfl (by kernel_rfl) (by kernel_rfl) (by kernel_rfl) (fun _ _ _ h => h) (Or.inr ⟨by rfl, rfl⟩) hS2 ?_
          simp only [Act.put, List.setIfInBounds_toArray, List.set_cons_zero, List.set_cons_succ]
          refine hold_take 9 (v := undef) rfl (by kernel_rfl) (by kernel_rfl) (by kernel_rfl) (fun _ _ _ h => h) (Or.inr ⟨by rfl, rfl⟩) hS2 ?_
          simp only [Act.put, List.setIfInBounds_toArray, List.set_cons_zero, List.set_cons_succ]
          refine hold_take 10 (v := undef) rfl (by kernel_rfl) (by kernel_rfl) (by kernel_rfl) (fun _ _ _ h => h) (Or.inr ⟨by rfl, rfl⟩) hS2 ?_
          simp only [Act.put, List.setIfInBounds_toArray, List.set_cons_zero, List.set_cons_succ]
          refine hold_take 11 (v := undef) rfl (by kernel_rfl) (by kernel_rfl) (by kernel_rfl) (fun _ _ _ h => h) (Or.inr ⟨by rfl, rfl⟩) hS2 ?_
          simp only [Act.put, List.setIfInBounds_toArray, List.set_cons_zero, List.set_cons_succ]
          refine hold_take 12 (v := undef) rfl (by kernel_rfl) (by kernel_rfl) (by kernel_rfl) (fun _ _ _ h => h) (Or.inr ⟨by rfl, rfl⟩) hS2 ?_
          simp only [Act.put, List.setIfInBounds_toArray, List.set_cons_zero, List.set_cons_succ]
          refine hold_take 13 (v := undef) rfl (by kernel_rfl) (by kernel_rfl) (by kernel_rfl) (fun _ _ _ h => h) (Or.inr ⟨by rfl, rfl⟩) hS2 ?_
          simp only [Act.put, List.setIfInBounds_toArray, List.set_cons_zero, List.set_cons_succ]
          refine hold_take 14 (v := undef) rfl (by kernel_rfl) (by kernel_rfl) (by kernel_rfl) (fun _ _ _ h => h) (Or.inr ⟨by rfl, rfl⟩) hS2 ?_
          simp only [Act.put, List.setIfInBounds_toArray, List.set_cons_zero, List.set_cons_succ]
          refine hold_take 15 (v := undef) rfl (by kernel_rfl) (by kernel_rfl) (by kernel_rfl) (fun _ _ _ h => h) (Or.inr ⟨by rfl, rfl⟩) hS2 ?_
          simp only [Act.put, List.setIfInBounds_toArray, List.set_cons_zero, List.set_cons_succ]
          refine hold_take 16 (v := undef) rfl (by kernel_rfl) (by kernel_rfl) (by kernel_rfl) (fun _ _ _ h => h) (Or.inr ⟨by rfl, rfl⟩) hS2 ?_
          simp only [Act.put, List.setIfInBounds_toArray, List.set_cons_zero, List.set_cons_succ]
          refine hold_take 17 (v := ?_) rfl (by kernel_rfl) (by kernel_rfl) (by kernel_rfl) (fun _ _ _ h => h) (Or.inl ⟨by rfl, ?hy⟩) hS2 ?_
          case hy => first | (intro w hSw; go_simp; done) | (intro w hSw; go_simp; with_reducible rfl)
          simp only [Act.put, List.setIfInBounds_toArray, List.set_cons_zero, List.set_cons_succ]
          refine hold_take 18 (v := ?_) rfl (by kernel_rfl) (by kernel_rfl) (by kernel_rfl) (fun _ _ _ h => h) (Or.inl ⟨by rfl, ?hy⟩) hS2 ?_
          case hy => first | (intro w hSw; go_simp; done) | (intro w hSw; go_simp; with_reducible rfl)
          simp only [Act.put, List.setIfInBounds_toArray, List.set_cons_zero, List.set_cons_succ]
          refine wpAnyH_done (by kernel_rfl) ?_ _
          go_wp2_with fail
          go_meet
          case rel => exact ⟨rfl, (below_drew (Below.refl _ _)).trans H2.out.2⟩
        · obtain ⟨i, hi⟩ : ∃ i, j = i + 1 := ⟨j - 1, by omega⟩
          obtain ⟨p0, hp0⟩ : ∃ p0, fs[i]? = some p0 := ⟨_, List.getElem?_eq_getElem (by rw [H.out.2.1]; omega)⟩
          have hIw := H.out.2.2.below HDD.out.2.2
          obtain ⟨ad0, x0, cx0, ea, _, d0, _, _⟩ := hIw i p0 hp0
          cases ea
          have hjp : (0 : Int) < j := by omega
          have hless : kc p0.1 nm = -1 := by
            exact asc_pre H.out.1.asc hp0 HP.out.1 (by omega) hlt
          have hbl : Op.bytesLess p0.1.toList nm.toList = true := by
            rw [ByteArray.toList_eq, ByteArray.toList_eq]
            exact (cmpB_less _ _).1 hless
          have HBL := Lib.hid hbl
          have HI := Lib.hid (And.intro d0 (And.intro hless hp0))
          have HJ := Lib.hid hi
          clear hi hp0 hless hbl hj2 d0 hIw
          have hlt2 : (ad.add (i * 2)).block < wr.heap.size := by rw [add_block]; exact Nat.lt_of_lt_of_le had HDD.out.2.2.size
          have hS1 : (wr.alloc (.cells #[.string nm, .slice x m cx] 37)).drew.cell? ⟨wr.heap.size, 0, none⟩ = some (.string nm) ∧ (wr.alloc (.cells #[.string nm, .slice x m cx] 37)).drew.cell? (ad.add (i * 2)) = some (.string p0.1) :=
            ⟨HX.out.cell 0, ((Below.al wr (.cells #[.string nm, .slice x m cx] 37)).cell hlt2).trans HI.out.1⟩
          have hjn : 0 < j := by have := HJ.out; omega
          have hii : (j : Int) - 1 = (i : Int) := by have := HJ.out; omega
          have hwr : IntKind.i64.wrap ((j : Int) - 1) = (i : Int) := by rw [hii]; exact IntWalk.i64_in _ (by have := HJ.out; omega)
          have hwi : IntKind.i64.wrap (i : Int) = (i : Int) := IntWalk.i64_in _ (by have := HJ.out; omega)
          have hw64 : wrap64 ((j : Int) - 1) = (i : Int) := by rw [hii]; exact IntWalk.wrap64_in _ (by have := HJ.out; omega)
          have hi0 : (0 : Int) ≤ i := by omega
          have hi1 : (i : Int) < n := by have := HJ.out; omega
          have hi2 : i < n := by have := HJ.out; omega
          go_region_held3 (fun w' => w'.cell? ⟨wr.heap.size, 0, none⟩ = some (.string nm) ∧ w'.cell? (ad.add (i * 2)) = some (.string p0.1))
            (first | with_reducible exact hS1 | with_reducible exact hS2)
            (first
            | (go_at_call 44
               refine (goodName_any nm _ (by have := (goodN_size HP.out.2.2.1).2; unfold maxLen; omega)).mono ?_
               rintro e w2 ⟨rfl, hb2⟩
               rw [HP.out.2.2.1]
               have hX2 := (show Box (wr.alloc (.cells #[.string nm, .slice x m cx] 37)).drew _ _ _ from HX.out).next hb2
               have hS2 : w2.cell? ⟨wr.heap.size, 0, none⟩ = some (.string nm) ∧ w2.cell? (ad.add (i * 2)) = some (.string p0.1) := ⟨hX2.cell 0, (hb2.cell (Nat.lt_of_lt_of_le hlt2 (by simp))).trans hS1.2⟩
               have H2 := Lib.hid (And.intro hX2 hb2)
               clear hX2 hb2))
          all_goals
            rw [HBL.out]
            go_wp2_with fail
            go_meet
            case rel => exact ⟨rfl, (below_drew (Below.refl _ _)).trans H2.out.2⟩
      case rest =>
        obtain ⟨rfl, hb2⟩ := hcut
        have hbw : Below wr.heap.size wr wc := (Below.al wr _).trans (hb2.mono (by simp))
        have hX2 := HX.out.next hb2
        have hxs : wc.heap.size ≠ wr.heap.size := by have := hX2.lt; omega
        have HC := Lib.hid (And.intro hbw hX2)
        have HRd : Hid (∀ W' : World, Below wr.heap.size wr W' → Rd W' W'.heap.size x (bv bs)) := fun W' hb => (HP.out.2.1.mono HDD.out.2.2.size).next hb
        clear hb2 hbw hX2 hx0
        go_upto_region 12 with fail
        have hb0 := HC.out.1.trans ((Below.al wc (.cells newF 94)).mono HC.out.1.size)
        have hS0 : (wc.alloc (.cells newF 94)).drew.cell? ⟨wr.heap.size, 1, none⟩ = some (.slice x m cx) := (HC.out.2.alloc _).cell 1
        have HB0 := Lib.hid hb0
        clear hb0
        go_region_held3 (fun w' => w'.cell? ⟨wr.heap.size, 1, none⟩ = some (.slice x m cx))
          (first | with_reducible exact hS0 | with_reducible exact hS1 | with_reducible exact hS2 | with_reducible exact hS3 | with_reducible exact hS4)
          (first
          | (go_at_call 45
             have z0 := hS0
             clear z0
             refine (clone_any x m cx bs _ (HRd.out _ (below_drew HB0.out)) HP.out.2.2.2.2 (by omega)).mono ?_
             rintro e w1 ⟨b1, c1, rfl, hr1, hb1⟩
             have hbx := (show Below (wc.alloc (.cells newF 94)).heap.size (wc.alloc (.cells newF 94)) w1 from (below_drew (Below.refl _ _)).trans hb1)
             have hS1 : w1.cell? ⟨wr.heap.size, 1, none⟩ = some (.slice x m cx) := ((HC.out.2.alloc _).next hbx).cell 1
             have H1c := Lib.hid (And.intro hr1 hbx)
             clear hr1 hb1 hbx hS0)
          | (go_at_call 45
             refine (clone_any x m cx bs _ (HRd.out _ (HB0.out.trans (H1c.out.2.mono (Nat.le_trans HC.out.1.size (by simp))))) HP.out.2.2.2.2 (by omega)).mono ?_
             rintro e w2 ⟨b2, c2, rfl, hr2, hb2⟩
             have hBx := ((HC.out.2.alloc (.cells newF 94)).next H1c.out.2).next hb2
             have hS2 : w2.cell? ⟨wr.heap.size, 1, none⟩ = some (.slice x m cx) := hBx.cell 1
             have hS3 : (w2.setCell ⟨wc.heap.size, 0, none⟩ (.slice b1 m c1)).cell? ⟨wr.heap.size, 1, none⟩ = some (.slice x m cx) := (hBx.far (fun e => hxs e.symm) _).cell 1
             have hS4 : ((w2.setCell ⟨wc.heap.size, 0, none⟩ (.slice b1 m c1)).setCell ⟨wc.heap.size, 1, none⟩ (.slice b2 m c2)).cell? ⟨wr.heap.size, 1, none⟩ = some (.slice x m cx) := ((hBx.far (fun e => hxs e.symm) _).far (fun e => hxs e.symm) _).cell 1
             have hfB := ((Box.new wc 94 newF).next H1c.out.2).next hb2
             have hff := hfB.free
             have hfc := hfB.cell
             have hfB2 := hfB.set_ 0 (.slice b1 m c1)
             have hff2 := hfB2.free
             have hfc2 := hfB2.cell
             have H2c := Lib.hid (And.intro hr2 (And.intro hb2 hBx))
             clear hr2 hb2 hBx hfB hfB2 hS1))
        go_upto_region 13 with fail
        have hFM := ld_facts q (fs.take j) (asc_take2 H.out.1.asc (Nat.le_of_lt hlt))
        have hD2 : DM wc L d fb (ldS q (fs.take j)) ms mf vc := HDD.out.1.keep HC.out.1.size fun b hb => HC.out.1.block b (HDD.out.1.lab b hb)
        obtain ⟨L2, hD3, hl1, hl2⟩ := hD2.filled (ld_inv (ldok_pre H.out.1 (Nat.le_of_lt hlt)) (Nat.le_refl _)).ok HP.out.2.2.2.2 H1c.out.2 H2c.out.2.1 H1c.out.1 H2c.out.1
        have hX3 := (H2c.out.2.2.far (p := ⟨wc.heap.size, 0, none⟩) (fun e => hxs e.symm) (.slice b1 m c1)).far (p := ⟨wc.heap.size, 1, none⟩) (fun e => hxs e.symm) (.slice b2 m c2)
        have hz3 : wc.heap.size ≤ w2.heap.size := by have h1 := H1c.out.2.size; have h2 := H2c.out.2.1.size; simp at h1; omega
        have hbB3 : Below wr.heap.size wr ((w2.setCell ⟨wc.heap.size, 0, none⟩ (.slice b1 m c1)).setCell ⟨wc.heap.size, 1, none⟩ (.slice b2 m c2)) := by
          have h0 := HB0.out.trans ((H1c.out.2.trans (H2c.out.2.1.mono H1c.out.2.size)).mono (Nat.le_trans HC.out.1.size (by simp)))
          exact (h0.setCell (p := ⟨wc.heap.size, 0, none⟩) HC.out.1.size _).setCell (p := ⟨wc.heap.size, 1, none⟩) HC.out.1.size _
        obtain ⟨w3, hw3⟩ : ∃ w3, ((w2.setCell ⟨wc.heap.size, 0, none⟩ (.slice b1 m c1)).setCell ⟨wc.heap.size, 1, none⟩ (.slice b2 m c2)) = w3 := ⟨_, rfl⟩
        rw [hw3] at hD3 hX3 hbB3 ⊢
        clear hw3 hS2 hS3 hS4 hff hfc hff2 hfc2
        obtain ⟨s1, hs1⟩ : ∃ s1, ({ ldS q (fs.take j) with files := (ldS q (fs.take j)).files ++ [⟨bs, []⟩] } : Dk) = s1 := ⟨_, rfl⟩
        rw [hs1] at hD3
        have hsd : s1.dchs = [] := by rw [← hs1]; exact hFM.2.2.1
        have hsf : s1.safe = ldL (fs.take j) 0 := by rw [← hs1]; exact hFM.1
        have hss : s1.seen = s1.safe := by unfold Dk.seen; rw [hsd]; rfl
        have hlt' : (fs.take j).length = j := by rw [List.length_take, H.out.2.1]; omega
        have hno : ∀ x ∈ s1.safe.map (bk (fb ++ [wc.heap.size])), x.1 ≠ nm := fun x hx e => by
          obtain ⟨y, hy, rfl⟩ := List.mem_map.1 hx
          rw [hsf] at hy
          obtain ⟨⟨p', hp', e'⟩, _⟩ := ldL_mem _ 0 y hy
          obtain ⟨i', hi', rfl⟩ := List.getElem_of_mem hp'
          obtain ⟨h2, e2⟩ := List.getElem?_eq_some_iff.1 HP.out.1
          have hi'' : i' < j := by rw [hlt'] at hi'; exact hi'
          have := asc_pre H.out.1.asc (List.getElem?_eq_getElem (show i' < fs.length by omega)) HP.out.1 hi'' hlt
          rw [List.getElem_take] at e'
          rw [e'] at this
          have e3 : y.1 = nm := e
          rw [e3, kc_self] at this
          exact absurd this (by decide)
        have hget : getL nm (s1.safe.map (bk (fb ++ [wc.heap.size]))) = none := get_none.2 hno
        have hsz32 : nm.size ≤ 32 := (goodN_size HP.out.2.2.1).2
        have hlen : (s1.safe.map (bk (fb ++ [wc.heap.size]))).length < 1000000000000 := by rw [List.length_map, hsf, ldL_len, hlt']; omega
        have hD3d : DM w3.drew L2 d (fb ++ [wc.heap.size]) s1 ms mf vc := hD3.keep (Nat.le_refl _) (fun _ _ => rfl)
        have hmsne : ms ≠ mf := fun e => by have h1 := hD3.lms; have h2 := hD3.lmf; rw [e] at h1; omega
        obtain ⟨hdms, hdmf, _, _⟩ := hD3.parts
        have hxms : wr.heap.size ≠ ms := fun e => by have := HDD.out.1.lab ms (by rw [HDD.out.1.lms]; omega); omega
        have hxmf : wr.heap.size ≠ mf := fun e => by have := HDD.out.1.lab mf (by rw [HDD.out.1.lmf]; omega); omega
        have hseenM := hD3d.seen
        rw [hss] at hseenM
        obtain ⟨st1, u1, r1, g1, q1⟩ := MD.entry (f := wc.heap.size) hseenM hget hsz32 hlen
        obtain ⟨u2, r2, m2, g2⟩ := q1 u1 rfl
        have hsafe2 : MD u2 mf (s1.safe.map (bk (fb ++ [wc.heap.size]))) := (hD3d.safe.keep (g1.block mf hD3d.safe.lt (fun e => hmsne (by injection e with e; exact e.symm)))).keep (g2.block mf (Nat.lt_of_lt_of_le hD3d.safe.lt g1.size) (fun e => hmsne (by injection e with e; exact e.symm)))
        obtain ⟨st2, u3, r3, g3, q3⟩ := MD.entry (f := wc.heap.size) hsafe2 hget hsz32 hlen
        obtain ⟨u4, r4, m4, g4⟩ := q3 u3 rfl
        have hms4 : MD u4 ms (putL nm wc.heap.size (s1.safe.map (bk (fb ++ [wc.heap.size])))) := (m2.keep (g3.block ms m2.lt (fun e => hmsne (by injection e)))).keep (g4.block ms (Nat.lt_of_lt_of_le m2.lt g3.size) (fun e => hmsne (by injection e)))
        have hblk : ∀ b, b < w3.heap.size → b ≠ ms → b ≠ mf → u1.heap[b]? = w3.heap[b]? ∧ u2.heap[b]? = w3.heap[b]? ∧ u3.heap[b]? = w3.heap[b]? ∧ u4.heap[b]? = w3.heap[b]? := fun b hb h1 h2 => by
          have k1 := g1.block b hb (fun e => h1 (by injection e))
          have k2 := g2.block b (Nat.lt_of_lt_of_le hb g1.size) (fun e => h1 (by injection e))
          have k3 := g3.block b (Nat.lt_of_lt_of_le hb (Nat.le_trans g1.size g2.size)) (fun e => h2 (by injection e))
          have k4 := g4.block b (Nat.lt_of_lt_of_le hb (Nat.le_trans (Nat.le_trans g1.size g2.size) g3.size)) (fun e => h2 (by injection e))
          exact ⟨k1, k2.trans k1, k3.trans (k2.trans k1), k4.trans (k3.trans (k2.trans k1))⟩
        have hc4 : Chg (fun b => b = ms ∨ b = mf) w3 u4 := ⟨(g4.os.trans g3.os).trans (g2.os.trans g1.os), (g4.tape.trans g3.tape).trans (g2.tape.trans g1.tape), (g4.output.trans g3.output).trans (g2.output.trans g1.output), Nat.le_trans (Nat.le_trans g1.size g2.size) (Nat.le_trans g3.size g4.size), fun k hk hn => (hblk k hk (fun e => hn (.inl e)) (fun e => hn (.inr e))).2.2.2⟩
        have hkf : s1.files.length = j + 1 := by rw [← hs1]; show ((ldS q (fs.take j)).files ++ [_]).length = _; rw [hFM.2.1]; simp; rw [H.out.2.1]; omega
        have hfbk : (fb ++ [wc.heap.size]).getD j 0 = wc.heap.size := by
          have h1 := hD3.fl
          rw [hkf, List.length_append, List.length_singleton] at h1
          have h2 : fb.length = j := by omega
          rw [← h2]; simp
        have hD4 := hD3.load (n := nm) (k := j) hsd (by omega) (by rw [hfbk]; exact hms4) (by rw [hfbk]; exact m4) hc4
        have hX4 : Box u4 wr.heap.size 37 #[.string nm, .slice x m cx] := ((hblk wr.heap.size hX3.lt hxms hxmf).2.2.2).trans hX3
        have cD0 := hD3.box.cell 0
        have cD1 := hD3.box.cell 1
        have cX0 := hX3.cell 0
        have cAll : ∀ u : World, (∀ b, b < w3.heap.size → b ≠ ms → b ≠ mf → u.heap[b]? = w3.heap[b]?) → u.cell? ⟨d, 0, none⟩ = some (.map (some ms)) ∧ u.cell? ⟨d, 1, none⟩ = some (.map (some mf)) ∧ u.cell? ⟨wr.heap.size, 0, none⟩ = some (.string nm) := fun u hu =>
          ⟨(World.cell?_of_block (hu d hD3.box.lt hdms hdmf)).trans cD0, (World.cell?_of_block (hu d hD3.box.lt hdms hdmf)).trans cD1, (World.cell?_of_block (hu wr.heap.size hX3.lt hxms hxmf)).trans cX0⟩
        have t0 : w3.drew.cell? ⟨d, 0, none⟩ = some (.map (some ms)) ∧ w3.drew.cell? ⟨d, 1, none⟩ = some (.map (some mf)) ∧ w3.drew.cell? ⟨wr.heap.size, 0, none⟩ = some (.string nm) := ⟨cD0, cD1, cX0⟩
        have t1 := cAll u1 fun b h1 h2 h3 => (hblk b h1 h2 h3).1
        have t2 := cAll u2 fun b h1 h2 h3 => (hblk b h1 h2 h3).2.1
        have t3 := cAll u3 fun b h1 h2 h3 => (hblk b h1 h2 h3).2.2.1
        have t4 := cAll u4 fun b h1 h2 h3 => (hblk b h1 h2 h3).2.2.2
        have HR4 := Lib.hid (And.intro hD4 (And.intro hX4 (And.intro hc4 (And.intro hbB3 (And.intro hl1 (And.intro hl2 hs1))))))
        clear hD4 hX4 hc4 hbB3 hl1 hl2 hs1 hblk cAll hms4 m2 m4 g1 g2 g3 g4 q1 q3 hsafe2 hseenM hD3d hD3 hno hget hlen hsf hss hsd hD2 hX3 hkf hfbk hFM cD0 cD1 cX0
        go_region_held3 (fun w' => w'.cell? ⟨d, 0, none⟩ = some (.map (some ms)) ∧ w'.cell? ⟨d, 1, none⟩ = some (.map (some mf)) ∧ w'.cell? ⟨wr.heap.size, 0, none⟩ = some (.string nm))
          (first | with_reducible exact t0 | with_reducible exact t1 | with_reducible exact t2 | with_reducible exact t3 | with_reducible exact t4)
          (fail)
        go_upto_region 14 with fail
        have hFM := ld_facts q (fs.take j) (asc_take2 H.out.1.asc (Nat.le_of_lt hlt))
        obtain ⟨uu, huu⟩ : ∃ uu, sumL (fs.take j) = uu := ⟨_, rfl⟩
        have huu9 : uu ≤ 1073741824 := by rw [← huu]; exact sum_pre H.out.1 (Nat.le_of_lt hlt)
        have hus : ({ s1 with safe := putL nm j s1.safe } : Dk).used = (uu : Int) := by rw [← HR4.out.2.2.2.2.2.2, ← huu]; exact hFM.2.2.2.1
        have hdb := HR4.out.1.box
        have hdc := hdb.cell 4
        have hdc4 : u4.drew.cell? ⟨d, 4, none⟩ = some (.int .i64 (uu : Int)) := by rw [← hus]; exact hdc
        have hdf := hdb.free 4
        have hdl := hdb.lt
        have hxc4 : u4.drew.cell? ⟨wr.heap.size, 1, none⟩ = some (.slice x m cx) := HR4.out.2.1.cell 1
        have hwm : IntKind.i64.wrap ((uu : Int) + m) = (uu : Int) + m := IntWalk.i64_in _ (by omega)
        have HU := Lib.hid (And.intro huu (And.intro hus hdb))
        have HFM := Lib.hid hFM
        clear t0 t1 t2 t3 t4 r1 r2 r3 r4 hus hdb hFM hdc huu
        go_still_tail 10, (by kernel_rfl)
        go_wp2
        go_roundw
        case rel =>
          have hfl : (ldS q (fs.take j)).files.length = j := by rw [HFM.out.2.1, List.length_map, hlt']
          have hD5 := HR4.out.1.dx (chg_at (Chg.refl _ u4) 4 (.int .i64 ((uu : Int) + m))) (q := (s1.quota, (uu : Int) + m, s1.fuse, s1.dead, s1.ops)) (by simpa using HU.out.2.2.set_ 4 (.int .i64 ((uu : Int) + m)))
          have e : ({ s1 with safe := putL nm j s1.safe } : Dk).dx (s1.quota, (uu : Int) + m, s1.fuse, s1.dead, s1.ops) = ldS q (fs.take (j + 1)) := by
            rw [HP.out.2.2.2.1, ldS_snoc, ← HR4.out.2.2.2.2.2.2]
            unfold Dk.dx ldStep
            simp only [hfl, HFM.out.2.2.2.1, HU.out.1, HP.out.2.2.2.2]
          rw [e] at hD5
          have hLms : w.heap.size ≤ ms := HDD.out.2.1 ms (by rw [HDD.out.1.lms]; omega)
          have hLmf : w.heap.size ≤ mf := HDD.out.2.1 mf (by rw [HDD.out.1.lmf]; omega)
          have hLd : w.heap.size ≤ d := HDD.out.2.1 d (by rw [HDD.out.1.ld]; omega)
          have hww := HDD.out.2.2.size
          have hw3 := HR4.out.2.2.2.1.size
          have hB1 : Below w.heap.size w u4 := (HDD.out.2.2.trans (HR4.out.2.2.2.1.mono hww)).trans (HR4.out.2.2.1.below (Nat.le_trans hww hw3) fun b hb => by
            rcases hb with rfl | rfl
            · exact hLms
            · exact hLmf)
          refine ⟨j + 1, L2, fb ++ [wc.heap.size], by omega, by go_num, hD5.keep (Nat.le_refl _) (fun _ _ => rfl), fun b hb => ?_, below_drew (hB1.setCell (p := ⟨d, 4, none⟩) hLd _)⟩
          rcases HR4.out.2.2.2.2.2.1 b hb with h1 | h1
          · exact HDD.out.2.1 b h1
          · have := HC.out.1.size; omega
        case measure => simp [intOf]; omega
    · have hin : g = j := by omega
      subst hin
      have hlt : g < n := hg
      have hj0 : (0 : Int) ≤ g := by omega
      have hj1 : (g : Int) < n := by omega
      obtain ⟨hBA, hsz⟩ := HBD.out
      obtain ⟨p, hp, hbad⟩ := hBA
      have hIw := H.out.2.2.below hB
      obtain ⟨ad, x, cx, rfl, had, c0, c1, hrx⟩ := hIw g p hp
      have hsp := hsz p (List.mem_of_getElem? hp)
      obtain ⟨nm, bs⟩ := p
      obtain ⟨m, hm⟩ : ∃ m, bs.length = m := ⟨_, rfl⟩
      simp only at c0 c1 hrx hsp hbad
      rw [hm] at c1
      have HP := Lib.hid (And.intro hp (And.intro hrx (And.intro hsp hm)))
      have HDD := Lib.hid (And.intro hD (And.intro hL hB))
      clear hD hL hB hsz hp hrx hm hsp
      have hxb := (Box.new wr 37 #[.string nm, .slice x m cx])
      have HX := Lib.hid hxb
      clear hxb
      have hx0 := HX.out.cell
      go_upto_region 9 with fail
      go_cut [43] (fun s43 wx => s43 = .bool true ∧ Below (wr.alloc (.cells #[.string nm, .slice x m cx] 37)).heap.size (wr.alloc (.cells #[.string nm, .slice x m cx] 37)) wx)
      case first =>
        by_cases hgn : goodN nm = true
        · have hbad2 : ∃ (i : Nat) (p0 : FE), g = i + 1 ∧ fs[i]? = some p0 ∧ kc p0.1 nm ≠ -1 := by
            rcases hbad with e | e
            · rw [hgn] at e; exact absurd e (by decide)
            · exact e
          have HG := Lib.hid hgn
          clear hbad hgn
          obtain ⟨i, p0, hi, hp0, hless⟩ := hbad2
          obtain ⟨ad0, x0, cx0, ea, _, d0, _, _⟩ := hIw i p0 hp0
          cases ea
          have hjp : (0 : Int) < g := by omega
          have hbl : Op.bytesLess p0.1.toList nm.toList = false := by
            rw [ByteArray.toList_eq, ByteArray.toList_eq]
            exact Bool.eq_false_iff.2 fun e => hless ((cmpB_less _ _).2 e)
          have HBL := Lib.hid hbl
          have HI := Lib.hid (And.intro d0 (And.intro hless hp0))
          have HJ := Lib.hid hi
          clear hi hp0 hless hbl d0 hIw
          have hlt2 : (ad.add (i * 2)).block < wr.heap.size := by rw [add_block]; exact Nat.lt_of_lt_of_le had HDD.out.2.2.size
          have hS1 : (wr.alloc (.cells #[.string nm, .slice x m cx] 37)).drew.cell? ⟨wr.heap.size, 0, none⟩ = some (.string nm) ∧ (wr.alloc (.cells #[.string nm, .slice x m cx] 37)).drew.cell? (ad.add (i * 2)) = some (.string p0.1) :=
            ⟨HX.out.cell 0, ((Below.al wr (.cells #[.string nm, .slice x m cx] 37)).cell hlt2).trans HI.out.1⟩
          have hjn : 0 < g := by have := HJ.out; omega
          have hii : (g : Int) - 1 = (i : Int) := by have := HJ.out; omega
          have hwr : IntKind.i64.wrap ((g : Int) - 1) = (i : Int) := by rw [hii]; exact IntWalk.i64_in _ (by have := HJ.out; omega)
          have hwi : IntKind.i64.wrap (i : Int) = (i : Int) := IntWalk.i64_in _ (by have := HJ.out; omega)
          have hw64 : wrap64 ((g : Int) - 1) = (i : Int) := by rw [hii]; exact IntWalk.wrap64_in _ (by have := HJ.out; omega)
          have hi0 : (0 : Int) ≤ i := by omega
          have hi1 : (i : Int) < n := by have := HJ.out; omega
          have hi2 : i < n := by have := HJ.out; omega
          go_region_held3 (fun w' => w'.cell? ⟨wr.heap.size, 0, none⟩ = some (.string nm) ∧ w'.cell? (ad.add (i * 2)) = some (.string p0.1))
            (first | with_reducible exact hS1 | with_reducible exact hS2)
            (first
            | (go_at_call 44
               refine (goodName_any nm _ HP.out.2.2.1).mono ?_
               rintro e w2 ⟨rfl, hb2⟩
               rw [HG.out]
               have hX2 := (show Box (wr.alloc (.cells #[.string nm, .slice x m cx] 37)).drew _ _ _ from HX.out).next hb2
               have hS2 : w2.cell? ⟨wr.heap.size, 0, none⟩ = some (.string nm) ∧ w2.cell? (ad.add (i * 2)) = some (.string p0.1) := ⟨hX2.cell 0, (hb2.cell (Nat.lt_of_lt_of_le hlt2 (by simp))).trans hS1.2⟩
               have H2 := Lib.hid (And.intro hX2 hb2)
               clear hX2 hb2))
          all_goals
            rw [HBL.out]
            go_wp2_with fail
            go_meet
            case rel => exact ⟨rfl, (below_drew (Below.refl _ _)).trans H2.out.2⟩
        · have HG := Lib.hid (show goodN nm = false from Bool.eq_false_iff.2 hgn)
          clear hbad hgn
          have hS1 : (wr.alloc (.cells #[.string nm, .slice x m cx] 37)).drew.cell? ⟨wr.heap.size, 0, none⟩ = some (.string nm) := HX.out.cell 0
          refine wp_region_held_drew (S := fun w' => w'.cell? ⟨wr.heap.size, 0, none⟩ = some (.string nm)) (by kernel_rfl) hS1 fun _ => ?_
          refine hold_take 0 (v := ?_) rfl (by kernel_rfl) (by kernel_rfl) (by kernel_rfl) (fun _ _ _ h => h) (Or.inl ⟨by rfl, ?hy⟩) hS1 ?_
          case hy => first | (intro w hSw; go_simp; done) | (intro w hSw; go_simp; with_reducible rfl)
          simp only [Act.put, List.setIfInBounds_toArray, List.set_cons_zero, List.set_cons_succ]
          refine hold_take 1 (v := ?_) rfl (by kernel_rfl) (by kernel_rfl) (by kernel_rfl) (fun _ _ _ h => h) (Or.inl ⟨by rfl, ?hy⟩) hS1 ?_
          case hy => first | (intro w hSw; go_simp; done) | (intro w hSw; go_simp; with_reducible rfl)
          simp only [Act.put, List.setIfInBounds_toArray, List.set_cons_zero, List.set_cons_succ]
          refine hold_step 2 rfl (by kernel_rfl) fun K hK => ?_
          go_simp
          go_at_call 44
          refine (goodName_any nm _ HP.out.2.2.1).mono ?_
          rintro e w2 ⟨rfl, hb2⟩
          rw [HG.out]
          have hX2 := (show Box (wr.alloc (.cells #[.string nm, .slice x m cx] 37)).drew _ _ _ from HX.out).next hb2
          have hS2 : w2.cell? ⟨wr.heap.size, 0, none⟩ = some (.string nm) := hX2.cell 0
          have H2 := Lib.hid (And.intro hX2 hb2)
          clear hX2 hb2
          go_simp
          refine hK.out _ _ hS2 ?_
          clear hK K
          refine hold_take 3 (v := ?_) rfl (by kernel_rfl) (by kernel_rfl) (by kernel_rfl) (fun _ _ _ h => h) (Or.inl ⟨by rfl, ?hy⟩) hS2 ?_
          case hy => first | (intro w hSw; go_simp; done) | (intro w hSw; go_simp; with_reducible rfl)
          simp only [Act.put, List.setIfInBounds_toArray, List.set_cons_zero, List.set_cons_succ]
          refine hold_take 4 (v := ?_) rfl (by kernel_rfl) (by kernel_rfl) (by kernel_rfl) (fun _ _ _ h => h) (Or.inl ⟨by rfl, ?hy⟩) hS2 ?_
          case hy => first | (intro w hSw; go_simp; done) | (intro w hSw; go_simp; with_reducible rfl)
          simp only [Act.put, List.setIfInBounds_toArray, List.set_cons_zero, List.set_cons_succ]
          refine hold_take 5 (v := undef) rfl (by kernel_rfl) (by kernel_rfl) (by kernel_rfl) (fun _ _ _ h => h) (Or.inr ⟨by rfl, rfl⟩) hS2 ?_
          simp only [Act.put, List.setIfInBounds_toArray, List.set_cons_zero, List.set_cons_succ]
          refine hold_take 6 (v := undef) rfl (by kernel_rfl) (by kernel_rfl) (by kernel_rfl) (fun _ _ _ h => h) (Or.inr ⟨by rfl, rfl⟩) hS2 ?_
          simp only [Act.put, List.setIfInBounds_toArray, List.set_cons_zero, List.set_cons_succ]
          refine hold_take 7 (v := undef) rfl (by kernel_rfl) (by kernel_rfl) (by kernel_rfl) (fun _ _ _ h => h) (Or.inr ⟨by rfl, rfl⟩) hS2 ?_
          simp only [Act.put, List.setIfInBounds_toArray, List.set_cons_zero, List.set_cons_succ]
          refine hold_take 8 (v := undef) rfl (by kernel_rfl) (by kernel_rfl) (by kernel_rfl) (fun _ _ _ h => h) (Or.inr ⟨by rfl, rfl⟩) hS2 ?_
          simp only [Act.put, List.setIfInBounds_toArray, List.set_cons_zero, List.set_cons_succ]
          refine hold_take 9 (v := undef) rfl (by kernel_rfl) (by kernel_rfl) (by kernel_rfl) (fun _ _ _ h => h) (Or.inr ⟨by rfl, rfl⟩) hS2 ?_
          simp only [Act.put, List.setIfInBounds_toArray, List.set_cons_zero, List.set_cons_succ]
          refine hold_take 10 (v := undef) rfl (by kernel_rfl) (by kernel_rfl) (by kernel_rfl) (fun _ _ _ h => h) (Or.inr ⟨by rfl, rfl⟩) hS2 ?_
          simp only [Act.put, List.setIfInBounds_toArray, List.set_cons_zero, List.set_cons_succ]
          refine hold_take 11 (v := undef) rfl (by kernel_rfl) (by kernel_rfl) (by kernel_rfl) (fun _ _ _ h => h) (Or.inr ⟨by rfl, rfl⟩) hS2 ?_
          simp only [Act.put, List.setIfInBounds_toArray, List.set_cons_zero, List.set_cons_succ]
          refine hold_take 12 (v := undef) rfl (by kernel_rfl) (by kernel_rfl) (by kernel_rfl) (fun _ _ _ h => h) (Or.inr ⟨by rfl, rfl⟩) hS2 ?_
          simp only [Act.put, List.setIfInBounds_toArray, List.set_cons_zero, List.set_cons_succ]
          refine hold_take 13 (v := undef) rfl (by kernel_rfl) (by kernel_rfl) (by kernel_rfl) (fun _ _ _ h => h) (Or.inr ⟨by rfl, rfl⟩) hS2 ?_
          simp only [Act.put, List.setIfInBounds_toArray, List.set_cons_zero, List.set_cons_succ]
          refine hold_take 14 (v := undef) rfl (by kernel_rfl) (by kernel_rfl) (by kernel_rfl) (fun _ _ _ h => h) (Or.inr ⟨by rfl, rfl⟩) hS2 ?_
          simp only [Act.put, List.setIfInBounds_toArray, List.set_cons_zero, List.set_cons_succ]
          refine hold_take 15 (v := undef) rfl (by kernel_rfl) (by kernel_rfl) (by kernel_rfl) (fun _ _ _ h => h) (Or.inr ⟨by rfl, rfl⟩) hS2 ?_
          simp only [Act.put, List.setIfInBounds_toArray, List.set_cons_zero, List.set_cons_succ]
          refine hold_take 16 (v := undef) rfl (by kernel_rfl) (by kernel_rfl) (by kernel_rfl) (fun _ _ _ h => h) (Or.inr ⟨by rfl, rfl⟩) hS2 ?_
          simp only [Act.put, List.setIfInBounds_toArray, List.set_cons_zero, List.set_cons_succ]
          refine hold_take 17 (v := undef) rfl (by kernel_rfl) (by kernel_rfl) (by kernel_rfl) (fun _ _ _ h => h) (Or.inr ⟨by rfl, rfl⟩) hS2 ?_
          simp only [Act.put, List.setIfInBounds_toArray, List.set_cons_zero, List.set_cons_succ]
          refine hold_take 18 (v := ?_) rfl (by kernel_rfl) (by kernel_rfl) (by kernel_rfl) (fun _ _ _ h => h) (Or.inl ⟨by rfl, ?hy⟩) hS2 ?_
          case hy => first | (intro w hSw; go_simp; done) | (intro w hSw; go_simp; with_reducible rfl)
          simp only [Act.put, List.setIfInBounds_toArray, List.set_cons_zero, List.set_cons_succ]
          refine wpAnyH_done (by kernel_rfl) ?_ _
          go_wp2_with fail
          go_meet
          case rel => exact ⟨rfl, (below_drew (Below.refl _ _)).trans H2.out.2⟩
      case rest =>
        obtain ⟨rfl, hb2⟩ := hcut
        have HB2 := Lib.hid ((HDD.out.2.2.trans ((Below.al wr _).mono HDD.out.2.2.size)).trans (hb2.mono (by have := HDD.out.2.2.size; simp; omega)))
        clear hb2
        go_wp2
        go_ret2
        exact ⟨rfl, HB2.out⟩
end Go.Proofs.Ytebeefkibbbkdaa
/- chronicleref3: Load of an image that may not be. -/
namespace Go.Proofs.Ytebeefkibbbkdaa
open Go.RowKit Go.Maps

set_option maxRecDepth 100000 in
set_option maxHeartbeats 16000000 in
theorem loadR_bad (q : Int) (fs : List FE) (g : Nat) (A : Option Addr) (n c : Nat) (w : World) (h : LdOk q (fs.take g)) (hg : g < n) (hnm : n ≤ 65536) (hbad : BadAt fs g) (hsz : ∀ p ∈ fs, p.1.size ≤ maxLen) (hn : fs.length = n) (hI : IM w w.heap.size A fs) :
    Calls Try.prog 15 #[.slice A n c, .int .i64 q] w fun e w' => e = .returned (.tuple #[.pointer none, .int .i64 36]) ∧ Below w.heap.size w w' := by
  obtain ⟨i1, hi1, hz1, hs1, hy1⟩ := info_parts infoq_inode
  obtain ⟨i2, hi2, hz2, hs2, hy2⟩ := info_parts infoq_link
  have hnd : decide ((65536 : Int) < n) = false := decide_eq_false (by omega)
  have H := Lib.hid (And.intro h (And.intro hn hI))
  have HBD := Lib.hid (And.intro hbad hsz)
  clear h hn hI hbad hsz
  go_enter Try.func15, Try.ntmps15
  go_wp2_with (first
    | (go_at_call 20
       refine (newR_any q _ H.out.1.q).mono ?_
       rintro e w1 ⟨rb, L0, rfl, h0, h1, h2⟩
       have H1 := Lib.hid (And.intro h0 (And.intro h1 h2))
       clear h0 h1 h2))
  go_loopw [8, 9] (fun v8 v9 wr => ∃ (j : Nat) (L : Nat → Nat), j ≤ g ∧ v9 = .int .i64 j ∧ RDk wr L rb (midL q (fs.take j)) ∧ (∀ b, L b ≠ 0 → w.heap.size ≤ b) ∧ Below w.heap.size w wr ∧ wr.ownsRow w.heap.size 105 2 v8 j ((ldL (fs.take j) 0).flatMap lcell) ∧ ∀ b, v8.ownBlock = some b → L b = 0) (fun _ i _ => n - (intOf i).toNat)
  case atStart => exact ⟨0, L0, Nat.zero_le _, rfl, H1.out.1, H1.out.2.1, H1.out.2.2, nil_own _ _ _ _, fun b hb => by cases hb⟩
  case round =>
    obtain ⟨j, L, hj, rfl, hD, hL, hB, hdr, hd0⟩ := hrel
    obtain ⟨db, dc, rfl⟩ := row_slice hdr
    by_cases hlt : j < g
    · have hj0 : (0 : Int) ≤ j := by omega
      have hj1 : (j : Int) < n := by omega
      obtain ⟨p, hp⟩ : ∃ p, fs[j]? = some p := ⟨_, List.getElem?_eq_getElem (by rw [H.out.2.1]; omega)⟩
      have hIw := H.out.2.2.below hB
      obtain ⟨ad, x, cx, rfl, had, c0, c1, hrx⟩ := hIw j p hp
      have hpm := List.mem_of_getElem? hp
      have hpg := mem_pre hp hlt
      have hgn := H.out.1.names p hpg
      have hst : fs.take (j + 1) = fs.take j ++ [p] := by rw [List.take_add_one, hp]; rfl
      have hld := ldL_take fs hp
      obtain ⟨pv, hpv⟩ : ∃ pv : Option FE, pv = if j = 0 then none else fs[j - 1]? := ⟨_, rfl⟩
      obtain ⟨nm, bs⟩ := p
      obtain ⟨m, hm⟩ : ∃ m, bs.length = m := ⟨_, rfl⟩
      have hmx : m ≤ 1073741824 := by have h1 := sumL_mem hpg; have h2 := H.out.1.sum; simp only at h1; omega
      have hnz : nm.size ≤ maxLen := by have := (goodN_size hgn).2; unfold maxLen; simp only at this; omega
      simp only at c0 c1 hrx hgn hld
      rw [hm] at c1
      have HP := Lib.hid (And.intro hp (And.intro hrx (And.intro hst (And.intro hm (And.intro hld hnz)))))
      have HDD := Lib.hid (And.intro hD (And.intro hL (And.intro hB (And.intro hdr hd0))))
      have HX := Lib.hid (Box.new wr 37 #[.string nm, .slice x m cx])
      have hir : Hid (∀ v, Below wr.heap.size wr v → Rd v v.heap.size x (bv bs)) := fun v hv => (hrx.below (hv.mono hB.size)).mono (Nat.le_trans hB.size hv.size)
      have hiv : Hid (∀ v, Below wr.heap.size wr v → IM v w.heap.size (some ad) fs) := fun v hv => hIw.below (hv.mono hB.size)
      clear hD hL hB hIw hpm hpg hst hp hrx hm hld hdr hd0 hpv
      go_upto_region 12 with (first
        | (go_at_call 46
           refine (nameR3_any nm _ HP.out.2.2.2.2.2).mono ?_
           rintro e w2 ⟨rfl, hb2⟩
           rw [hgn]
           have hb2' := (Below.al wr (.cells #[.string nm, .slice x m cx] 37)).trans (hb2.mono (by simp))
           have hx2 := HX.out.next hb2
           have hxc := hx2.cell
           have H2 := Lib.hid (And.intro hb2' hx2)
           clear hb2 hb2' hx2 c0 c1))
      go_cut [53] (fun s53 wx => s53 = .bool false ∧ Below wr.heap.size wr wx ∧ Box wx wr.heap.size 37 #[.string nm, .slice x m cx])
      case first =>
        by_cases hj2 : j = 0
        · have hjn : decide ((0 : Int) < (j : Int)) = false := decide_eq_false (by omega)
          have hjn2 : decide (0 < j) = false := decide_eq_false (by omega)
          have hjn3 : ¬ ((0 : Int) < (j : Int)) := by omega
          clear hj2
          go_quiet (fail)
          go_wp2_with fail
          go_meet
          case rel => exact ⟨rfl, below_drewN H2.out.1 _, H2.out.2.drewN _⟩
        · have hjn : decide ((0 : Int) < (j : Int)) = true := decide_eq_true (by omega)
          have hjn2 : decide (0 < j) = true := decide_eq_true (by omega)
          obtain ⟨jp, hjp⟩ : ∃ jp, j = jp + 1 := ⟨j - 1, by omega⟩
          obtain ⟨pr, hpr⟩ : ∃ pr, fs[jp]? = some pr := ⟨_, List.getElem?_eq_getElem (by rw [H.out.2.1]; omega)⟩
          obtain ⟨ad', x', cx', e', _, p0, _, _⟩ := hiv.out w2 H2.out.1 jp pr hpr
          cases e'
          have hkc : kc pr.1 nm = -1 := by
            exact asc_pre H.out.1.asc hpr HP.out.1 (by omega) hlt
          have hkc2 : kc nm pr.1 ≠ -1 := by rw [kc_swap, hkc]; decide
          have hne : ¬ nm = pr.1 := fun e => by rw [e, kc_self] at hkc; exact absurd hkc (by decide)
          have hb1 := kcq_less hkc
          have hb2 := kcq_nless hkc2
          have hb3 := key_ne hne
          have hb4 := key_ne (fun e : pr.1 = nm => hne e.symm)
          have hji : (j : Int) - 1 = (jp : Int) := by omega
          have hjw : IntKind.i64.wrap ((j : Int) - 1) = (jp : Int) := by rw [hji]; exact IntWalk.i64_in _ (by omega)
          have hjp0 : (0 : Int) ≤ jp := by omega
          have hjp1 : (jp : Int) < n := by omega
          have HJ := Lib.hid hjp
          clear hjp hpr hkc hkc2 hne hj2
          go_quiet (fail)
          go_wp2_with fail
          go_meet
          case rel => exact ⟨rfl, below_drewN H2.out.1 _, H2.out.2.drewN _⟩
      case rest =>
        obtain ⟨rfl, hb3, hx3⟩ := hcut
        have hxc3 := hx3.cell
        have H3 := Lib.hid (And.intro hb3 hx3)
        clear hb3 hx3 hxc
        go_upto_region 16 with (first
          | (go_at_call 47
             refine (copiedR_any x m cx bs _ (hir.out _ H3.out.1) HP.out.2.2.2.1 (by omega)).mono ?_
             rintro e w4 ⟨x4, c4, rfl, hr4, hb4⟩
             have hb34 := H3.out.1.trans (hb4.mono H3.out.1.size)
             have hx4 := H3.out.2.next hb4
             have hxc4 := hx4.cell
             obtain ⟨g1, g2, g3, g4⟩ := (HDD.out.1.next H3.out.1).row (a := 5) hb4 hr4 (by decide)
             obtain ⟨vF4, uP, vD4, uD, hRM⟩ := g1
             obtain ⟨F, cF, hvF⟩ := row_slice hRM.F.r
             subst hvF
             have hfl : (midL q (fs.take j)).files.length = j := by show ((fs.take j).map _).length = j; rw [List.length_map, List.length_take, H.out.2.1]; omega
             rw [List.length_map, hfl] at hRM
             have hc0 := hRM.box.cell 0
             have R4 := Lib.hid (And.intro hRM (And.intro hfl (And.intro g2 (And.intro g3 (And.intro g4 (And.intro hb34 hx4))))))
             have hjm9 : j ≤ 65536 := by omega
             have hlow := Lib.hid (show ∀ b, (Value.slice x4 m c4).ownBlock = some b → wr.heap.size < b from fun b hb => Nat.lt_of_lt_of_le H3.out.2.lt (hr4.lt b hb).1)
             clear hr4 hb4 hb34 hx4 hRM hfl g2 g3 g4 hxc3)
          | (at_builtin
             refine wpList_app _ rfl (.tmp 61) (.tmp 66) _ rfl 0 103 i1 _ 2 48 Try.underlying97 hi1 hz1 hs1 hy1 rfl (by omega) (.slice F j cF) j (uP.flatMap pcell) rfl (by have := R4.out.1.F.r; rw [List.length_map, R4.out.2.1] at this; exact ((this.alloc _).alloc _).alloc _) _ _ 1 1 [.slice (some ⟨w4.heap.size, 0, none⟩) 1 1, .slice (some ⟨w4.heap.size + 1, 0, none⟩) 1 1] rfl rfl (by have := rd_new ((w4.alloc (.cells #[.slice x4 m c4] 22)).alloc (.cells #[.int .i64 (-1)] 3)) #[.slice (some ⟨w4.heap.size, 0, none⟩) 1 1, .slice (some ⟨w4.heap.size + 1, 0, none⟩) 1 1] 103; simpa using this) (by simp [Value.oneCell']) (by unfold maxLen; omega) (by omega) (Nat.zero_le _) ?_
             intro v7 w7 hown7 hg7 hor7
             obtain ⟨b7, c7, hv7⟩ := row_slice hown7
             subst hv7
             have hb3 : Below w4.heap.size w4 (((w4.alloc (.cells #[.slice x4 m c4] 22)).alloc (.cells #[.int .i64 (-1)] 3)).alloc (.cells #[.slice (some ⟨w4.heap.size, 0, none⟩) 1 1, .slice (some ⟨w4.heap.size + 1, 0, none⟩) 1 1] 103)) := (Below.al _ _).trans (((Below.al _ _).trans ((Below.al _ _).mono (by simp))).mono (by simp))
             have hne : some rb ≠ (Value.slice F j cF).ownBlock := fun e => by have h1 := R4.out.1.F.l rb e.symm; have h2 := R4.out.1.lp; omega
             have hcp : w7.cell? ⟨rb, 0, none⟩ = some (.slice F j cF) := cell_growq hc0 hb3 hg7 hne
             have hcz : w7.frozen? ⟨rb, 0, none⟩ = false := ((R4.out.1.box.below hb3 R4.out.1.box.lt).grown hg7 hne).free 0
             have hG := RDk.growL (y := bs) R4.out.1 R4.out.2.1 ⟨by rw [HP.out.2.2.2.1]; exact R4.out.2.2.1, R4.out.2.2.2.1⟩ hg7 hown7 (by simpa using hor7)
             have H7 := Lib.hid hG
             clear hown7 hg7 hor7 hne hb3 hc0 hG))
        obtain ⟨w8, hw8⟩ : ∃ w8, w7.setCell ⟨rb, 0, none⟩ (.slice b7 (j + 1) c7) = w8 := ⟨_, rfl⟩
        have h8 := H7.out
        rw [hw8] at h8 ⊢
        obtain ⟨L8, g1, g2⟩ := h8
        have hL0 : L wr.heap.size = 0 := Classical.byContradiction fun hne => by have := HDD.out.1.lt _ hne; omega
        have hlz : ∀ b, b ≤ wr.heap.size → L b = 0 → relab L (.slice x4 m c4) 5 b = 0 := fun b hb h0 => by
          rw [relab_off fun e => by have := hlow.out b e; omega]
          exact h0
        have hx8 := R4.out.2.2.2.2.2.2.chg g2.chg fun e => e (hlz _ (Nat.le_refl _) hL0)
        have hxc8 := hx8.cell
        have hdl : ∀ b, (Value.slice db j dc).ownBlock = some b → relab L (.slice x4 m c4) 5 b = 0 ∧ b < w4.heap.size := fun b hb => by
          have h1 := (HDD.out.2.2.2.1.lt b hb).2
          have h2 := R4.out.2.2.2.2.2.1.size
          exact ⟨hlz b (by omega) (HDD.out.2.2.2.2 b hb), by omega⟩
        have hd8 : w8.ownsRow w.heap.size 105 2 (.slice db j dc) j ((ldL (fs.take j) 0).flatMap lcell) := row_block (row_block HDD.out.2.2.2.1 fun k hk => R4.out.2.2.2.2.2.1.block k (HDD.out.2.2.2.1.lt k hk).2) fun k hk => g2.chg.block k (hdl k hk).2 fun e => e (hdl k hk).1
        have h8z : w.heap.size ≤ w8.heap.size := Nat.le_trans HDD.out.2.2.1.size (Nat.le_trans R4.out.2.2.2.2.2.1.size g2.chg.size)
        have hB8 : Below w.heap.size w w8 := (HDD.out.2.2.1.trans (R4.out.2.2.2.2.2.1.mono HDD.out.2.2.1.size)).trans (g2.chg.below (Nat.le_trans HDD.out.2.2.1.size R4.out.2.2.2.2.2.1.size) fun b hb => by
          by_cases e : (Value.slice x4 m c4).ownBlock = some b
          · have := hlow.out b e; have := HDD.out.2.2.1.size; omega
          · rw [relab_off e] at hb; exact HDD.out.2.1 b hb)
        have hL8 : ∀ b, L8 b ≠ 0 → w.heap.size ≤ b := fun b hb => by
          rcases g2.new b hb with h1 | h1
          · by_cases e : (Value.slice x4 m c4).ownBlock = some b
            · have := hlow.out b e; have := HDD.out.2.2.1.size; omega
            · rw [relab_off e] at h1; exact HDD.out.2.1 b h1
          · exact Nat.le_trans (Nat.le_trans HDD.out.2.2.1.size R4.out.2.2.2.2.2.1.size) h1
        have X8 := Lib.hid (And.intro (show RDk w8 L8 rb (midL q (fs.take (j + 1))) from g1.congr (by rw [HP.out.2.2.1]; show ((fs.take j ++ [(nm, bs)]).map fun p : FE => (⟨p.2, []⟩ : Fl)) = _; rw [List.map_append]; rfl) rfl rfl rfl rfl rfl rfl) (And.intro hd8 (And.intro h8z (And.intro hB8 (And.intro hL8 (fun b hb => g2.offb (hdl b hb).1 (hdl b hb).2))))))
        clear hw8 g1 g2 hL0 hlz hx8 hdl hd8 h8z hB8 hL8 hxc4 hcp hcz
        go_wp2_with (first
          | (at_builtin
             refine wpList_app _ rfl (.tmp 70) (.tmp 75) _ rfl w.heap.size 105 i2 _ 2 24 Try.underlying96 hi2 hz2 hs2 hy2 rfl (by omega) (.slice db j dc) j _ rfl (X8.out.2.1.alloc _) _ _ 1 1 [.string nm, .int .i64 (j : Nat)] rfl rfl (rd_new _ _ _) (by simp [Value.oneCell']) (by unfold maxLen; omega) (by omega) (by have := X8.out.2.2.1; simp; omega) ?_
             intro v9 w9 hown9 hg9 hor9
             have H9 := Lib.hid (And.intro hown9 (And.intro hg9 hor9))
             clear hown9 hg9 hor9))
        go_roundw
        case rel =>
          obtain ⟨k1, k2, k3, k4, k5, k6⟩ := X8.out
          obtain ⟨m1, m2, m3⟩ := H9.out
          have ha := Below.al w8 (.cells #[.string nm, .int .i64 (j : Nat)] 105)
          have hc9 : Chg (fun b => (Value.slice db j dc).ownBlock = some b) w8 w9 := (Chg.of_below ha _).grown m2 fun k hk => .inl hk
          refine ⟨j + 1, L8, by omega, by go_num, k1.chgq hc9 k6, k5, k4.trans (hc9.below k3 fun b hb => (k2.lt b hb).1), ?_, fun b hb => ?_⟩
          · rw [HP.out.2.2.2.2.1, List.flatMap_append]
            exact m1
          · rcases m3 with e | e
            · exact k6 b (e ▸ hb)
            · rw [e] at hb
              injection hb with hb
              refine Classical.byContradiction fun hne => ?_
              have := k1.lt b hne
              have := ha.size
              omega
        case measure => simp [intOf]; omega
    · have hin : g = j := by omega
      subst hin
      have hlt : g < n := hg
      have hj0 : (0 : Int) ≤ g := by omega
      have hj1 : (g : Int) < n := by omega
      obtain ⟨hBA, hsz⟩ := HBD.out
      obtain ⟨p, hp, hbad⟩ := hBA
      have hIw := H.out.2.2.below hB
      obtain ⟨ad, x, cx, rfl, had, c0, c1, hrx⟩ := hIw g p hp
      have hsp := hsz p (List.mem_of_getElem? hp)
      obtain ⟨nm, bs⟩ := p
      obtain ⟨m, hm⟩ : ∃ m, bs.length = m := ⟨_, rfl⟩
      simp only at c0 c1 hrx hsp hbad
      rw [hm] at c1
      have HP := Lib.hid (And.intro hp (And.intro hrx (And.intro hsp hm)))
      have HDD := Lib.hid (And.intro hD (And.intro hL (And.intro hB (And.intro hdr hd0))))
      have HX := Lib.hid (Box.new wr 37 #[.string nm, .slice x m cx])
      have hiv : Hid (∀ v, Below wr.heap.size wr v → IM v w.heap.size (some ad) fs) := fun v hv => hIw.below (hv.mono hB.size)
      clear hD hL hB hsz hp hrx hm hsp hdr hd0 hIw
      by_cases hgn : goodN nm = true
      · have hbad2 : ∃ (i : Nat) (p0 : FE), g = i + 1 ∧ fs[i]? = some p0 ∧ kc p0.1 nm ≠ -1 := by
          rcases hbad with e | e
          · rw [hgn] at e; exact absurd e (by decide)
          · exact e
        have HG := Lib.hid hgn
        clear hbad hgn
        go_upto_region 12 with (first
          | (go_at_call 46
             refine (nameR3_any nm _ HP.out.2.2.1).mono ?_
             rintro e w2 ⟨rfl, hb2⟩
             rw [HG.out]
             have hb2' := (Below.al wr (.cells #[.string nm, .slice x m cx] 37)).trans (hb2.mono (by simp))
             have hx2 := HX.out.next hb2
             have hxc := hx2.cell
             have H2 := Lib.hid (And.intro hb2' hx2)
             clear hb2 hb2' hx2 c0 c1))
        go_cut [53] (fun s53 wx => s53 = .bool true ∧ Below wr.heap.size wr wx)
        case first =>
          have hjn : decide ((0 : Int) < (g : Int)) = true := decide_eq_true (by omega)
          have hjn2 : decide (0 < g) = true := decide_eq_true (by omega)
          obtain ⟨jp, pr, hjp, hpr, hless⟩ := hbad2
          obtain ⟨ad', x', cx', e', _, p0, _, _⟩ := hiv.out w2 H2.out.1 jp pr hpr
          cases e'
          have hji : (g : Int) - 1 = (jp : Int) := by omega
          have hjw : IntKind.i64.wrap ((g : Int) - 1) = (jp : Int) := by rw [hji]; exact IntWalk.i64_in _ (by omega)
          have hjp0 : (0 : Int) ≤ jp := by omega
          have hjp1 : (jp : Int) < n := by omega
          have HJ := Lib.hid hjp
          clear hjp
          have hb2 := kcq_nless hless
          by_cases heq : pr.1 = nm
          · rw [heq] at p0 hb2
            have hb5 : (nm.toList == nm.toList) = true := beq_self_eq_true _
            clear hpr hless heq
            go_quiet (fail)
            go_wp2_with fail
            go_meet
            case rel => exact ⟨rfl, below_drewN H2.out.1 _⟩
          · have hkc : kc nm pr.1 = -1 := by
              have h1 := kc_swap nm pr.1
              rcases kc_range pr.1 nm with e | e | e
              · exact absurd e hless
              · exact absurd (kc_eq e) heq
              · rw [kc_swap, e]
            have hb1 := kcq_less hkc
            have hb3 := key_ne heq
            have hb4 := key_ne (fun e : nm = pr.1 => heq e.symm)
            clear hpr hless heq hkc
            go_quiet (fail)
            go_wp2_with fail
            go_meet
            case rel => exact ⟨rfl, below_drewN H2.out.1 _⟩
        case rest =>
          obtain ⟨rfl, hb3⟩ := hcut
          have H3 := Lib.hid (HDD.out.2.2.1.trans (hb3.mono HDD.out.2.2.1.size))
          clear hb3 hxc
          go_wp2
          go_ret2
          exact ⟨rfl, H3.out⟩
      · have HG := Lib.hid (show goodN nm = false from Bool.eq_false_iff.2 hgn)
        clear hbad hgn
        go_upto_region 12 with (first
          | (go_at_call 46
             refine (nameR3_any nm _ HP.out.2.2.1).mono ?_
             rintro e w2 ⟨rfl, hb2⟩
             rw [HG.out]
             have hb2' := (Below.al wr (.cells #[.string nm, .slice x m cx] 37)).trans (hb2.mono (by simp))
             have hx2 := HX.out.next hb2
             have hxc := hx2.cell
             have H2 := Lib.hid (And.intro hb2' hx2)
             clear hb2 hb2' hx2 c0 c1))
        go_cut [53] (fun s53 wx => s53 = .bool true ∧ Below wr.heap.size wr wx)
        case first =>
          go_quiet (fail)
          go_wp2_with fail
          go_meet
          case rel => exact ⟨rfl, below_drewN H2.out.1 _⟩
        case rest =>
          obtain ⟨rfl, hb3⟩ := hcut
          have H3 := Lib.hid (HDD.out.2.2.1.trans (hb3.mono HDD.out.2.2.1.size))
          clear hb3 hxc
          go_wp2
          go_ret2
          exact ⟨rfl, H3.out⟩
set_option maxRecDepth 100000 in
set_option maxHeartbeats 16000000 in
theorem load_out (q : Int) (A : Option Addr) (n c : Nat) (w : World) (hn : (n : Int) ≤ 9000000000000000000) (h : ¬ (0 ≤ q ∧ q ≤ 1073741824) ∨ 65536 < n) :
    Calls Try.prog 14 #[.slice A n c, .int .i64 q] w fun e w' => e = .returned (.tuple #[.pointer none, .int .i64 (if 0 ≤ q ∧ q ≤ 1073741824 then 35 else 3)]) ∧ Below w.heap.size w w' := by
  by_cases hq : 0 ≤ q ∧ q ≤ 1073741824
  · rw [if_pos hq]
    have hqd := Lib.hid (show qOk q = true from decide_eq_true hq)
    have hnq : (65536 : Int) < n := by omega
    have hnd : decide ((65536 : Int) < n) = true := decide_eq_true hnq
    clear h hq
    go_enter Try.func14, Try.ntmps14
    go_wp2_with (first
      | (go_at_call 42
         refine (goodQuota_any q _).mono ?_
         rintro e w1 ⟨rfl, hw⟩
         have hw1 := hw.symm
         subst hw1
         rw [hqd.out]))
    go_ret2
    exact ⟨rfl, Below.refl _ _⟩
  · rw [if_neg hq]
    have hqd := Lib.hid (show qOk q = false from decide_eq_false hq)
    clear h hq
    go_enter Try.func14, Try.ntmps14
    go_wp2_with (first
      | (go_at_call 42
         refine (goodQuota_any q _).mono ?_
         rintro e w1 ⟨rfl, hw⟩
         have hw1 := hw.symm
         subst hw1
         rw [hqd.out]))
    go_ret2
    exact ⟨rfl, Below.refl _ _⟩
set_option maxRecDepth 100000 in
set_option maxHeartbeats 16000000 in
theorem loadR_out (q : Int) (A : Option Addr) (n c : Nat) (w : World) (hn : (n : Int) ≤ 9000000000000000000) (h : ¬ (0 ≤ q ∧ q ≤ 1073741824) ∨ 65536 < n) :
    Calls Try.prog 15 #[.slice A n c, .int .i64 q] w fun e w' => e = .returned (.tuple #[.pointer none, .int .i64 (if 0 ≤ q ∧ q ≤ 1073741824 then 35 else 3)]) ∧ Below w.heap.size w w' := by
  by_cases hq : 0 ≤ q ∧ q ≤ 1073741824
  · rw [if_pos hq]
    have HQ := Lib.hid hq
    have hnq : (65536 : Int) < n := by omega
    have hnd : decide ((65536 : Int) < n) = true := decide_eq_true hnq
    clear h hq
    go_enter Try.func15, Try.ntmps15
    go_wp2_with (first
      | (go_at_call 20
         refine (newR_any q _ HQ.out).mono ?_
         rintro e w1 ⟨rb, L0, rfl, h0, h1, h2⟩
         have H1 := Lib.hid h2
         clear h0 h1 h2))
    go_ret2
    exact ⟨rfl, H1.out⟩
  · rw [if_neg hq]
    have HQ := Lib.hid hq
    clear h hq
    go_enter Try.func15, Try.ntmps15
    go_wp2_with (first
      | (go_at_call 20
         refine (newR_no q _ (by have := HQ.out; omega)).mono ?_
         rintro e w1 ⟨rfl, hw⟩
         have hw1 := hw.symm
         subst hw1))
    go_ret2
    exact ⟨rfl, Below.refl _ _⟩
end Go.Proofs.Ytebeefkibbbkdaa
/- SimfsLoads: twin: an image of its own memory (Sm36, without Sa2). -/
namespace Go.Proofs.Ytebeefkibbbkdaa
open Go.RowKit Go.Maps

/-- The rows of files lie in blocks of their own. -/
def Apart (us : List Value) : Prop := ∀ (i j : Nat) (u v : Value), us[i]? = some u → us[j]? = some v → i ≠ j → ∀ k, u.ownBlock = some k → v.ownBlock ≠ some k
theorem Apart.nil : Apart [] := fun i j u v h => by cases h
theorem Apart.add {w w6 : World} {base : Nat} {fs : List (ByteArray × List UInt8)} {us : List Value} {v u : Value} {n : Nat} {xs : List Value} {e : TypeId} {z : Nat} (hA : Apart us) (h : FLs w base fs us v) (hr : w6.ownsRow w.heap.size e z u n xs) : Apart (us ++ [u]) := by
  have hnew : ∀ k, u.ownBlock = some k → w.heap.size ≤ k := fun k hk => (hr.lt k hk).1
  have hold : ∀ (i : Nat) (x : Value), us[i]? = some x → ∀ k, x.ownBlock = some k → k < w.heap.size := fun i x hx k hk => by
    have hi : i < fs.length := by rw [← h.1]; exact (List.getElem?_eq_some_iff.1 hx).1
    obtain ⟨b, c, _, hrow⟩ := h.2.2 i fs[i] x (List.getElem?_eq_getElem hi) hx
    exact (hrow.lt k hk).2
  intro i j x y hi hj hij k hk
  have hcase : ∀ (i : Nat) (x : Value), (us ++ [u])[i]? = some x → (us[i]? = some x ∧ i < us.length) ∨ (i = us.length ∧ x = u) := fun i x hx => by
    rcases Nat.lt_trichotomy i us.length with hl | hl | hl
    · rw [List.getElem?_append_left hl] at hx; exact .inl ⟨hx, hl⟩
    · subst hl
      rw [List.getElem?_append_right (Nat.le_refl _)] at hx
      simp at hx
      exact .inr ⟨rfl, hx.symm⟩
    · rw [List.getElem?_eq_none (by simp; omega)] at hx; cases hx
  rcases hcase i x hi with ⟨hi', _⟩ | ⟨hi', hx⟩
  · rcases hcase j y hj with ⟨hj', _⟩ | ⟨hj', hy'⟩
    · exact hA i j x y hi' hj' hij k hk
    · intro hy
      have := hold i x hi' k hk
      have := hnew k (by rw [← hy']; exact hy)
      omega
  · rcases hcase j y hj with ⟨hj', _⟩ | ⟨hj', _⟩
    · intro hy
      have := hold j y hj' k hy
      have := hnew k (by rw [← hx]; exact hk)
      omega
    · exact absurd (hi'.trans hj'.symm) hij
set_option maxRecDepth 100000 in
set_option maxHeartbeats 16000000 in
theorem twin_any (A : Option Addr) (n c : Nat) (fs : List FE) (w : World) (hI : IM w w.heap.size A fs) (hn : fs.length = n) (hmx : n ≤ 999999999999) (hb : ∀ p ∈ fs, p.2.length ≤ 140737488351232) :
    Calls Try.prog 13 #[.slice A n c] w fun e w' => ∃ us b cap, e = .returned (.slice b n cap) ∧ (FLs w' w.heap.size fs us (.slice b n cap) ∧ Apart us) ∧ Below w.heap.size w w' := by
  obtain ⟨i1, hi1, hz1, hs1, hy1⟩ := info_parts info_u8
  obtain ⟨i2, hi2, hz2, hs2, hy2⟩ := info_parts info_file
  have H := Lib.hid (And.intro hI (And.intro hn hb))
  clear hI hn hb
  go_enter Try.func13, Try.ntmps13
  go_wp2
  go_loopw [3, 4] (fun v3 i wr => ∃ (j : Nat) (us : List Value), j ≤ n ∧ i = .int .i64 j ∧ FLs wr w.heap.size (fs.take j) us v3 ∧ Apart us ∧ Below w.heap.size w wr) (fun _ i _ => n - (intOf i).toNat)
  case atStart => exact ⟨0, [], Nat.zero_le _, rfl, FLs.nil _ _, Apart.nil, Below.refl _ _⟩
  case round =>
    obtain ⟨j, us, hj, rfl, hF, hA, hB⟩ := hrel
    obtain ⟨fb10, fc10, rfl⟩ := row_slice hF.2.1
    have hlj : (fs.take j).length = j := by rw [List.length_take, H.out.2.1]; omega
    rw [hlj] at hF ⊢
    by_cases hlt : j < n
    · have hj0 : (0 : Int) ≤ j := by omega
      have hj1 : (j : Int) < n := by omega
      obtain ⟨p, hp⟩ : ∃ p, fs[j]? = some p := ⟨_, List.getElem?_eq_getElem (by rw [H.out.2.1]; exact hlt)⟩
      obtain ⟨ad, x, cx, rfl, had, c0, c1, hrx⟩ := (H.out.1.below hB) j p hp
      have hbp := H.out.2.2 p (List.mem_of_getElem? hp)
      have hst : fs.take (j + 1) = fs.take j ++ [p] := by
        obtain ⟨hl, e⟩ := List.getElem?_eq_some_iff.1 hp
        rw [← e]
        exact List.take_succ_eq_append_getElem hl
      obtain ⟨nm, bs⟩ := p
      obtain ⟨m, hm⟩ : ∃ m, bs.length = m := ⟨_, rfl⟩
      simp only at c0 c1 hrx hbp
      rw [hm] at c1 hbp
      have hadw : (ad.add (j * 2)).block < wr.heap.size := by rw [add_block]; exact Nat.lt_of_lt_of_le had hB.size
      have HC := Lib.hid (And.intro c0 c1)
      have HL := Lib.hid (And.intro (show (bv bs).length = m * 1 by rw [bv_len, hm, Nat.mul_one]) (And.intro (show Rd (wr.drew.alloc (.cells #[] 5)) wr.heap.size x (bv bs) from (hrx.mono hB.size).below ((below_drew (Below.refl _ _)).alloc (Nat.le_refl _) _)) hadw))
      have HL2 := Lib.hid (show (ad.add (j * 2)).block < w.heap.size by rw [add_block]; exact had)
      have HC2 := Lib.hid (show w.cell? (ad.add (j * 2)) = some (.string nm) ∧ w.cell? ⟨(ad.add (j * 2)).block, (ad.add (j * 2)).off + 1, none⟩ = some (.slice x m cx) from ⟨(hB.cell HL2.out).symm.trans c0, (hB.cell (p := ⟨(ad.add (j * 2)).block, (ad.add (j * 2)).off + 1, none⟩) HL2.out).symm.trans c1⟩)
      have HO := Lib.hid (own_empty wr.drew wr.heap.size 5 1 (Nat.le_refl _))
      have HF := Lib.hid (And.intro hF (And.intro hA hB))
      have HT := Lib.hid (And.intro hlj (And.intro hm hst))
      have hS0 : wr.drew.cell? (ad.add (j * 2)) = some (.string nm) ∧ wr.drew.cell? ⟨(ad.add (j * 2)).block, (ad.add (j * 2)).off + 1, none⟩ = some (.slice x m cx) := ⟨c0, c1⟩
      have hS1 : (wr.drew.alloc (.cells #[] 5)).cell? (ad.add (j * 2)) = some (.string nm) ∧ (wr.drew.alloc (.cells #[] 5)).cell? ⟨(ad.add (j * 2)).block, (ad.add (j * 2)).off + 1, none⟩ = some (.slice x m cx) := ⟨((Below.al wr.drew (.cells #[] 5)).cell hadw).trans c0, ((Below.al wr.drew (.cells #[] 5)).cell (p := ⟨(ad.add (j * 2)).block, (ad.add (j * 2)).off + 1, none⟩) hadw).trans c1⟩
      clear hF hA hB hp hst hlj hrx c0 c1 had hm hadw
      go_upto_region 5 with fail
      refine wp_region_held_drew (S := fun w' => w'.cell? (ad.add (j * 2)) = some (.string nm) ∧ w'.cell? ⟨(ad.add (j * 2)).block, (ad.add (j * 2)).off + 1, none⟩ = some (.slice x m cx)) (by kernel_rfl) hS0 fun _ => ?_
      refine hold_take 0 (v := ?_) rfl (by kernel_rfl) (by kernel_rfl) (by kernel_rfl) (fun _ _ _ h => h) (Or.inl ⟨by rfl, ?hy⟩) hS0 ?_
      case hy => first | (intro w hSw; go_simp; done) | (intro w hSw; go_simp; with_reducible rfl)
      simp only [Act.put, List.setIfInBounds_toArray, List.set_cons_zero, List.set_cons_succ]
      refine hold_take 1 (v := ?_) rfl (by kernel_rfl) (by kernel_rfl) (by kernel_rfl) (fun _ _ _ h => h) (Or.inl ⟨by rfl, ?hy⟩) hS0 ?_
      case hy => first | (intro w hSw; go_simp; done) | (intro w hSw; go_simp; with_reducible rfl)
      simp only [Act.put, List.setIfInBounds_toArray, List.set_cons_zero, List.set_cons_succ]
      refine hold_take 2 (v := ?_) rfl (by kernel_rfl) (by kernel_rfl) (by kernel_rfl) (fun _ _ _ h => h) (Or.inl ⟨by rfl, ?hy⟩) hS0 ?_
      case hy => first | (intro w hSw; go_simp; done) | (intro w hSw; go_simp; with_reducible rfl)
      simp only [Act.put, List.setIfInBounds_toArray, List.set_cons_zero, List.set_cons_succ]
      refine hold_take 3 (v := ?_) rfl (by kernel_rfl) (by kernel_rfl) (by kernel_rfl) (fun _ _ _ h => h) (Or.inl ⟨by rfl, ?hy⟩) hS0 ?_
      case hy => first | (intro w hSw; go_simp; done) | (intro w hSw; go_simp; with_reducible rfl)
      simp only [Act.put, List.setIfInBounds_toArray, List.set_cons_zero, List.set_cons_succ]
      refine hold_take 4 (v := ?_) rfl (by kernel_rfl) (by kernel_rfl) (by kernel_rfl) (fun _ _ _ h => h) (Or.inl ⟨by rfl, ?hy⟩) hS0 ?_
      case hy => first | (intro w hSw; go_simp; done) | (intro w hSw; go_simp; with_reducible rfl)
      simp only [Act.put, List.setIfInBounds_toArray, List.set_cons_zero, List.set_cons_succ]
      refine hold_take 5 (v := ?_) rfl (by kernel_rfl) (by kernel_rfl) (by kernel_rfl) (fun _ _ _ h => h) (Or.inl ⟨by rfl, ?hy⟩) hS0 ?_
      case hy => first | (intro w hSw; go_simp; done) | (intro w hSw; go_simp; with_reducible rfl)
      simp only [Act.put, List.setIfInBounds_toArray, List.set_cons_zero, List.set_cons_succ]
      refine hold_take 7 (v := ?_) rfl (by kernel_rfl) (by kernel_rfl) (by kernel_rfl) (fun _ _ _ h => h) (Or.inl ⟨by rfl, ?hy⟩) hS0 ?_
      case hy => first | (intro w hSw; go_simp; done) | (intro w hSw; go_simp; with_reducible rfl)
      simp only [Act.put, List.setIfInBounds_toArray, List.set_cons_zero, List.set_cons_succ]
      refine hold_take 8 (v := ?_) rfl (by kernel_rfl) (by kernel_rfl) (by kernel_rfl) (fun _ _ _ h => h) (Or.inl ⟨by rfl, ?hy⟩) hS0 ?_
      case hy => first | (intro w hSw; go_simp; done) | (intro w hSw; go_simp; with_reducible rfl)
      simp only [Act.put, List.setIfInBounds_toArray, List.set_cons_zero, List.set_cons_succ]
      refine hold_take 9 (v := ?_) rfl (by kernel_rfl) (by kernel_rfl) (by kernel_rfl) (fun _ _ _ h => h) (Or.inl ⟨by rfl, ?hy⟩) hS0 ?_
      case hy => first | (intro w hSw; go_simp; done) | (intro w hSw; go_simp; with_reducible rfl)
      simp only [Act.put, List.setIfInBounds_toArray, List.set_cons_zero, List.set_cons_succ]
      refine hold_take 10 (v := ?_) rfl (by kernel_rfl) (by kernel_rfl) (by kernel_rfl) (fun _ _ _ h => h) (Or.inl ⟨by rfl, ?hy⟩) hS0 ?_
      case hy => first | (intro w hSw; go_simp; done) | (intro w hSw; go_simp; with_reducible rfl)
      simp only [Act.put, List.setIfInBounds_toArray, List.set_cons_zero, List.set_cons_succ]
      refine hold_take 11 (v := ?_) rfl (by kernel_rfl) (by kernel_rfl) (by kernel_rfl) (fun _ _ _ h => h) (Or.inl ⟨by rfl, ?hy⟩) hS0 ?_
      case hy => first | (intro w hSw; go_simp; done) | (intro w hSw; go_simp; with_reducible rfl)
      simp only [Act.put, List.setIfInBounds_toArray, List.set_cons_zero, List.set_cons_succ]
      refine hold_step 6 rfl (by kernel_rfl) fun K hK => ?_
      go_simp
      refine hK.out _ _ hS1 ?_
      clear hK K
      try simp only [Act.put, List.setIfInBounds_toArray, List.set_cons_zero, List.set_cons_succ]
      refine hold_step 12 rfl (by kernel_rfl) fun K hK => ?_
      refine step_app _ (by rfl) (.tmp 17) (.tmp 22) 22 (by rfl) wr.heap.size 5 i1 _ 1 1 Try.underlying22 hi1 hz1 hs1 hy1 rfl (by omega) (.slice (some ⟨wr.heap.size, 0, none⟩) 0 0) 0 [] (by rfl) HO.out wr.heap.size x m cx (bv bs) (by rfl) HL.out.1 HL.out.2.1 (one_bv _) (by unfold maxLen; omega) (by omega) (by simp) ?_
      intro v' w6 hown hg hor
      rw [Nat.zero_add, List.nil_append] at hown
      obtain ⟨b6, c6, rfl⟩ := row_slice hown
      have hb6 : Below wr.heap.size wr w6 := ((below_drew (Below.refl _ _)).alloc (Nat.le_refl _) _).grown hg (by simp) (by simp [Value.ownBlock])
      have hA6 := image_add (n := nm) HF.out.1 HF.out.2.2.size hb6 hown
      have hP6 := HF.out.2.1.add HF.out.1 hown
      have hS2 : w6.cell? (ad.add (j * 2)) = some (.string nm) ∧ w6.cell? ⟨(ad.add (j * 2)).block, (ad.add (j * 2)).off + 1, none⟩ = some (.slice x m cx) := ⟨(hb6.cell HL.out.2.2).trans HC.out.1, (hb6.cell (p := ⟨(ad.add (j * 2)).block, (ad.add (j * 2)).off + 1, none⟩) HL.out.2.2).trans HC.out.2⟩
      have hS3 : (w6.alloc (.cells #[.string nm, .slice b6 m c6] 37)).cell? (ad.add (j * 2)) = some (.string nm) ∧ (w6.alloc (.cells #[.string nm, .slice b6 m c6] 37)).cell? ⟨(ad.add (j * 2)).block, (ad.add (j * 2)).off + 1, none⟩ = some (.slice x m cx) := ⟨(hA6.2.2.1.cell HL.out.2.2).trans HC.out.1, (hA6.2.2.1.cell (p := ⟨(ad.add (j * 2)).block, (ad.add (j * 2)).off + 1, none⟩) HL.out.2.2).trans HC.out.2⟩
      have H6 := Lib.hid (And.intro hA6 hP6)
      clear hown hg hor hb6 hA6 hP6 hS1
      try simp only [Act.put, List.setIfInBounds_toArray, List.set_cons_zero, List.set_cons_succ]
      refine hK.out _ _ hS2 ?_
      clear hK K
      refine hold_take 13 (v := ?_) rfl (by kernel_rfl) (by kernel_rfl) (by kernel_rfl) (fun _ _ _ h => h) (Or.inl ⟨by rfl, ?hy⟩) hS2 ?_
      case hy => first | (intro w hSw; go_simp; done) | (intro w hSw; go_simp; with_reducible rfl)
      simp only [Act.put, List.setIfInBounds_toArray, List.set_cons_zero, List.set_cons_succ]
      refine hold_step 14 rfl (by kernel_rfl) fun K hK => ?_
      go_simp
      refine hK.out _ _ hS3 ?_
      clear hK K
      try simp only [Act.put, List.setIfInBounds_toArray, List.set_cons_zero, List.set_cons_succ]
      refine hold_step 15 rfl (by kernel_rfl) fun K hK => ?_
      refine step_app _ (by rfl) (.tmp 11) (.tmp 25) 31 (by rfl) w.heap.size 37 i2 _ 2 40 Try.underlying31 hi2 hz2 hs2 hy2 rfl (by omega) (.slice fb10 j fc10) j _ (by rfl) (by have := H6.out.1.1.2.1; rw [HT.out.1] at this; exact this) _ _ 1 1 [.string nm, .slice b6 m c6] (by rfl) rfl (rd_new _ _ _) (by simp [Value.oneCell']) (by unfold maxLen; omega) (by omega) (by have := H6.out.1.2.2.2; simp; omega) ?_
      intro v' w8 hown hg8 hor
      have hst := image_step (pp := fs.take j) (bs := bs) HF.out.2.2 HT.out.2.1 H6.out.1.1 H6.out.1.2.1 H6.out.1.2.2.1 (by rw [HT.out.1]; exact hown) hg8
      have hS4 : w8.cell? (ad.add (j * 2)) = some (.string nm) ∧ w8.cell? ⟨(ad.add (j * 2)).block, (ad.add (j * 2)).off + 1, none⟩ = some (.slice x m cx) := ⟨(hst.2.cell HL2.out).trans HC2.out.1, (hst.2.cell (p := ⟨(ad.add (j * 2)).block, (ad.add (j * 2)).off + 1, none⟩) HL2.out).trans HC2.out.2⟩
      have H8 := Lib.hid hst
      clear hown hg8 hor hst hS3
      try simp only [Act.put, List.setIfInBounds_toArray, List.set_cons_zero, List.set_cons_succ]
      refine hK.out _ _ hS4 ?_
      clear hK K
      refine hold_take 16 (v := ?_) rfl (by kernel_rfl) (by kernel_rfl) (by kernel_rfl) (fun _ _ _ h => h) (Or.inl ⟨by rfl, ?hy⟩) hS4 ?_
      case hy => first | (intro w hSw; go_simp; done) | (intro w hSw; go_simp; with_reducible rfl)
      simp only [Act.put, List.setIfInBounds_toArray, List.set_cons_zero, List.set_cons_succ]
      refine wpAnyH_done (by kernel_rfl) ?_ _
      go_wp2
      go_roundw
      case rel => exact ⟨j + 1, us ++ [.slice b6 m c6], by omega, by go_num, by rw [HT.out.2.2]; exact H8.out.1, H6.out.2, H8.out.2⟩
      case measure => simp [intOf]; omega
    · have hin : n = j := by omega
      subst hin
      have hlk : fs.take n = fs := by rw [← H.out.2.1]; exact List.take_length
      rw [hlk] at hF
      have HE := Lib.hid (And.intro hF (And.intro hA hB))
      clear hF hA hB hlk hlj
      go_wp2
      go_ret
      exact ⟨us, _, _, rfl, ⟨HE.out.1, HE.out.2.1⟩, HE.out.2.2⟩
end Go.Proofs.Ytebeefkibbbkdaa
/- SimfsLoads: the law. -/
namespace Go.Proofs.Ytebeefkibbbkdaa
open Go.RowKit Go.Maps

set_option maxRecDepth 100000 in
set_option maxHeartbeats 16000000 in
theorem loads_no3 (q : Int) (A A2 : Option Addr) (n c n2 c2 : Nat) (fs : List FE) (W : World) (hI : IM W W.heap.size A fs) (hn : fs.length = n) (hnm : n ≤ 1048576) (hb : ∀ p ∈ fs, p.2.length ≤ 1048576)
    (hL : ∀ (w : World) (Ax : Option Addr) (cx : Nat), IM w w.heap.size Ax fs → Calls Try.prog 14 #[.slice Ax n cx, .int .i64 q] w fun e w' => e = .returned (.tuple #[.pointer none, .int .i64 3]) ∧ Below w.heap.size w w')
    (hR : ∀ (w : World) (Ax : Option Addr) (cx : Nat), IM w w.heap.size Ax fs → Calls Try.prog 15 #[.slice Ax n cx, .int .i64 q] w fun e w' => e = .returned (.tuple #[.pointer none, .int .i64 3]) ∧ Below w.heap.size w w') :
    Calls Try.prog 4 #[.slice A n c, .int .i64 q, .slice A2 n2 c2] W fun e w' => e = .returned (.bool true) ∧ Below W.heap.size W w' := by
  have H := Lib.hid (And.intro hI (And.intro hn (And.intro hb (And.intro hL hR))))
  clear hI hn hb hL hR
  go_enter Try.func4, Try.ntmps4
  go_wp2_with (first
    | (go_at_call 13
       refine (twin_any A n c fs W H.out.1 H.out.2.1 (by omega) (fun p hp => Nat.le_trans (H.out.2.2.1 p hp) (by decide))).mono ?_
       rintro e w1 ⟨us, bx, cx, rfl, ⟨hf, _⟩, hb1⟩
       have qX := Lib.hid (show IM w1 w1.heap.size bx fs from hf.flq.im)
       have B1 := Lib.hid hb1
       clear hf hb1)
    | (go_at_call 14
       refine (H.out.2.2.2.1 _ bx cx qX.out).mono ?_
       rintro e w2 ⟨rfl, hb2⟩
       have qX2 := Lib.hid (qX.out.next hb2)
       have B2 := Lib.hid (B1.out.trans (hb2.mono B1.out.size))
       clear hb2)
    | (go_at_call 15
       refine (H.out.2.2.2.2 _ A c ((H.out.1.below B2.out).mono B2.out.size)).mono ?_
       rintro e w3 ⟨rfl, hb3⟩
       have qX3 := Lib.hid (qX2.out.next hb3)
       have B3 := Lib.hid (B2.out.trans (hb3.mono B2.out.size))
       clear hb3)
    | (go_at_call 16
       refine (sameImage_any bx A n cx n c fs fs _ H.out.2.1 H.out.2.1 qX3.out ((H.out.1.below B3.out).mono B3.out.size) (by omega) (by omega) (fun p hp => Nat.le_trans (H.out.2.2.1 p hp) (by decide)) (fun p hp => Nat.le_trans (H.out.2.2.1 p hp) (by decide))).mono ?_
       rintro e w4 ⟨rfl, kq, hwq⟩
       rw [show decide (fs = fs) = true from decide_eq_true rfl]
       have B4 := Lib.hid (show Below W.heap.size W w4 by rw [hwq]; exact below_drewN B3.out kq)
       clear hwq))
  go_ret
  exact ⟨rfl, B4.out⟩
set_option maxRecDepth 100000 in
set_option maxHeartbeats 16000000 in
theorem loads_no35 (q : Int) (A A2 : Option Addr) (n c n2 c2 : Nat) (fs : List FE) (W : World) (hI : IM W W.heap.size A fs) (hn : fs.length = n) (hnm : n ≤ 1048576) (hb : ∀ p ∈ fs, p.2.length ≤ 1048576)
    (hL : ∀ (w : World) (Ax : Option Addr) (cx : Nat), IM w w.heap.size Ax fs → Calls Try.prog 14 #[.slice Ax n cx, .int .i64 q] w fun e w' => e = .returned (.tuple #[.pointer none, .int .i64 35]) ∧ Below w.heap.size w w')
    (hR : ∀ (w : World) (Ax : Option Addr) (cx : Nat), IM w w.heap.size Ax fs → Calls Try.prog 15 #[.slice Ax n cx, .int .i64 q] w fun e w' => e = .returned (.tuple #[.pointer none, .int .i64 35]) ∧ Below w.heap.size w w') :
    Calls Try.prog 4 #[.slice A n c, .int .i64 q, .slice A2 n2 c2] W fun e w' => e = .returned (.bool true) ∧ Below W.heap.size W w' := by
  have H := Lib.hid (And.intro hI (And.intro hn (And.intro hb (And.intro hL hR))))
  clear hI hn hb hL hR
  go_enter Try.func4, Try.ntmps4
  go_wp2_with (first
    | (go_at_call 13
       refine (twin_any A n c fs W H.out.1 H.out.2.1 (by omega) (fun p hp => Nat.le_trans (H.out.2.2.1 p hp) (by decide))).mono ?_
       rintro e w1 ⟨us, bx, cx, rfl, ⟨hf, _⟩, hb1⟩
       have qX := Lib.hid (show IM w1 w1.heap.size bx fs from hf.flq.im)
       have B1 := Lib.hid hb1
       clear hf hb1)
    | (go_at_call 14
       refine (H.out.2.2.2.1 _ bx cx qX.out).mono ?_
       rintro e w2 ⟨rfl, hb2⟩
       have qX2 := Lib.hid (qX.out.next hb2)
       have B2 := Lib.hid (B1.out.trans (hb2.mono B1.out.size))
       clear hb2)
    | (go_at_call 15
       refine (H.out.2.2.2.2 _ A c ((H.out.1.below B2.out).mono B2.out.size)).mono ?_
       rintro e w3 ⟨rfl, hb3⟩
       have qX3 := Lib.hid (qX2.out.next hb3)
       have B3 := Lib.hid (B2.out.trans (hb3.mono B2.out.size))
       clear hb3)
    | (go_at_call 16
       refine (sameImage_any bx A n cx n c fs fs _ H.out.2.1 H.out.2.1 qX3.out ((H.out.1.below B3.out).mono B3.out.size) (by omega) (by omega) (fun p hp => Nat.le_trans (H.out.2.2.1 p hp) (by decide)) (fun p hp => Nat.le_trans (H.out.2.2.1 p hp) (by decide))).mono ?_
       rintro e w4 ⟨rfl, kq, hwq⟩
       rw [show decide (fs = fs) = true from decide_eq_true rfl]
       have B4 := Lib.hid (show Below W.heap.size W w4 by rw [hwq]; exact below_drewN B3.out kq)
       clear hwq))
  go_ret
  exact ⟨rfl, B4.out⟩
set_option maxRecDepth 100000 in
set_option maxHeartbeats 16000000 in
theorem loads_no36 (q : Int) (A A2 : Option Addr) (n c n2 c2 : Nat) (fs : List FE) (W : World) (hI : IM W W.heap.size A fs) (hn : fs.length = n) (hnm : n ≤ 1048576) (hb : ∀ p ∈ fs, p.2.length ≤ 1048576)
    (hL : ∀ (w : World) (Ax : Option Addr) (cx : Nat), IM w w.heap.size Ax fs → Calls Try.prog 14 #[.slice Ax n cx, .int .i64 q] w fun e w' => e = .returned (.tuple #[.pointer none, .int .i64 36]) ∧ Below w.heap.size w w')
    (hR : ∀ (w : World) (Ax : Option Addr) (cx : Nat), IM w w.heap.size Ax fs → Calls Try.prog 15 #[.slice Ax n cx, .int .i64 q] w fun e w' => e = .returned (.tuple #[.pointer none, .int .i64 36]) ∧ Below w.heap.size w w') :
    Calls Try.prog 4 #[.slice A n c, .int .i64 q, .slice A2 n2 c2] W fun e w' => e = .returned (.bool true) ∧ Below W.heap.size W w' := by
  have H := Lib.hid (And.intro hI (And.intro hn (And.intro hb (And.intro hL hR))))
  clear hI hn hb hL hR
  go_enter Try.func4, Try.ntmps4
  go_wp2_with (first
    | (go_at_call 13
       refine (twin_any A n c fs W H.out.1 H.out.2.1 (by omega) (fun p hp => Nat.le_trans (H.out.2.2.1 p hp) (by decide))).mono ?_
       rintro e w1 ⟨us, bx, cx, rfl, ⟨hf, _⟩, hb1⟩
       have qX := Lib.hid (show IM w1 w1.heap.size bx fs from hf.flq.im)
       have B1 := Lib.hid hb1
       clear hf hb1)
    | (go_at_call 14
       refine (H.out.2.2.2.1 _ bx cx qX.out).mono ?_
       rintro e w2 ⟨rfl, hb2⟩
       have qX2 := Lib.hid (qX.out.next hb2)
       have B2 := Lib.hid (B1.out.trans (hb2.mono B1.out.size))
       clear hb2)
    | (go_at_call 15
       refine (H.out.2.2.2.2 _ A c ((H.out.1.below B2.out).mono B2.out.size)).mono ?_
       rintro e w3 ⟨rfl, hb3⟩
       have qX3 := Lib.hid (qX2.out.next hb3)
       have B3 := Lib.hid (B2.out.trans (hb3.mono B2.out.size))
       clear hb3)
    | (go_at_call 16
       refine (sameImage_any bx A n cx n c fs fs _ H.out.2.1 H.out.2.1 qX3.out ((H.out.1.below B3.out).mono B3.out.size) (by omega) (by omega) (fun p hp => Nat.le_trans (H.out.2.2.1 p hp) (by decide)) (fun p hp => Nat.le_trans (H.out.2.2.1 p hp) (by decide))).mono ?_
       rintro e w4 ⟨rfl, kq, hwq⟩
       rw [show decide (fs = fs) = true from decide_eq_true rfl]
       have B4 := Lib.hid (show Below W.heap.size W w4 by rw [hwq]; exact below_drewN B3.out kq)
       clear hwq))
  go_ret
  exact ⟨rfl, B4.out⟩
/-- Both disks, made of an image: T bytes at most. -/
structure Ld2 (W w : World) (S : Nat → Prop) (d : Nat) (L : Nat → Nat) (rb E : Nat) (s : Dk) (N : Nat) : Prop where
  lv : Lv W w S d s N
  rd : RDk w L rb s
  lw : ∀ b, L b ≠ 0 → E ≤ b
  sw : ∀ b, S b → E ≤ b
  ap : ∀ b, S b → L b = 0
theorem Ld2.far {W w w' : World} {S : Nat → Prop} {d rb E N : Nat} {L : Nat → Nat} {s : Dk} (h : Ld2 W w S d L rb E s N) (hc : Chg (fun b => W.heap.size ≤ b ∧ b < E) w w') : Ld2 W w' S d L rb E s N :=
  ⟨h.lv.far hc (fun b hb h2 => by have := h.sw b hb; omega) (fun b hb => hb.1), h.rd.chgq hc fun b hb => Classical.byContradiction fun hne => by have := h.lw b hne; omega, h.lw, h.sw, h.ap⟩
set_option maxRecDepth 100000 in
set_option maxHeartbeats 16000000 in
theorem loads_yes (q : Int) (A A2 : Option Addr) (n c n2 c2 : Nat) (fs : List FE) (l : List SC) (W : World) (hI : IM W W.heap.size A fs) (hn : fs.length = n) (hb : ∀ p ∈ fs, p.2.length ≤ 1048576) (hsum : sumL fs ≤ 1048576) (hld : LdOk q fs)
    (hA : Stp W W.heap.size A2 l) (hn2 : l.length = n2) (hnm2 : n2 ≤ 900000) (hO : ScOk l) :
    Calls Try.prog 4 #[.slice A n c, .int .i64 q, .slice A2 n2 c2] W fun e w' => e = .returned (.bool true) ∧ Below W.heap.size W w' := by
  have hnm : n ≤ 65536 := by rw [← hn]; exact hld.few
  have H := Lib.hid (And.intro hI (And.intro hn (And.intro hb (And.intro hsum hld))))
  have HA := Lib.hid (And.intro hA (And.intro hn2 hO))
  clear hI hn hb hsum hld hA hn2 hO
  go_enter Try.func4, Try.ntmps4
  go_wp2_with (first
    | (go_at_call 13
       refine (twin_any A n c fs W H.out.1 H.out.2.1 (by omega) (fun p hp => Nat.le_trans (H.out.2.2.1 p hp) (by decide))).mono ?_
       rintro e w1 ⟨us, bx, cx, rfl, ⟨hf, _⟩, hb1⟩
       have qX := Lib.hid hf.flq
       have B1 := Lib.hid hb1
       clear hf hb1)
    | (go_at_call 14
       refine (lv_loadQ (W := W) (N := 65536) B1.out H.out.2.2.2.2 H.out.2.1 qX.out.im (by rw [H.out.2.1]; exact hnm)).mono ?_
       rintro e w2 ⟨d, S, rfl, hl2, hs2, hb2⟩
       have qX2 := Lib.hid (qX.out.next hb2)
       have B2 := Lib.hid (B1.out.trans (hb2.mono B1.out.size))
       have L2 := Lib.hid (And.intro hl2 (And.intro hs2 hb2.size))
       clear hb2 hl2 hs2)
    | (go_at_call 15
       refine (loadR_ok q fs A n c _ H.out.2.2.2.2 H.out.2.1 ((H.out.1.below B2.out).mono B2.out.size)).mono ?_
       rintro e w3 ⟨rb, L, rfl, hr3, hl3, hb3⟩
       have qX3 := Lib.hid (qX2.out.next hb3)
       have B3 := Lib.hid (B2.out.trans (hb3.mono B2.out.size))
       have L3 := Lib.hid (show Ld2 W w3 S d L rb w1.heap.size (ldS q fs) 65536 from ⟨L2.out.1.next hb3, hr3, fun b hb => Nat.le_trans L2.out.2.2 (hl3 b hb), L2.out.2.1, fun b hb => Classical.byContradiction fun hne => by have := hl3 b hne; have := L2.out.1.lt b hb; omega⟩)
       clear hb3 hr3 hl3)
    | (go_at_call 16
       refine (sameImage_any bx A n cx n c fs fs _ H.out.2.1 H.out.2.1 qX3.out.im ((H.out.1.below B3.out).mono B3.out.size) (by omega) (by omega) (fun p hp => Nat.le_trans (H.out.2.2.1 p hp) (by decide)) (fun p hp => Nat.le_trans (H.out.2.2.1 p hp) (by decide))).mono ?_
       rintro e w4 ⟨rfl, kq, hwq⟩
       rw [show decide (fs = fs) = true from decide_eq_true rfl]
       have hb4 : Below w3.heap.size w3 w4 := by rw [hwq]; exact below_drewN (Below.refl _ _) kq
       have qX4 := Lib.hid (qX3.out.next hb4)
       have L4 := Lib.hid (show Ld2 W w4 S d L rb w1.heap.size (ldS q fs) 65536 from ⟨L3.out.lv.next hb4, L3.out.rd.next hb4, L3.out.lw, L3.out.sw, L3.out.ap⟩)
       clear hwq hb4))
  have hG := qX4.out.f.gn
  obtain ⟨ls, hls⟩ : ∃ ls, (fs.map fun p : FE => p.2.length) = ls := ⟨_, rfl⟩
  rw [hls] at hG
  have hlsn : ls.length = n := by rw [← hls, List.length_map]; exact H.out.2.1
  have hlsm : ∀ (i l : Nat), ls[i]? = some l → l ≤ 1048576 := fun i l hl => by
    rw [← hls, List.getElem?_map] at hl
    cases hp : fs[i]? with
    | none => rw [hp] at hl; cases hl
    | some p => rw [hp] at hl; injection hl with hl; subst hl; exact H.out.2.2.1 p (List.mem_of_getElem? hp)
  have H5 := Lib.hid (And.intro hlsn (And.intro hlsm (And.intro qX4.out.e1 (And.intro qX4.out.e2 hG))))
  clear hls hlsn hlsm hG
  go_loopw [12] (fun v3 wr => ∃ i : Nat, i ≤ n ∧ v3 = .int .i64 i ∧ Gn wr W.heap.size ls us (.slice bx n cx) ∧ Chg (fun b => W.heap.size ≤ b ∧ b < w1.heap.size) w4 wr) (fun v3 _ => n - (intOf v3).toNat)
  case atStart => exact ⟨0, Nat.zero_le _, rfl, H5.out.2.2.2.2, Chg.refl _ _⟩
  case round =>
    obtain ⟨i, hi, rfl, hG, hC⟩ := hrel
    by_cases hlt : i < n
    · have hi0 : (0 : Int) ≤ i := by omega
      have hi1' : (i : Int) < n := by omega
      obtain ⟨m, hl⟩ : ∃ m, ls[i]? = some m := ⟨_, List.getElem?_eq_getElem (by rw [H5.out.1]; exact hlt)⟩
      obtain ⟨u, hu⟩ : ∃ u, us[i]? = some u := ⟨_, List.getElem?_eq_getElem (by rw [hG.ul, H5.out.1]; exact hlt)⟩
      obtain ⟨ub, uc, xs0, rfl, hx0⟩ := hG.f i m u hl hu
      have hlm := H5.out.2.1 i m hl
      have hcap := row_cap hx0
      obtain ⟨g0, rfl⟩ : ∃ g0, bx = some ⟨g0, 0, none⟩ := by
        obtain ⟨ns, _, hr⟩ := hG.r
        rw [H5.out.1] at hr
        obtain ⟨g, c', e, _⟩ := Own.of_row hr (by omega)
        injection e with e1
        exact ⟨g, e1⟩
      have HCC : Hid (∀ (v : World), Gn v W.heap.size ls us (.slice (some ⟨g0, 0, none⟩) n cx) → (∃ nm, v.cell? ⟨g0, i * 2, none⟩ = some (.string nm)) ∧ v.cell? ⟨g0, i * 2 + 1, none⟩ = some (.slice ub m uc) ∧ v.frozen? ⟨g0, i * 2, none⟩ = false ∧ g0 < v.heap.size) := fun v hv => by
        obtain ⟨ns, e, hr⟩ := hv.r
        rw [H5.out.1] at hr
        have hnl : ns[i]? = some (ns[i]'(by have := congrArg List.length e; rw [List.length_map, hv.ul, H5.out.1] at this; omega)) := List.getElem?_eq_getElem _
        obtain ⟨p, hp⟩ : ∃ p, ns[i]? = some p := ⟨_, hnl⟩
        obtain ⟨h1, h2⟩ := nc_get ns i p hp
        have hp2 : p.2 = .slice ub m uc := by
          have := hu
          rw [← e, List.getElem?_map, hp] at this
          injection this
        rw [hp2] at h2
        exact ⟨⟨_, (row_at2 hr (by omega) h1).1⟩, (row_at2 hr (by omega) h2).1, (row_at2 hr (by omega) h1).2, (hr.lt g0 rfl).2⟩
      obtain ⟨⟨nm0, hc0⟩, hc1, hcf, hcl⟩ := HCC.out wr hG
      have HI := Lib.hid (And.intro hl (And.intro hu (And.intro hG hC)))
      clear hl hG hC hc0 hcf hcl hx0
      go_wp2
      go_loopw [13] (fun v4 wx => ∃ k : Nat, k ≤ m ∧ v4 = .int .i64 k ∧ Gn wx W.heap.size ls us (.slice (some ⟨g0, 0, none⟩) n cx) ∧ Chg (fun b => W.heap.size ≤ b ∧ b < w1.heap.size) w4 wx) (fun v4 _ => m - (intOf v4).toNat)
      case atStart => exact ⟨0, Nat.zero_le _, rfl, HI.out.2.2.1, HI.out.2.2.2⟩
      case round =>
        obtain ⟨k, hk, rfl, hG, hC⟩ := hrel
        clear hc1
        obtain ⟨⟨nm1, hd0⟩, hc1, hdf, hdl⟩ := HCC.out _ hG
        by_cases hkl : k < m
        · obtain ⟨ub', uc', xs1, e, hx1⟩ := hG.f i m _ HI.out.1 HI.out.2.1
          injection e with e1 _ e2
          subst e1 e2
          obtain ⟨gb, cb, e, _, _, ho⟩ := Own.of_row hx1 (by omega)
          injection e with e1 _ e2
          subst e1 e2
          have hk0 : (0 : Int) ≤ k := by omega
          have hk1 : (k : Int) < m := by omega
          have hxl : xs1.length = m := by have := hx1.1; simpa using this
          obtain ⟨x0, hx0⟩ : ∃ x0, wr.cell? ⟨gb, k, none⟩ = some x0 := ⟨_, ho.cell (i := k) (by omega)⟩
          have hxf := ho.free k
          have hgl := ho.lt
          have hgB := ho.1
          have hgE := H5.out.2.2.2.1 i _ HI.out.2.1 gb rfl
          have HW := Lib.hid (And.intro hG (And.intro hC (And.intro hx1 (And.intro hgB hgE))))
          clear hG hC hx1 ho hxl hd0 hdf hdl
          go_wp2
          go_roundw
          case rel =>
            obtain ⟨k1, k2, k3, k4, k5⟩ := HW.out
            refine ⟨k + 1, by omega, by go_num, k1.some_ (fun u m xs hx => row_some_set hx gb k _) (fun b hb => ?_), k2.setCell (p := ⟨gb, k, none⟩) (.inl ⟨k4, k5⟩) _⟩
            obtain ⟨ns, _, hr⟩ := k1.r
            exact Below.heap_setCell _ ⟨gb, k, none⟩ _ b fun e => row_apart k3 hr (show (5 : TypeId) ≠ 37 by decide) rfl (by rw [hb, e])
          case measure => simp [intOf]; omega
        · have HR := Lib.hid (And.intro hG hC)
          clear hG hC
          go_wp2
          go_roundw
          case rel =>
            have hg0 := H5.out.2.2.1 g0 rfl
            obtain ⟨ns, _, hrr⟩ := HR.out.1.r
            have hgB := (hrr.lt g0 rfl).1
            exact ⟨i + 1, by omega, by go_num, HR.out.1.name (by rw [H5.out.1]; exact hlt) _, HR.out.2.setCell (p := ⟨g0, i * 2, none⟩) (.inl ⟨hgB, hg0⟩) _⟩
          case measure => simp [intOf]; omega
    · have L6 := Lib.hid (L4.out.far hC)
      have H6 := Lib.hid (show Gs W (wr.alloc (.cells #[.pointer (some ⟨d, 0, none⟩), .pointer (some ⟨rb, 0, none⟩)] 49)) wr.heap.size (1048576 + sumTo l 0) (65536 + 0) from
        Gs.made L6.out.lv L6.out.rd (fun b hb => Nat.le_trans B1.out.size (L6.out.lw b hb)) L6.out.ap (ld_bd H.out.2.2.2.2 (Nat.le_trans H.out.2.2.2.1 (Nat.le_add_right _ _)) (by rw [H.out.2.1]; exact hnm)))
      clear hG hC
      go_wp2_with (first
        | (go_at_call 17
           refine (H6.out.facts (by omega)).mono ?_
           rintro e w7 ⟨rfl, g7⟩
           have H7 := Lib.hid g7
           clear g7))
      go_loopw [15] (fun i wx => ∃ (j : Nat), j ≤ n2 ∧ i = .int .i64 j ∧ Gs W wx wr.heap.size (1048576 + sumTo l j) (65536 + j)) (fun i _ => n2 - (intOf i).toNat)
      case atStart => exact ⟨0, Nat.zero_le _, rfl, H7.out⟩
      case round =>
        obtain ⟨j, hj, rfl, hL⟩ := hrel
        by_cases hlt2 : j < n2
        · have hk0 : (0 : Int) ≤ j := by omega
          have hk1 : (j : Int) < n2 := by omega
          obtain ⟨st, hst⟩ : ∃ st, l[j]? = some st := ⟨_, List.getElem?_eq_getElem (by rw [HA.out.2.1]; exact hlt2)⟩
          obtain ⟨ad, rfl, had, c0, c1, c2, c3, c4, c5, c6, _⟩ := (HA.out.1.below hL.bel).step hst
          have HT := sumTo_le l (j + 1)
          have HT2 := sumTo_le l j
          have hTs := HA.out.2.2.sum
          have HS := Lib.hid (hL.step (by omega) (by omega) (by omega) (HA.out.1.2 st (List.mem_of_getElem? hst)) (HA.out.2.2.pc st (List.mem_of_getElem? hst)) (HA.out.2.2.ps st (List.mem_of_getElem? hst)) (HA.out.2.2.bs st (List.mem_of_getElem? hst)) (HA.out.2.2.y st (List.mem_of_getElem? hst)))
          rw [Nat.add_assoc, ← sumTo_succ hst] at HS
          clear HT HT2 hTs had hst
          obtain ⟨k, nm, nt, x, y, Ab, bs, cb, Ap, ps, cp⟩ := st
          obtain ⟨nb, hnb⟩ : ∃ nb, bs.length = nb := ⟨_, rfl⟩
          obtain ⟨np, hnp⟩ : ∃ np, ps.length = np := ⟨_, rfl⟩
          dsimp only at c0 c1 c2 c3 c4 c5 c6
          simp only [SC.cells, hnb, hnp] at HS
          rw [hnb] at c5
          rw [hnp] at c6
          clear hnb hnp hL
          go_wp2_with (first
            | (go_at_call 18
               refine HS.out.mono ?_
               rintro e w8 ⟨rfl, g8⟩
               have H8 := Lib.hid g8
               clear g8)
            | (go_at_call 17
               refine (H8.out.facts (by omega)).mono ?_
               rintro e w9 ⟨rfl, g9⟩
               have H9 := Lib.hid g9
               clear g9))
          go_roundw
          case rel => exact ⟨j + 1, by omega, by go_num, H9.out⟩
          case measure => simp [intOf]; omega
        · have hk1 : ¬ (j : Int) < n2 := by omega
          have HL := Lib.hid hL
          clear hL
          go_wp2
          go_ret
          exact ⟨rfl, HL.out.bel⟩
theorem loads_law (q : Int) (A A2 : Option Addr) (n c n2 c2 : Nat) (fs : List FE) (l : List SC) (W : World) (hI : IM W W.heap.size A fs) (hn : fs.length = n) (hnm : n ≤ 1048576) (hsz : ∀ p ∈ fs, p.1.size ≤ maxLen) (hsum : sumL fs ≤ 1048576)
    (hA : Stp W W.heap.size A2 l) (hn2 : l.length = n2) (hnm2 : n2 ≤ 900000) (hO : ScOk l) :
    Calls Try.prog 4 #[.slice A n c, .int .i64 q, .slice A2 n2 c2] W fun e w' => e = .returned (.bool true) ∧ Below W.heap.size W w' := by
  have hb : ∀ p ∈ fs, p.2.length ≤ 1048576 := fun p hp => Nat.le_trans (sumL_mem hp) hsum
  by_cases hq : 0 ≤ q ∧ q ≤ 1073741824
  · by_cases hf : 65536 < n
    · refine loads_no35 q A A2 n c n2 c2 fs W hI hn hnm hb (fun w Ax cx _ => ?_) (fun w Ax cx _ => ?_)
      · have := load_out q Ax n cx w (by omega) (.inr hf); rwa [if_pos hq] at this
      · have := loadR_out q Ax n cx w (by omega) (.inr hf); rwa [if_pos hq] at this
    · rcases ld_split hq (by omega) (Nat.le_trans hsum (by decide)) with h | ⟨g, hg, h, hbad⟩
      · exact loads_yes q A A2 n c n2 c2 fs l W hI hn hb hsum h hA hn2 hnm2 hO
      · exact loads_no36 q A A2 n c n2 c2 fs W hI hn hnm hb (fun w Ax cx hI2 => load_bad q fs g Ax n cx w h (by omega) (by omega) hbad hsz hn hI2) (fun w Ax cx hI2 => loadR_bad q fs g Ax n cx w h (by omega) (by omega) hbad hsz hn hI2)
  · refine loads_no3 q A A2 n c n2 c2 fs W hI hn hnm hb (fun w Ax cx _ => ?_) (fun w Ax cx _ => ?_)
    · have := load_out q Ax n cx w (by omega) (.inl hq); rwa [if_neg hq] at this
    · have := loadR_out q Ax n cx w (by omega) (.inl hq); rwa [if_neg hq] at this
end Go.Proofs.Ytebeefkibbbkdaa
/- A script that came in, opened: the picks' capacities too. -/
namespace Go.Proofs.Ytebeefkibbbkdaa
open Go.RowKit Go.ChangeShapes Go.WideShapes Go.ChangeAt Go.Deep

section
variable {H : Type} {enc : TypeId × Value → H} {P : Program} {w : World} {n : Nat} {t e : TypeId} {c : Value} {y : DataW H × List MemPlace}
theorem op_intsc {k : IntKind} (ht : P.underlying t = some (.slice e)) (he : P.underlying e = some (.int k)) (hc : P.cellsOf e = 1) (h : TR enc P w n t [c] y) :
    ∃ (A : Option Addr) (l : List Int) (cap : Nat), c = .slice A l.length cap ∧ Rd w w.heap.size A (l.map (.int k)) ∧ (∀ x ∈ l, (Lit.int k x).wf = true) ∧ ((y.1 = .nil ∧ l = []) ∨ ∃ el sp, y.1 = .slice el sp ∧ el.length = l.length) ∧ l.length ≤ cap := by
  rcases open_ints ht he hc h with ⟨hcs, hy⟩ | ⟨a, len, cap, zs, hcs, _, hl, hm, hz, hy, hcell, hw⟩
  · refine ⟨none, [], 0, by simpa using hcs, Rd.nil _ _ _, by simp, .inl ⟨by rw [hy], rfl⟩, Nat.le_refl _⟩
  · have hz' : zs.length = cap := by simpa using hz
    have hlen : (zs.take len).length = len := by simp; omega
    refine ⟨some a, zs.take len, cap, by rw [hlen]; simpa using hcs, ?_, fun x hx => hw x (List.mem_of_mem_take hx), .inr ⟨lits k (zs.take len), lits k (zs.drop len), by rw [hy], by simp [lits]⟩, by rw [hlen]; exact hl⟩
    intro j u hj
    obtain ⟨hj1, hj2⟩ := List.getElem?_eq_some_iff.1 hj
    have hjl : j < zs.length := by simp at hj1; omega
    have hc := hcell j hjl
    refine ⟨a, rfl, ?_, ?_⟩
    · rw [← add_block a j]; exact World.block_lt_of_cell? _ _ hc
    · rw [hc, ← hj2]; simp [List.getD_eq_getElem?_getD, List.getElem?_eq_getElem hjl]
end
section
variable {H : Type} {enc : TypeId × Value → H} {w : World}
set_option maxRecDepth 100000 in
theorem step_cap (s : SC) (n : Nat) (y : DataW H × List MemPlace) (h : TR enc Try.prog w n 52 s.cells y) : s.ps.length ≤ s.c2 := by
  obtain ⟨_, ys, n', _, _, hf⟩ := op_fields Try.underlying52 (by kernel_rfl) (by kernel_rfl) h
  obtain ⟨v, z6, e6, y6, t6⟩ := hf 6 _ rfl
  cases e6
  obtain ⟨A, l, c, e, _, _, _, hc⟩ := op_intsc Try.underlying23 Try.underlying3 (by kernel_rfl) t6
  injection e with _ e1 e2
  omega
end
section
variable {H : Type} {enc : TypeId × Value → H} {w : World}
set_option maxRecDepth 100000 in
theorem op_stepsc (n : Nat) (c : Value) (y : DataW H × List MemPlace) (h : TR enc Try.prog w n 39 [c] y) :
    ∃ (A : Option Addr) (l : List SC) (cap : Nat), c = .slice A l.length cap ∧ Stp w w.heap.size A l ∧ (∀ s ∈ l, s.bs.length ≤ Rows.uptoBulk y.1 ∧ s.ps.length ≤ Rows.uptoBulk y.1) ∧ l.length ≤ Rows.uptoBulk y.1 ∧ l.length ≤ cap ∧ ∀ s ∈ l, s.ps.length ≤ s.c2 := by
  rcases open_slice Try.underlying39 h with ⟨hcs, hy⟩ | ⟨a, len, cap, q, n', D, Pl, hcs, _, hl, hm, hq, hy, hi⟩
  · exact ⟨none, [], 0, by simpa using hcs, ⟨Rd.nil _ _ _, by simp⟩, by simp, Nat.zero_le _, Nat.le_refl _, by simp⟩
  · have hq' : q = cap := by simpa using hq
    have hc : Try.prog.cellsOf 52 = 7 := by kernel_rfl
    rw [hc] at hi
    have hf : ∀ s : SC, s.cells.length = 7 := fun _ => rfl
    have hD : ∀ i, i < len → Rows.uptoBulk (D i) ≤ Rows.uptoBulk y.1 := fun i hlt => by
      rw [hy]
      have := bulk_part (show D i ∈ (List.range len).map D from List.mem_map.2 ⟨i, List.mem_range.2 hlt, rfl⟩)
      simp only [Rows.uptoBulk]
      omega
    obtain ⟨l, hll, hlq⟩ := list_choice (Q := fun i (b : SC) => ((b.Ok w w.heap.size ∧ b.bs.length ≤ Rows.uptoBulk y.1 ∧ b.ps.length ≤ Rows.uptoBulk y.1) ∧ b.ps.length ≤ b.c2) ∧ w.cells? 0 (a.add (i * 7)) 7 = some b.cells) len fun i hlt => by
      obtain ⟨cs', h1, h2⟩ := hi i (by omega)
      obtain ⟨b, parts, rfl, hg, e2, _, ⟨d5, e5, b5⟩, d6, e6, b6⟩ := op_step _ _ _ h2
      have hd := hD i hlt
      have e2' : D i = .agg parts := e2
      rw [e2'] at hd
      have h5 := bulk_nth e5
      have h6 := bulk_nth e6
      have g5 := bulk_to b5 (fun h => by rw [h]; rfl)
      have g6 := bulk_to b6 (fun h => by rw [h]; rfl)
      exact ⟨b, ⟨⟨hg, by omega, by omega⟩, step_cap _ _ _ h2⟩, h1⟩
    refine ⟨some a, l, cap, by rw [hll]; simpa using hcs, ⟨?_, fun s hs => ?_⟩, fun s hs => ?_, ?_, by omega, fun s hs => ?_⟩
    · intro j u hj
      obtain ⟨b, h1, h2⟩ := flat_at SC.cells 7 hf l j u hj
      obtain ⟨_, h3⟩ := hlq _ _ h1
      obtain ⟨_, _, h4⟩ := World.cells?_some h3
      have hlt : j % 7 < 7 := Nat.mod_lt _ (by decide)
      have h5 := h4 (j % 7) hlt
      rw [h2, add_add', Nat.mul_comm, Nat.div_add_mod] at h5
      refine ⟨a, rfl, ?_, h5⟩
      rw [← add_block a j]; exact World.block_lt_of_cell? _ _ h5
    · obtain ⟨i, hi', rfl⟩ := List.getElem_of_mem hs
      exact (hlq i _ (List.getElem?_eq_getElem hi')).1.1.1
    · obtain ⟨i, hi', rfl⟩ := List.getElem_of_mem hs
      exact (hlq i _ (List.getElem?_eq_getElem hi')).1.1.2
    · rw [hy, hll]
      have := bulk_len ((List.range len).map D)
      simp only [List.length_map, List.length_range] at this
      simp only [Rows.uptoBulk]
      omega
    · obtain ⟨i, hi', rfl⟩ := List.getElem_of_mem hs
      exact (hlq i _ (List.getElem?_eq_getElem hi')).1.2
end
end Go.Proofs.Ytebeefkibbbkdaa
/- A script that came in, opened: the numbers N too, and all the bytes together. -/
namespace Go.Proofs.Ytebeefkibbbkdaa
open Go.RowKit Go.ChangeShapes Go.WideShapes Go.ChangeAt Go.Deep

theorem bulk_nth_len {H : Type} : ∀ (parts : List (DataW H)) (j : Nat) (d : DataW H), parts[j]? = some d → Rows.uptoBulk d + parts.length ≤ Rows.uptoBulkAll parts + 1
  | [], _, _, h => by simp at h
  | x :: r, 0, d, h => by
    simp only [List.getElem?_cons_zero, Option.some.injEq] at h
    subst h
    have := bulk_len r
    simp only [Rows.uptoBulkAll, List.length_cons]; omega
  | x :: r, j + 1, d, h => by
    have := bulk_nth_len r j d (by simpa using h)
    have := bulk_one x
    simp only [Rows.uptoBulkAll, List.length_cons]; omega
theorem bulk_to1 {H : Type} {d : DataW H} {n : Nat} {p : Prop} (h : (d = .nil ∧ p) ∨ ∃ el sp, d = .slice el sp ∧ el.length = n) (hp : p → n = 0) : n + 1 ≤ Rows.uptoBulk d := by
  rcases h with ⟨_, h⟩ | ⟨el, sp, rfl, h2⟩
  · rw [hp h]; have := bulk_one d; omega
  · have := bulk_len el; simp only [Rows.uptoBulk]; omega
theorem sum_bulk {H : Type} : ∀ (l : List SC) (ds : List (DataW H)), l.length = ds.length → (∀ (i : Nat) (s : SC) (d : DataW H), l[i]? = some s → ds[i]? = some d → s.bs.length + 8 ≤ Rows.uptoBulk d) → (l.map fun s => s.bs.length).sum + 8 * l.length ≤ Rows.uptoBulkAll ds
  | [], _, _, _ => by simp
  | s :: l, [], h, _ => by simp at h
  | s :: l, d :: ds, h, hq => by
    have h1 := hq 0 s d rfl rfl
    have h2 := sum_bulk l ds (by simpa using h) fun i s' d' e1 e2 => hq (i + 1) s' d' (by simpa using e1) (by simpa using e2)
    simp only [List.map_cons, List.sum_cons, List.length_cons, Rows.uptoBulkAll]; omega
section
variable {H : Type} {enc : TypeId × Value → H} {w : World}
set_option maxRecDepth 100000 in
theorem step_y (s : SC) (n : Nat) (y : DataW H × List MemPlace) (h : TR enc Try.prog w n 52 s.cells y) : s.y ≤ 9223372036854775807 := by
  obtain ⟨_, ys, n', _, _, hf⟩ := op_fields Try.underlying52 (by kernel_rfl) (by kernel_rfl) h
  obtain ⟨v, z4, e4, y4, t4⟩ := hf 4 _ rfl
  cases e4
  obtain ⟨x, e, _, hw⟩ := op_int Try.underlying3 t4
  injection e with _ e1
  subst e1
  simp [Lit.wf, IntKind.min, IntKind.max, IntKind.signed, IntKind.bits] at hw
  omega
end
section
variable {H : Type} {enc : TypeId × Value → H} {w : World}
set_option maxRecDepth 100000 in
theorem op_stepsv (n : Nat) (c : Value) (y : DataW H × List MemPlace) (h : TR enc Try.prog w n 39 [c] y) :
    ∃ (A : Option Addr) (l : List SC) (cap : Nat), c = .slice A l.length cap ∧ Stp w w.heap.size A l ∧ (∀ s ∈ l, s.bs.length ≤ Rows.uptoBulk y.1 ∧ s.ps.length ≤ Rows.uptoBulk y.1) ∧ (l.map fun s => s.bs.length).sum + 8 * l.length ≤ Rows.uptoBulk y.1 ∧ l.length ≤ cap ∧ (∀ s ∈ l, s.ps.length ≤ s.c2) ∧ ∀ s ∈ l, s.y ≤ 9223372036854775807 := by
  rcases open_slice Try.underlying39 h with ⟨hcs, hy⟩ | ⟨a, len, cap, q, n', D, Pl, hcs, _, hl, hm, hq, hy, hi⟩
  · exact ⟨none, [], 0, by simpa using hcs, ⟨Rd.nil _ _ _, by simp⟩, by simp, by simp, Nat.le_refl _, by simp, by simp⟩
  · have hq' : q = cap := by simpa using hq
    have hc : Try.prog.cellsOf 52 = 7 := by kernel_rfl
    rw [hc] at hi
    have hf : ∀ s : SC, s.cells.length = 7 := fun _ => rfl
    have hD : ∀ i, i < len → Rows.uptoBulk (D i) ≤ Rows.uptoBulk y.1 := fun i hlt => by
      rw [hy]
      have := bulk_part (show D i ∈ (List.range len).map D from List.mem_map.2 ⟨i, List.mem_range.2 hlt, rfl⟩)
      simp only [Rows.uptoBulk]
      omega
    obtain ⟨l, hll, hlq⟩ := list_choice (Q := fun i (b : SC) => ((b.Ok w w.heap.size ∧ b.bs.length ≤ Rows.uptoBulk y.1 ∧ b.ps.length ≤ Rows.uptoBulk y.1) ∧ b.ps.length ≤ b.c2 ∧ b.y ≤ 9223372036854775807 ∧ b.bs.length + 8 ≤ Rows.uptoBulk (D i)) ∧ w.cells? 0 (a.add (i * 7)) 7 = some b.cells) len fun i hlt => by
      obtain ⟨cs', h1, h2⟩ := hi i (by omega)
      obtain ⟨b, parts, rfl, hg, e2, hpl, ⟨d5, e5, b5⟩, d6, e6, b6⟩ := op_step _ _ _ h2
      have hd := hD i hlt
      have e2' : D i = .agg parts := e2
      rw [e2'] at hd
      have h5 := bulk_nth e5
      have h5b := bulk_nth_len parts 5 d5 e5
      have h5c := bulk_to1 b5 (fun h => by rw [h]; rfl)
      have h6 := bulk_nth e6
      have g5 := bulk_to b5 (fun h => by rw [h]; rfl)
      have g6 := bulk_to b6 (fun h => by rw [h]; rfl)
      exact ⟨b, ⟨⟨hg, by omega, by omega⟩, step_cap _ _ _ h2, step_y _ _ _ h2, by rw [e2']; simp only [Rows.uptoBulk]; omega⟩, h1⟩
    refine ⟨some a, l, cap, by rw [hll]; simpa using hcs, ⟨?_, fun s hs => ?_⟩, fun s hs => ?_, ?_, by omega, fun s hs => ?_, fun s hs => ?_⟩
    · intro j u hj
      obtain ⟨b, h1, h2⟩ := flat_at SC.cells 7 hf l j u hj
      obtain ⟨_, h3⟩ := hlq _ _ h1
      obtain ⟨_, _, h4⟩ := World.cells?_some h3
      have hlt : j % 7 < 7 := Nat.mod_lt _ (by decide)
      have h5 := h4 (j % 7) hlt
      rw [h2, add_add', Nat.mul_comm, Nat.div_add_mod] at h5
      refine ⟨a, rfl, ?_, h5⟩
      rw [← add_block a j]; exact World.block_lt_of_cell? _ _ h5
    · obtain ⟨i, hi', rfl⟩ := List.getElem_of_mem hs
      exact (hlq i _ (List.getElem?_eq_getElem hi')).1.1.1
    · obtain ⟨i, hi', rfl⟩ := List.getElem_of_mem hs
      exact (hlq i _ (List.getElem?_eq_getElem hi')).1.1.2
    · rw [hy]
      have := sum_bulk l ((List.range len).map D) (by simp [hll]) fun i s d e1 e3 => by
        have h3 := (hlq i _ e1).1.2.2.2
        simp only [List.getElem?_map] at e3
        rw [List.getElem?_range (by have := (List.getElem?_eq_some_iff.1 e1).1; omega)] at e3
        injection e3 with e3
        rw [← e3]; exact h3
      simp only [Rows.uptoBulk]
      omega
    · obtain ⟨i, hi', rfl⟩ := List.getElem_of_mem hs
      exact (hlq i _ (List.getElem?_eq_getElem hi')).1.2.1
    · obtain ⟨i, hi', rfl⟩ := List.getElem_of_mem hs
      exact (hlq i _ (List.getElem?_eq_getElem hi')).1.2.2.1
end
end Go.Proofs.Ytebeefkibbbkdaa
/- An image that came in, opened. -/
namespace Go.Proofs.Ytebeefkibbbkdaa
open Go.RowKit Go.ChangeShapes Go.WideShapes Go.ChangeAt Go.Deep

theorem list2 {α : Type} {l : List α} (h : l.length = 2) : ∃ a b, l = [a, b] := by
  match l, h with
  | [a, b], _ => exact ⟨a, b, rfl⟩
theorem sumL_bulk {H : Type} : ∀ (l : List FE) (ds : List (DataW H)), l.length = ds.length → (∀ (i : Nat) (s : FE) (d : DataW H), l[i]? = some s → ds[i]? = some d → s.2.length + 1 ≤ Rows.uptoBulk d) → sumL l + l.length ≤ Rows.uptoBulkAll ds
  | [], _, _, _ => by simp [sumL]
  | s :: l, [], h, _ => by simp at h
  | s :: l, d :: ds, h, hq => by
    have h1 := hq 0 s d rfl rfl
    have h2 := sumL_bulk l ds (by simpa using h) fun i s' d' e1 e2 => hq (i + 1) s' d' (by simpa using e1) (by simpa using e2)
    have h3 : sumL (s :: l) = s.2.length + sumL l := by simp [sumL]
    simp only [List.length_cons, Rows.uptoBulkAll]; omega
section
variable {H : Type} {enc : TypeId × Value → H} {w : World}
set_option maxRecDepth 100000 in
theorem op_file (n : Nat) (cs : List Value) (y : DataW H × List MemPlace) (h : TR enc Try.prog w n 37 cs y) :
    ∃ (p : FE) (x : Option Addr) (c : Nat), cs = [.string p.1, .slice x p.2.length c] ∧ Rd w w.heap.size x (bv p.2) ∧ p.1.size ≤ maxLen ∧ p.2.length + 1 ≤ Rows.uptoBulk y.1 := by
  obtain ⟨hl, ys, n', hy, hyl, hf⟩ := op_fields Try.underlying37 (by kernel_rfl) (by kernel_rfl) h
  obtain ⟨c0, c1, rfl⟩ := list2 hl
  obtain ⟨v, z, e0, _, t0⟩ := hf 0 _ rfl
  cases e0
  obtain ⟨v, z5, e5, y5, t5⟩ := hf 1 _ rfl
  cases e5
  obtain ⟨x1, rfl, _, hz1⟩ := op_string Try.underlying9 t0
  obtain ⟨A, l, c, rfl, rA, _, dA⟩ := op_bytes Try.underlying22 Try.underlying5 (by kernel_rfl) t5
  refine ⟨(x1, l), A, c, rfl, rA, hz1, ?_⟩
  have h1 := bulk_to1 dA (fun h => by rw [h]; rfl)
  have h2 := bulk_nth (parts := ys.map (·.1)) (j := 1) (d := z5.1) (by rw [List.getElem?_map, y5]; rfl)
  rw [hy]
  show l.length + 1 ≤ _
  omega
set_option maxRecDepth 100000 in
theorem op_files (n : Nat) (c : Value) (y : DataW H × List MemPlace) (h : TR enc Try.prog w n 31 [c] y) :
    ∃ (A : Option Addr) (fs : List FE) (cap : Nat), c = .slice A fs.length cap ∧ IM w w.heap.size A fs ∧ (∀ p ∈ fs, p.1.size ≤ maxLen) ∧ sumL fs + fs.length ≤ Rows.uptoBulk y.1 := by
  rcases open_slice Try.underlying31 h with ⟨hcs, hy⟩ | ⟨a, len, cap, q, n', D, Pl, hcs, _, hl, hm, hq, hy, hi⟩
  · exact ⟨none, [], 0, by simpa using hcs, fun i p hp => by simp at hp, by simp, by simp [sumL]⟩
  · have hq' : q = cap := by simpa using hq
    have hc : Try.prog.cellsOf 37 = 2 := by kernel_rfl
    rw [hc] at hi
    obtain ⟨l, hll, hlq⟩ := list_choice (Q := fun i (b : FE) => (b.1.size ≤ maxLen ∧ b.2.length + 1 ≤ Rows.uptoBulk (D i)) ∧ ∃ (x : Option Addr) (c : Nat), w.cells? 0 (a.add (i * 2)) 2 = some [.string b.1, .slice x b.2.length c] ∧ Rd w w.heap.size x (bv b.2)) len fun i hlt => by
      obtain ⟨cs', h1, h2⟩ := hi i (by omega)
      obtain ⟨b, x, c, rfl, hr, hz, hb⟩ := op_file _ _ _ h2
      exact ⟨b, ⟨hz, hb⟩, x, c, h1, hr⟩
    refine ⟨some a, l, cap, by rw [hll]; simpa using hcs, fun i p hp => ?_, fun p hp => ?_, ?_⟩
    · obtain ⟨_, x, c, h3, h4⟩ := hlq i p hp
      obtain ⟨_, _, h5⟩ := World.cells?_some h3
      have g0 := h5 0 (by decide)
      have g1 := h5 1 (by decide)
      refine ⟨a, x, c, rfl, ?_, ?_, ?_, h4⟩
      · have := World.block_lt_of_cell? _ _ g0
        simpa [add_block] using this
      · rw [add_add', Nat.add_zero] at g0; exact g0
      · exact g1
    · obtain ⟨i, hi', rfl⟩ := List.getElem_of_mem hp
      exact (hlq i _ (List.getElem?_eq_getElem hi')).1.1
    · rw [hy]
      have := sumL_bulk l ((List.range len).map D) (by simp [hll]) fun i s d e1 e3 => by
        have h3 := (hlq i _ e1).1.2
        simp only [List.getElem?_map] at e3
        rw [List.getElem?_range (by have := (List.getElem?_eq_some_iff.1 e1).1; omega)] at e3
        injection e3 with e3
        rw [← e3]; exact h3
      simp only [Rows.uptoBulk]
      omega
end
end Go.Proofs.Ytebeefkibbbkdaa
/- SimfsLoads, the '..Upto' form: the law returns true; what came in reads as it did. -/
namespace Go.Proofs.Ytebeefkibbbkdaa
open Go.ChangeShapes Go.WideShapes Go.ChangeAt Go.RowKit Go.Deep

theorem ownK : ownKnob Try.prog.godebug = none := by kernel_rfl
theorem laidOut : laidOutB Try.prog = true := by kernel_rfl

set_option maxRecDepth 100000 in
theorem simfsLoads_lifted (os : Os) (started : os.Started) (H : Type) (enc : TypeId × Value → H) (F : Stop.Interp) :
    ReturnsInHanded {} Try.checked os 4 .any ((Rows.OpenSpec.upto Rows.simfsLoadsSpec).pre6 enc Try.prog Try.f4 Rows.simfsLoadsUptoRow.domain false) (((Rows.OpenSpec.upto Rows.simfsLoadsSpec).at F).post enc Try.prog Try.f4 false true false false) := by
  refine returnsInHanded_of_cond (C := Try.checked) (s := Rows.OpenSpec.upto Rows.simfsLoadsSpec) (k := Rows.uptoSmall) rfl ownK started (by kernel_rfl) Try.func4
    (OpenSpec.witness (enc := enc) (C := Try.checked) (s := Rows.OpenSpec.upto Rows.simfsLoadsSpec) (k := Rows.uptoSmall) rfl false ⟨#[], #[.slice none 0 0, .int .i64 0, .slice none 0 0], []⟩ 8 (by kernel_rfl) (by kernel_rfl) (by kernel_rfl)
      (x := ([.nil, .lit (.int .i64 0), .nil], [], [])) (by kernel_rfl) rfl (by kernel_rfl)) ?_
  intro W base args ds gs before hval hW _ hk _
  have hW' := hW
  obtain ⟨p, q, hA0, hV, rfl, hfz, hnd⟩ := hW
  have hA : DataW.TrodAll enc Try.prog W 0 (fun _ => true) true Try.f4.params.toList args.toList ds p := hA0
  rw [Try.params4] at hA hval
  obtain ⟨v0, vs0, d0, ds0, p0, q0, hargs, rfl, rfl, h0, r0⟩ := trodAll_cons hA
  obtain ⟨v1, vs1, d1, ds1, p1, q1, rfl, rfl, rfl, h1, r1⟩ := trodAll_cons r0
  obtain ⟨v2, vs2, d2, ds2, p2, q2, rfl, rfl, rfl, h2, r2⟩ := trodAll_cons r1
  obtain ⟨rfl, rfl, rfl⟩ := trodAll_nil r2
  obtain rfl : args = #[v0, v1, v2] := by cases args; simp_all
  obtain ⟨rfl, rfl⟩ := trodVars_none hV
  have k0 := h0
  have k1 := h1
  have k2 := h2
  have lt0 : ∀ x ∈ p0, x.block < W.heap.size := by obtain ⟨m, hm⟩ := k0; exact DataW.trod_lt m _ _ _ hm
  have lt1 : ∀ x ∈ p1, x.block < W.heap.size := by obtain ⟨m, hm⟩ := k1; exact DataW.trod_lt m _ _ _ hm
  have lt2 : ∀ x ∈ p2, x.block < W.heap.size := by obtain ⟨m, hm⟩ := k2; exact DataW.trod_lt m _ _ _ hm
  obtain ⟨a0, n0, c0, rfl⟩ := okWide_slice Try.underlying31 (hval 0 _ _ rfl rfl)
  obtain ⟨x1, rfl⟩ := okWide_int Try.underlying3 (hval 1 _ _ rfl rfl)
  obtain ⟨a2, n2, c2, rfl⟩ := okWide_slice Try.underlying39 (hval 2 _ _ rfl rfl)
  obtain ⟨m0, h0'⟩ := h0
  obtain ⟨m1, h1'⟩ := h1
  obtain ⟨m2, h2'⟩ := h2
  have hb := bulk_bound hk
  simp only [List.append_nil, Rows.uptoBulkAll] at hb
  obtain ⟨A0, l0, e0, hv0, im0, nz0, bl0⟩ := op_files m0 (.slice a0 n0 c0) (d0, p0) (by exact h0')
  injection hv0 with z1 z2 z3
  subst z1 z2 z3
  dsimp only at bl0
  obtain ⟨z1, ez1, _, wf1⟩ := op_int (c := .int .i64 x1) Try.underlying3 (by exact h1')
  injection ez1 with _ ez1'
  subst ez1'
  obtain ⟨A2, l2, e2, hv2, st2, bb2, bl2, cp2, pc2, y2⟩ := op_stepsv m2 (.slice a2 n2 c2) (d2, p2) (by exact h2')
  injection hv2 with z1 z2 z3
  subst z1 z2 z3
  dsimp only at bb2 bl2
  clear hA0
  refine (loads_law x1 _ _ _ _ _ _ l0 l2 W im0 rfl (by omega) nz0 (by omega) st2 rfl (by omega) ⟨fun s hs => by have := (bb2 s hs).1; omega, fun s hs => by have := (bb2 s hs).2; omega, pc2, y2, by omega⟩).mono fun e W' ⟨he, bel⟩ => ?_
  subst he
  exact ⟨_, rfl, _, _, _, [], _, [], hW', trodAll_mk1 (shut_bool Try.underlying4 _),
    (trodAll_cons_mk (Below.trod laidOut (by kernel_rfl) (of_decide_eq_true (by kernel_rfl)) k0 bel lt0) (trodAll_cons_mk (Below.trod laidOut (by kernel_rfl) (of_decide_eq_true (by kernel_rfl)) k1 bel lt1) (trodAll_cons_mk (Below.trod laidOut (by kernel_rfl) (of_decide_eq_true (by kernel_rfl)) k2 bel lt2) trodAll_mk0))), rfl, bel.frame _, fun h => by cases h⟩

theorem simfsLoads_holds : Rows.SimfsLoadsUptoSaid :=
  OpenClaim.holds_of_cond 4 Try.f4 rfl rfl rfl rfl rfl rfl rfl ⟨rfl, rfl, rfl, rfl, rfl⟩ rfl rfl rfl rfl rfl (by kernel_rfl) Try.func4 (by kernel_rfl)
    (of_decide_eq_true (by kernel_rfl)) (by unfold Func.isWrapper; first | (rw [if_pos (by decide +kernel)]; kernel_rfl) | (rw [if_neg (by decide +kernel)]; exact ⟨rfl, rfl⟩))
    (fun os started H enc _ F => simfsLoads_lifted os started H enc F)
end Go.Proofs.Ytebeefkibbbkdaa
