import Derived.Test.YtebeefkibbbkdaaQh
import Derived.Test.YtebeefkibbbkdaaQo
import Derived.Test.YtebeefkibbbkdaaRows
import Derived.OpenShut
import Derived.JoinedCond
/- SimfsScripts: every step. -/
namespace Go.Proofs.Ytebeefkibbbkdaa
open Go.RowKit Go.Maps

theorem Dk.Inv.setFuseQ {s : Dk} {N : Nat} (n : Int) (h : s.Inv N) (hn : n ≤ 9223372036854775807) : (fuseS n s).Inv N := by
  unfold fuseS
  split
  · exact h
  · exact Dk.Inv.same (s' := { s with fuse := max n (-1) }) h rfl rfl rfl rfl (Nat.le_refl N) ⟨h.rg.q, h.rg.u, ⟨by show -1 ≤ max n (-1); omega, by show max n (-1) ≤ _; omega⟩, h.rg.o⟩
theorem lv_fuseQ {W w : World} {S : Nat → Prop} {d N : Nat} {s : Dk} (n : Int) (h : Lv W w S d s N) (hn : n ≤ 9223372036854775807) : Calls Try.prog 8 #[.pointer (some ⟨d, 0, none⟩), .int .i64 n] w fun e w' => e = .returned (.tuple #[]) ∧ Lv.Then W w w' S d (fuseS n s) N :=
  (fuse_any S d s n w h.1).mono fun _ _ ⟨h1, h2⟩ => ⟨h1, h.did h2 (h.2.2.2.setFuseQ n hn)⟩
theorem lv_loadQ {W w : World} {q : Int} {fs : List FE} {A : Option Addr} {n c N : Nat} (hb : Below W.heap.size W w) (h : LdOk q fs) (hn : fs.length = n) (hI : IM w w.heap.size A fs) (hN : fs.length ≤ N) :
    Calls Try.prog 14 #[.slice A n c, .int .i64 q] w fun e w' => ∃ d S, e = .returned (.tuple #[.pointer (some ⟨d, 0, none⟩), .int .i64 0]) ∧ Lv W w' S d (ldS q fs) N ∧ (∀ b, S b → w.heap.size ≤ b) ∧ Below w.heap.size w w' :=
  (load_ok q fs A n c w h hn hI).mono fun _ _ ⟨d, S, h1, h2, h3, h4⟩ => ⟨d, S, h1, ⟨h2, fun b hb2 => Nat.le_trans hb.size (h3 b hb2), hb.trans (h4.mono hb.size), ld_inv h hN⟩, h3, h4⟩
/-- What a step makes of the disk. -/
def stepS (st : SC) (s : Dk) : Dk := if 1 ≤ st.kind ∧ st.kind ≤ 7 then chS st s else if st.kind = 11 then setQuotaS st.y s else if st.kind = 12 then fuseS st.y s else if st.kind = 14 then ldS s.quota (crashL s st.ps) else s
theorem step_bd {st : SC} {s : Dk} {T N M : Nat} (h : Bd s T N) (hi : s.Inv M) (hT : T ≤ 1073741824) (hN : 65536 ≤ N) : Bd (stepS st s) (T + st.bs.length) (N + 1) := by
  have hup := h.up (T' := T + st.bs.length) (N' := N + 1) (Nat.le_add_right _ _) (Nat.le_succ N)
  unfold stepS
  split
  · unfold chS
    split
    · exact (h.create hi).up (Nat.le_add_right _ _) (Nat.le_refl _)
    · split
      · exact (h.append hi).up (Nat.le_refl _) (Nat.le_succ N)
      · split
        · exact (h.trunc hi).up (Nat.le_add_right _ _) (Nat.le_succ N)
        · split
          · exact (h.sync hi).up (Nat.le_add_right _ _) (Nat.le_succ N)
          · split
            · exact h.syncDir.up (Nat.le_add_right _ _) (Nat.le_succ N)
            · split
              · exact (h.rename hi).up (Nat.le_add_right _ _) (Nat.le_succ N)
              · exact (h.remove hi).up (Nat.le_add_right _ _) (Nat.le_succ N)
  · split
    · exact hup.quota
    · split
      · exact hup.fuse
      · split
        · obtain ⟨h1, h2⟩ := h.crash hi hT hi.rg.q st.ps
          exact ld_bd h1 (Nat.le_trans h2 (Nat.le_add_right _ _)) (by have := h1.few; omega)
        · exact hup
set_option maxRecDepth 100000 in
set_option maxHeartbeats 16000000 in
theorem step8 (W : World) (S : Nat → Prop) (d : Nat) (s : Dk) (N : Nat) (L : Nat → Nat) (rb bb : Nat) (st : SC) (w : World) (h : Bo W w S d s N L rb s bb) (hN : N ≤ 999999) (hfm : s.files.length ≤ 999999) (hk : st.kind = 8) (hs : st.Ok W W.heap.size) :
    Calls Try.prog 18 #[.pointer (some ⟨bb, 0, none⟩), .agg st.cells.toArray] w fun e w' => e = .returned (.bool true) ∧ ∃ S' d' L' rb', Bo W w' S' d' (s) (N + 1) L' rb' (s) bb := by
  have HQ := Lib.hid (fun w1 (h1 : Bo W w1 S d s N L rb s bb) => asked8 W S d s N L rb bb st w1 h1 hN hfm hk hs)
  obtain ⟨k, nm, nt, x, y, A, bs, c, A2, ps, c2⟩ := st
  obtain ⟨n, hn⟩ : ∃ n, bs.length = n := ⟨_, rfl⟩
  obtain ⟨n2, hn2⟩ : ∃ n2, ps.length = n2 := ⟨_, rfl⟩
  dsimp only at hk
  subst hk
  simp only [SC.cells, hn, hn2] at HQ ⊢
  have M0 := Lib.hid (Bs.start h #[.int .i64 8, .string nm, .string nt, .int .i64 x, .int .i64 y, .slice A n c, .slice A2 n2 c2])
  have hxc := M0.out.bx.cell
  clear h hN hfm hn hn2 hs
  go_enter Try.func18, Try.ntmps18
  go_wp2_with (first
    | (go_at_call 61
       refine (HQ.out _ M0.out.bo).mono ?_
       rintro e w1 ⟨rfl, hb1⟩
       have M1 := Lib.hid ((M0.out.next hb1).bo.up (Nat.le_succ N))
       clear hb1))
  go_ret
  exact ⟨rfl, S, d, L, rb, M1.out⟩
set_option maxRecDepth 100000 in
set_option maxHeartbeats 16000000 in
theorem step9 (W : World) (S : Nat → Prop) (d : Nat) (s : Dk) (N : Nat) (L : Nat → Nat) (rb bb : Nat) (st : SC) (w : World) (h : Bo W w S d s N L rb s bb) (hN : N ≤ 999999) (hfm : s.files.length ≤ 999999) (hk : st.kind = 9) (hs : st.Ok W W.heap.size) :
    Calls Try.prog 18 #[.pointer (some ⟨bb, 0, none⟩), .agg st.cells.toArray] w fun e w' => e = .returned (.bool true) ∧ ∃ S' d' L' rb', Bo W w' S' d' (s) (N + 1) L' rb' (s) bb := by
  have HQ := Lib.hid (fun w1 (h1 : Bo W w1 S d s N L rb s bb) => asked9 W S d s N L rb bb st w1 h1 hN hfm hk hs)
  obtain ⟨k, nm, nt, x, y, A, bs, c, A2, ps, c2⟩ := st
  obtain ⟨n, hn⟩ : ∃ n, bs.length = n := ⟨_, rfl⟩
  obtain ⟨n2, hn2⟩ : ∃ n2, ps.length = n2 := ⟨_, rfl⟩
  dsimp only at hk
  subst hk
  simp only [SC.cells, hn, hn2] at HQ ⊢
  have M0 := Lib.hid (Bs.start h #[.int .i64 9, .string nm, .string nt, .int .i64 x, .int .i64 y, .slice A n c, .slice A2 n2 c2])
  have hxc := M0.out.bx.cell
  clear h hN hfm hn hn2 hs
  go_enter Try.func18, Try.ntmps18
  go_wp2_with (first
    | (go_at_call 61
       refine (HQ.out _ M0.out.bo).mono ?_
       rintro e w1 ⟨rfl, hb1⟩
       have M1 := Lib.hid ((M0.out.next hb1).bo.up (Nat.le_succ N))
       clear hb1))
  go_ret
  exact ⟨rfl, S, d, L, rb, M1.out⟩
set_option maxRecDepth 100000 in
set_option maxHeartbeats 16000000 in
theorem step10 (W : World) (S : Nat → Prop) (d : Nat) (s : Dk) (N : Nat) (L : Nat → Nat) (rb bb : Nat) (st : SC) (w : World) (h : Bo W w S d s N L rb s bb) (hN : N ≤ 999999) (hfm : s.files.length ≤ 999999) (hk : st.kind = 10) (hs : st.Ok W W.heap.size) :
    Calls Try.prog 18 #[.pointer (some ⟨bb, 0, none⟩), .agg st.cells.toArray] w fun e w' => e = .returned (.bool true) ∧ ∃ S' d' L' rb', Bo W w' S' d' (s) (N + 1) L' rb' (s) bb := by
  have HQ := Lib.hid (fun w1 (h1 : Bo W w1 S d s N L rb s bb) => asked10 W S d s N L rb bb st w1 h1 hN hfm hk hs)
  obtain ⟨k, nm, nt, x, y, A, bs, c, A2, ps, c2⟩ := st
  obtain ⟨n, hn⟩ : ∃ n, bs.length = n := ⟨_, rfl⟩
  obtain ⟨n2, hn2⟩ : ∃ n2, ps.length = n2 := ⟨_, rfl⟩
  dsimp only at hk
  subst hk
  simp only [SC.cells, hn, hn2] at HQ ⊢
  have M0 := Lib.hid (Bs.start h #[.int .i64 10, .string nm, .string nt, .int .i64 x, .int .i64 y, .slice A n c, .slice A2 n2 c2])
  have hxc := M0.out.bx.cell
  clear h hN hfm hn hn2 hs
  go_enter Try.func18, Try.ntmps18
  go_wp2_with (first
    | (go_at_call 61
       refine (HQ.out _ M0.out.bo).mono ?_
       rintro e w1 ⟨rfl, hb1⟩
       have M1 := Lib.hid ((M0.out.next hb1).bo.up (Nat.le_succ N))
       clear hb1))
  go_ret
  exact ⟨rfl, S, d, L, rb, M1.out⟩
set_option maxRecDepth 100000 in
set_option maxHeartbeats 16000000 in
theorem step13 (W : World) (S : Nat → Prop) (d : Nat) (s : Dk) (N : Nat) (L : Nat → Nat) (rb bb : Nat) (st : SC) (w : World) (h : Bo W w S d s N L rb s bb) (hN : N ≤ 999999) (hfm : s.files.length ≤ 999999) (hk : st.kind = 13) (hs : st.Ok W W.heap.size) (hc2 : st.ps.length ≤ st.c2) (hps : st.ps.length ≤ 1048576) :
    Calls Try.prog 18 #[.pointer (some ⟨bb, 0, none⟩), .agg st.cells.toArray] w fun e w' => e = .returned (.bool true) ∧ ∃ S' d' L' rb', Bo W w' S' d' (s) (N + 1) L' rb' (s) bb := by
  have HQ := Lib.hid (fun w1 (h1 : Bo W w1 S d s N L rb s bb) => asked13 W S d s N L rb bb st w1 h1 hN hfm hk hs hc2 hps)
  obtain ⟨k, nm, nt, x, y, A, bs, c, A2, ps, c2⟩ := st
  obtain ⟨n, hn⟩ : ∃ n, bs.length = n := ⟨_, rfl⟩
  obtain ⟨n2, hn2⟩ : ∃ n2, ps.length = n2 := ⟨_, rfl⟩
  dsimp only at hk
  subst hk
  simp only [SC.cells, hn, hn2] at HQ ⊢
  have M0 := Lib.hid (Bs.start h #[.int .i64 13, .string nm, .string nt, .int .i64 x, .int .i64 y, .slice A n c, .slice A2 n2 c2])
  have hxc := M0.out.bx.cell
  clear h hN hfm hn hn2 hs hc2 hps
  go_enter Try.func18, Try.ntmps18
  go_wp2_with (first
    | (go_at_call 61
       refine (HQ.out _ M0.out.bo).mono ?_
       rintro e w1 ⟨rfl, hb1⟩
       have M1 := Lib.hid ((M0.out.next hb1).bo.up (Nat.le_succ N))
       clear hb1))
  go_ret
  exact ⟨rfl, S, d, L, rb, M1.out⟩
set_option maxRecDepth 100000 in
set_option maxHeartbeats 16000000 in
theorem step11 (W : World) (S : Nat → Prop) (d : Nat) (s : Dk) (N : Nat) (L : Nat → Nat) (rb bb : Nat) (st : SC) (w : World) (h : Bo W w S d s N L rb s bb) (hN : N ≤ 999999) (hfm : s.files.length ≤ 999999) (hk : st.kind = 11) (hs : st.Ok W W.heap.size) :
    Calls Try.prog 18 #[.pointer (some ⟨bb, 0, none⟩), .agg st.cells.toArray] w fun e w' => e = .returned (.bool true) ∧ ∃ S' d' L' rb', Bo W w' S' d' (setQuotaS st.y s) (N + 1) L' rb' (setQuotaS st.y s) bb := by
  obtain ⟨k, nm, nt, x, y, A, bs, c, A2, ps, c2⟩ := st
  obtain ⟨n, hn⟩ : ∃ n, bs.length = n := ⟨_, rfl⟩
  obtain ⟨n2, hn2⟩ : ∃ n2, ps.length = n2 := ⟨_, rfl⟩
  obtain ⟨hA, hP, hz1, hz2, hwf⟩ := hs
  dsimp only at hA hP hz1 hz2 hwf hk ⊢
  subst hk
  simp only [SC.cells, hn, hn2]
  have H := Lib.hid (And.intro h.lv.2.2.2 (And.intro hN (And.intro hfm (And.intro hn2 (And.intro hP (And.intro hwf trivial))))))
  have M0 := Lib.hid (Bs.start h #[.int .i64 11, .string nm, .string nt, .int .i64 x, .int .i64 y, .slice A n c, .slice A2 n2 c2])
  have hxc := M0.out.bx.cell
  clear h hN hfm hz1 hz2 hn hn2 hA hP hwf
  obtain ⟨ev, hev⟩ : ∃ ev, setQuotaE y = ev := ⟨_, rfl⟩
  have HV := Lib.hid hev
  clear hev
  go_enter Try.func18, Try.ntmps18
  go_upto_region 18 with fail
  have hs := cell_nine M0.out
  have M := Lib.hid (M0.out.next (below_drew (Below.refl _ _)))
  have hsd := cell_nine M.out
  go_region_held3 (fun w' => w'.cell? ⟨bb, 0, none⟩ = some (.pointer (some ⟨d, 0, none⟩)) ∧ w'.cell? ⟨bb, 1, none⟩ = some (.pointer (some ⟨rb, 0, none⟩)) ∧ w'.cell? ⟨w.heap.size, 0, none⟩ = some (.int .i64 11) ∧ w'.cell? ⟨w.heap.size, 1, none⟩ = some (.string nm) ∧ w'.cell? ⟨w.heap.size, 2, none⟩ = some (.string nt) ∧ w'.cell? ⟨w.heap.size, 3, none⟩ = some (.int .i64 x) ∧ w'.cell? ⟨w.heap.size, 4, none⟩ = some (.int .i64 y) ∧ w'.cell? ⟨w.heap.size, 5, none⟩ = some (.slice A n c) ∧ w'.cell? ⟨w.heap.size, 6, none⟩ = some (.slice A2 n2 c2))
    (first | with_reducible exact hs | with_reducible exact hsd)
    (first
      | (go_at_call 62
         refine (lv_setQuota y M.out.bo.lv).mono ?_
         rintro e w1 ⟨rfl, h1⟩
         rw [HV.out]
         obtain ⟨S1, hM1⟩ := M.out.a h1
         have M1 := Lib.hid hM1
         clear hs hsd
         have hs := cell_nine M1.out
         have hsd := hs
         clear h1 hM1))
  clear hxc
  have hxc := M1.out.bx.cell
  go_upto_region 19 with fail
  have M1d := Lib.hid (M1.out.next (below_drew (Below.refl _ _)))
  clear hsd
  have hsd := cell_nine M1d.out
  go_region_held3 (fun w' => w'.cell? ⟨bb, 0, none⟩ = some (.pointer (some ⟨d, 0, none⟩)) ∧ w'.cell? ⟨bb, 1, none⟩ = some (.pointer (some ⟨rb, 0, none⟩)) ∧ w'.cell? ⟨w.heap.size, 0, none⟩ = some (.int .i64 11) ∧ w'.cell? ⟨w.heap.size, 1, none⟩ = some (.string nm) ∧ w'.cell? ⟨w.heap.size, 2, none⟩ = some (.string nt) ∧ w'.cell? ⟨w.heap.size, 3, none⟩ = some (.int .i64 x) ∧ w'.cell? ⟨w.heap.size, 4, none⟩ = some (.int .i64 y) ∧ w'.cell? ⟨w.heap.size, 5, none⟩ = some (.slice A n c) ∧ w'.cell? ⟨w.heap.size, 6, none⟩ = some (.slice A2 n2 c2))
    (first | with_reducible exact hs | with_reducible exact hsd)
    (first
      | (go_at_call 63
         refine (setQuotaR_any rb L s y _ M1d.out.bo.rd).mono ?_
         rintro e w2 ⟨rfl, h1, h2⟩
         rw [HV.out]
         have M2 := Lib.hid (M1d.out.b h1 h2)
         clear hs hsd
         have hs := cell_nine M2.out
         have hsd := hs
         clear h1 h2))
  go_wp2
  go_ret
  exact ⟨rfl, S1, d, L, rb, M2.out.bo.up (Nat.le_succ N)⟩
set_option maxRecDepth 100000 in
set_option maxHeartbeats 16000000 in
theorem step12 (W : World) (S : Nat → Prop) (d : Nat) (s : Dk) (N : Nat) (L : Nat → Nat) (rb bb : Nat) (st : SC) (w : World) (h : Bo W w S d s N L rb s bb) (hN : N ≤ 999999) (hfm : s.files.length ≤ 999999) (hk : st.kind = 12) (hs : st.Ok W W.heap.size) (hy : st.y ≤ 9223372036854775807) :
    Calls Try.prog 18 #[.pointer (some ⟨bb, 0, none⟩), .agg st.cells.toArray] w fun e w' => e = .returned (.bool true) ∧ ∃ S' d' L' rb', Bo W w' S' d' (fuseS st.y s) (N + 1) L' rb' (fuseS st.y s) bb := by
  obtain ⟨k, nm, nt, x, y, A, bs, c, A2, ps, c2⟩ := st
  obtain ⟨n, hn⟩ : ∃ n, bs.length = n := ⟨_, rfl⟩
  obtain ⟨n2, hn2⟩ : ∃ n2, ps.length = n2 := ⟨_, rfl⟩
  obtain ⟨hA, hP, hz1, hz2, hwf⟩ := hs
  dsimp only at hA hP hz1 hz2 hwf hk hy ⊢
  subst hk
  simp only [SC.cells, hn, hn2]
  have H := Lib.hid (And.intro h.lv.2.2.2 (And.intro hN (And.intro hfm (And.intro hn2 (And.intro hP (And.intro hwf hy))))))
  have M0 := Lib.hid (Bs.start h #[.int .i64 12, .string nm, .string nt, .int .i64 x, .int .i64 y, .slice A n c, .slice A2 n2 c2])
  have hxc := M0.out.bx.cell
  clear h hN hfm hz1 hz2 hn hn2 hA hP hwf hy
  go_enter Try.func18, Try.ntmps18
  go_upto_region 22 with fail
  have hs := cell_nine M0.out
  have M := Lib.hid (M0.out.next (below_drew (Below.refl _ _)))
  have hsd := cell_nine M.out
  go_region_held3 (fun w' => w'.cell? ⟨bb, 0, none⟩ = some (.pointer (some ⟨d, 0, none⟩)) ∧ w'.cell? ⟨bb, 1, none⟩ = some (.pointer (some ⟨rb, 0, none⟩)) ∧ w'.cell? ⟨w.heap.size, 0, none⟩ = some (.int .i64 12) ∧ w'.cell? ⟨w.heap.size, 1, none⟩ = some (.string nm) ∧ w'.cell? ⟨w.heap.size, 2, none⟩ = some (.string nt) ∧ w'.cell? ⟨w.heap.size, 3, none⟩ = some (.int .i64 x) ∧ w'.cell? ⟨w.heap.size, 4, none⟩ = some (.int .i64 y) ∧ w'.cell? ⟨w.heap.size, 5, none⟩ = some (.slice A n c) ∧ w'.cell? ⟨w.heap.size, 6, none⟩ = some (.slice A2 n2 c2))
    (first | with_reducible exact hs | with_reducible exact hsd)
    (first
      | (go_at_call 8
         refine (lv_fuseQ y M.out.bo.lv H.out.2.2.2.2.2.2).mono ?_
         rintro e w1 ⟨rfl, h1⟩
         obtain ⟨S1, hM1⟩ := M.out.a h1
         have M1 := Lib.hid hM1
         clear hs hsd
         have hs := cell_nine M1.out
         have hsd := hs
         clear h1 hM1))
  clear hxc
  have hxc := M1.out.bx.cell
  go_upto_region 23 with fail
  have M1d := Lib.hid (M1.out.next (below_drew (Below.refl _ _)))
  clear hsd
  have hsd := cell_nine M1d.out
  go_region_held3 (fun w' => w'.cell? ⟨bb, 0, none⟩ = some (.pointer (some ⟨d, 0, none⟩)) ∧ w'.cell? ⟨bb, 1, none⟩ = some (.pointer (some ⟨rb, 0, none⟩)) ∧ w'.cell? ⟨w.heap.size, 0, none⟩ = some (.int .i64 12) ∧ w'.cell? ⟨w.heap.size, 1, none⟩ = some (.string nm) ∧ w'.cell? ⟨w.heap.size, 2, none⟩ = some (.string nt) ∧ w'.cell? ⟨w.heap.size, 3, none⟩ = some (.int .i64 x) ∧ w'.cell? ⟨w.heap.size, 4, none⟩ = some (.int .i64 y) ∧ w'.cell? ⟨w.heap.size, 5, none⟩ = some (.slice A n c) ∧ w'.cell? ⟨w.heap.size, 6, none⟩ = some (.slice A2 n2 c2))
    (first | with_reducible exact hs | with_reducible exact hsd)
    (first
      | (go_at_call 64
         refine (fuseR_any rb L s y _ M1d.out.bo.rd).mono ?_
         rintro e w2 ⟨rfl, h1, h2⟩
         have M2 := Lib.hid (M1d.out.b h1 h2)
         clear hs hsd
         have hs := cell_nine M2.out
         have hsd := hs
         clear h1 h2))
  go_wp2
  go_ret
  exact ⟨rfl, S1, d, L, rb, M2.out.bo.up (Nat.le_succ N)⟩
set_option maxRecDepth 100000 in
set_option maxHeartbeats 16000000 in
theorem step14 (W : World) (S : Nat → Prop) (d : Nat) (s : Dk) (N : Nat) (L : Nat → Nat) (rb bb : Nat) (st : SC) (w : World) (h : Bo W w S d s N L rb s bb) (hN : N ≤ 999999) (hfm : s.files.length ≤ 999999) (hk : st.kind = 14) (hs : st.Ok W W.heap.size) (hc2 : st.ps.length ≤ st.c2) (hps : st.ps.length ≤ 1048576) (hN2 : 65536 ≤ N) (hld : LdOk s.quota (crashL s st.ps)) :
    Calls Try.prog 18 #[.pointer (some ⟨bb, 0, none⟩), .agg st.cells.toArray] w fun e w' => e = .returned (.bool true) ∧ ∃ S' d' L' rb', Bo W w' S' d' (ldS s.quota (crashL s st.ps)) (N + 1) L' rb' (ldS s.quota (crashL s st.ps)) bb := by
  obtain ⟨k, nm, nt, x, y, A, bs, c, A2, ps, c2⟩ := st
  obtain ⟨n, hn⟩ : ∃ n, bs.length = n := ⟨_, rfl⟩
  obtain ⟨n2, hn2⟩ : ∃ n2, ps.length = n2 := ⟨_, rfl⟩
  obtain ⟨hA, hP, hz1, hz2, hwf⟩ := hs
  dsimp only at hA hP hz1 hz2 hwf hk hc2 hps hld ⊢
  subst hk
  simp only [SC.cells, hn, hn2] at hc2 hps ⊢
  have H := Lib.hid (And.intro h.lv.2.2.2 (And.intro hN (And.intro hfm (And.intro hn2 (And.intro hP (And.intro hwf (And.intro hc2 (And.intro hps (And.intro hN2 hld)))))))))
  have M0 := Lib.hid (Bs.start h #[.int .i64 14, .string nm, .string nt, .int .i64 x, .int .i64 y, .slice A n c, .slice A2 n2 c2])
  have hxc := M0.out.bx.cell
  clear h hN hfm hz1 hz2 hn hn2 hA hP hwf hc2 hps hN2 hld
  obtain ⟨cl, hcl⟩ : ∃ cl, crashL s ps = cl := ⟨_, rfl⟩
  obtain ⟨cn, hcn⟩ : ∃ cn, cl.length = cn := ⟨_, rfl⟩
  have hcnm : cn ≤ 65536 := by rw [← hcn, ← hcl]; exact H.out.2.2.2.2.2.2.2.2.2.few
  have HE := Lib.hid (And.intro hcl hcn)
  have HSM := Lib.hid (show ∀ p ∈ cl, p.2.length ≤ 140737488351232 by rw [← hcl]; exact crash_small H.out.1 ps)
  rw [hcl]
  clear hcl hcn
  go_enter Try.func18, Try.ntmps18
  go_upto_region 25 with fail
  have hs := cell_nine M0.out
  have M := Lib.hid (M0.out.next (below_drew (Below.refl _ _)))
  have hsd := cell_nine M.out
  go_region_held3 (fun w' => w'.cell? ⟨bb, 0, none⟩ = some (.pointer (some ⟨d, 0, none⟩)) ∧ w'.cell? ⟨bb, 1, none⟩ = some (.pointer (some ⟨rb, 0, none⟩)) ∧ w'.cell? ⟨w.heap.size, 0, none⟩ = some (.int .i64 14) ∧ w'.cell? ⟨w.heap.size, 1, none⟩ = some (.string nm) ∧ w'.cell? ⟨w.heap.size, 2, none⟩ = some (.string nt) ∧ w'.cell? ⟨w.heap.size, 3, none⟩ = some (.int .i64 x) ∧ w'.cell? ⟨w.heap.size, 4, none⟩ = some (.int .i64 y) ∧ w'.cell? ⟨w.heap.size, 5, none⟩ = some (.slice A n c) ∧ w'.cell? ⟨w.heap.size, 6, none⟩ = some (.slice A2 n2 c2))
    (first | with_reducible exact hs | with_reducible exact hsd)
    (first
      | (go_at_call 10
         refine (lv_crash ps A2 n2 c2 M.out.bo.lv (by have := H.out.2.1; omega) (rd_low H.out.2.2.2.2.1 M.out.bo.bel) H.out.2.2.2.1 H.out.2.2.2.2.2.2.1 H.out.2.2.2.2.2.1 (by have := H.out.2.2.2.2.2.2.2.1; omega)).mono ?_
         rintro e w1 ⟨usX, bX, cX, rfl, hf, hb⟩
         rw [HE.out.1, HE.out.2] at hf
         rw [HE.out.1, HE.out.2]
         have qX := Lib.hid hf.im
         have M1 := Lib.hid (M.out.next hb)
         clear hs hsd
         have hs := cell_nine M1.out
         have hsd := hs
         clear hf hb))
  clear hxc
  have hxc := M1.out.bx.cell
  go_upto_region 26 with fail
  have M1d := Lib.hid (M1.out.next (below_drew (Below.refl _ _)))
  have qXd := Lib.hid (qX.out.next (below_drew (Below.refl _ _)))
  clear hsd
  have hsd := cell_nine M1d.out
  go_region_held3 (fun w' => w'.cell? ⟨bb, 0, none⟩ = some (.pointer (some ⟨d, 0, none⟩)) ∧ w'.cell? ⟨bb, 1, none⟩ = some (.pointer (some ⟨rb, 0, none⟩)) ∧ w'.cell? ⟨w.heap.size, 0, none⟩ = some (.int .i64 14) ∧ w'.cell? ⟨w.heap.size, 1, none⟩ = some (.string nm) ∧ w'.cell? ⟨w.heap.size, 2, none⟩ = some (.string nt) ∧ w'.cell? ⟨w.heap.size, 3, none⟩ = some (.int .i64 x) ∧ w'.cell? ⟨w.heap.size, 4, none⟩ = some (.int .i64 y) ∧ w'.cell? ⟨w.heap.size, 5, none⟩ = some (.slice A n c) ∧ w'.cell? ⟨w.heap.size, 6, none⟩ = some (.slice A2 n2 c2))
    (first | with_reducible exact hs | with_reducible exact hsd)
    (first
      | (go_at_call 65
         refine (crashR_any rb L s N c2 n2 ps A2 _ M1d.out.bo.rd H.out.1 (by have := H.out.2.1; omega) (rd_low H.out.2.2.2.2.1 M1d.out.bo.bel) H.out.2.2.2.1 H.out.2.2.2.2.2.1 (by have := H.out.2.2.2.2.2.2.2.1; omega)).mono ?_
         rintro e w2 ⟨usY, bY, cY, rfl, hf, hb⟩
         rw [HE.out.1, HE.out.2] at hf
         rw [HE.out.1, HE.out.2]
         have qY := Lib.hid hf.im
         have qX2 := Lib.hid (qXd.out.next hb)
         have M2 := Lib.hid (M1d.out.next hb)
         clear hs hsd
         have hs := cell_nine M2.out
         have hsd := hs
         clear hf hb))
  go_wp2_with (first
    | (go_at_call 16
       refine (sameImage_any bX bY cn cX cn cY cl cl _ HE.out.2 HE.out.2 qX2.out qY.out (by omega) (by omega) HSM.out HSM.out).mono ?_
       rintro e w3 ⟨rfl, kq, hwq⟩
       rw [show decide (cl = cl) = true from decide_eq_true rfl]
       have hb : Below w2.heap.size w2 w3 := by rw [hwq]; exact below_drewN (Below.refl _ _) kq
       have qX3 := Lib.hid (qX2.out.next hb)
       have qY3 := Lib.hid (qY.out.next hb)
       have M3 := Lib.hid (M2.out.next hb)
       have hbc := M3.out.bo.bx.cell
       have Q1 := trivial
       clear hwq hb hs hsd)
    | (go_at_call 52
       have z := Q1
       clear z
       refine (quotaR_any rb L s _ M3.out.bo.rd).mono ?_
       rintro e wq ⟨rfl, hwq⟩
       have hq1 := hwq.symm
       subst hq1
       have Q2 := trivial
       clear hwq Q1)
    | (go_at_call 14
       refine (lv_loadQ (W := W) (N := N + 1) M3.out.bo.bel (by rw [← HE.out.1]; exact H.out.2.2.2.2.2.2.2.2.2) HE.out.2 qX3.out (by rw [HE.out.2]; have := H.out.2.2.2.2.2.2.2.2.1; omega)).mono ?_
       rintro e w4 ⟨d4, S4, rfl, g1, g2, g3⟩
       have M4 := Lib.hid (M3.out.next g3)
       have L4 := Lib.hid (And.intro g1 g2)
       have hz34 := Lib.hid g3.size
       have qY4 := Lib.hid (qY3.out.next g3)
       have hbc4 := M4.out.bo.bx.cell
       clear g1 g2 g3 hbc)
    | (go_at_call 52
       have z := Q2
       clear z
       refine (quotaR_any rb L s _ M4.out.bo.rd).mono ?_
       rintro e wq ⟨rfl, hwq⟩
       have hq1 := hwq.symm
       subst hq1
       clear hwq Q2)
    | (go_at_call 15
       refine (loadR_ok s.quota cl bY cn cY _ (by rw [← HE.out.1]; exact H.out.2.2.2.2.2.2.2.2.2) HE.out.2 qY4.out).mono ?_
       rintro e w5 ⟨rb5, L5, rfl, g1, g2, g3⟩
       have M5 := Lib.hid (M4.out.next g3)
       have L5h := Lib.hid (And.intro (L4.out.1.next g3) (And.intro g1 (And.intro g2 g3.size)))
       have hbc5 := M5.out.bo.bx.cell
       have hbf5 := M5.out.bo.bx.free
       have hbl5 := M5.out.bo.bx.lt
       clear g1 g2 g3 hbc4))
  go_ret
  obtain ⟨k1, k2, k3, k4⟩ := L5h.out
  have hbb4 : bb < w3.heap.size := M3.out.bo.bx.lt
  have hnS : ¬ S4 bb := fun hb => by have := L4.out.2 bb hb; omega
  have hw34 : w3.heap.size ≤ w4.heap.size := by have := M4.out.bo.bx.lt; exact hz34.out
  have hnL : L5 bb = 0 := Classical.byContradiction fun hne => by have := k3 bb hne; omega
  have hB1 := (M5.out.bo.bx.set_ 0 (.pointer (some ⟨d4, 0, none⟩))).set_ 1 (.pointer (some ⟨rb5, 0, none⟩))
  have hc : Chg (fun b => b = bb) w5 ((w5.setCell ⟨bb, 0, none⟩ (.pointer (some ⟨d4, 0, none⟩))).setCell ⟨bb, 1, none⟩ (.pointer (some ⟨rb5, 0, none⟩))) := chg_at (chg_at (Chg.refl (fun b => b = bb) w5) _ _) _ _
  refine ⟨rfl, S4, d4, L5, rb5, k1.far hc (fun b hb e => hnS (e ▸ hb)) (fun b e => by subst e; exact M5.out.bo.bW), k2.far hc hnL, fun b hb => ?_, fun b hb => ?_, by simpa using hB1, hnS, hnL, M5.out.bo.bW⟩
  · have h1 := k3 b hb
    have h2 := M4.out.bo.bel.size
    omega
  · refine Classical.byContradiction fun hne => ?_
    have h1 := k3 b hne
    have h2 := L4.out.1.lt b hb
    omega
end Go.Proofs.Ytebeefkibbbkdaa
/- The steps of a script that came in, opened; the bounds of an '..UptoSaid'. -/
namespace Go.Proofs.Ytebeefkibbbkdaa
open Go.RowKit Go.ChangeShapes Go.WideShapes Go.ChangeAt Go.Deep

/-- A script, read at A. -/
def Stp (w : World) (B : Nat) (A : Option Addr) (l : List SC) : Prop := Rd w B A (l.flatMap SC.cells) ∧ ∀ s ∈ l, s.Ok w B
theorem bulk_nth {H : Type} {parts : List (DataW H)} {d : DataW H} {j : Nat} (h : parts[j]? = some d) : Rows.uptoBulk d ≤ Rows.uptoBulk (.agg parts) := by
  have := bulk_part (List.mem_of_getElem? h)
  simp only [Rows.uptoBulk]
  omega
theorem bulk_to {H : Type} {d : DataW H} {n : Nat} {p : Prop} (h : (d = .nil ∧ p) ∨ ∃ el sp, d = .slice el sp ∧ el.length = n) (hp : p → n = 0) : n ≤ Rows.uptoBulk d := by
  rcases h with ⟨_, h⟩ | ⟨el, sp, rfl, h2⟩
  · rw [hp h]; omega
  · have := bulk_slice el sp; omega
section
variable {H : Type} {enc : TypeId × Value → H} {w : World}
set_option maxRecDepth 100000 in
theorem op_steps (n : Nat) (c : Value) (y : DataW H × List MemPlace) (h : TR enc Try.prog w n 39 [c] y) :
    ∃ (A : Option Addr) (l : List SC) (cap : Nat), c = .slice A l.length cap ∧ Stp w w.heap.size A l ∧ (∀ s ∈ l, s.bs.length ≤ Rows.uptoBulk y.1 ∧ s.ps.length ≤ Rows.uptoBulk y.1) ∧ l.length ≤ Rows.uptoBulk y.1 ∧ l.length ≤ cap := by
  rcases open_slice Try.underlying39 h with ⟨hcs, hy⟩ | ⟨a, len, cap, q, n', D, Pl, hcs, _, hl, hm, hq, hy, hi⟩
  · exact ⟨none, [], 0, by simpa using hcs, ⟨Rd.nil _ _ _, by simp⟩, by simp, Nat.zero_le _, Nat.le_refl _⟩
  · have hq' : q = cap := by simpa using hq
    have hc : Try.prog.cellsOf 52 = 7 := by kernel_rfl
    rw [hc] at hi
    have hf : ∀ s : SC, s.cells.length = 7 := fun _ => rfl
    have hD : ∀ i, i < len → Rows.uptoBulk (D i) ≤ Rows.uptoBulk y.1 := fun i hlt => by
      rw [hy]
      have := bulk_part (show D i ∈ (List.range len).map D from List.mem_map.2 ⟨i, List.mem_range.2 hlt, rfl⟩)
      simp only [Rows.uptoBulk]
      omega
    obtain ⟨l, hll, hlq⟩ := list_choice (Q := fun i (b : SC) => (b.Ok w w.heap.size ∧ b.bs.length ≤ Rows.uptoBulk y.1 ∧ b.ps.length ≤ Rows.uptoBulk y.1) ∧ w.cells? 0 (a.add (i * 7)) 7 = some b.cells) len fun i hlt => by
      obtain ⟨cs', h1, h2⟩ := hi i (by omega)
      obtain ⟨b, parts, rfl, hg, e2, _, ⟨d5, e5, b5⟩, d6, e6, b6⟩ := op_step _ _ _ h2
      have hd := hD i hlt
      have e2' : D i = .agg parts := e2
      rw [e2'] at hd
      have h5 := bulk_nth e5
      have h6 := bulk_nth e6
      have g5 := bulk_to b5 (fun h => by rw [h]; rfl)
      have g6 := bulk_to b6 (fun h => by rw [h]; rfl)
      exact ⟨b, ⟨hg, by omega, by omega⟩, h1⟩
    refine ⟨some a, l, cap, by rw [hll]; simpa using hcs, ⟨?_, fun s hs => ?_⟩, fun s hs => ?_, ?_, by omega⟩
    · intro j u hj
      obtain ⟨b, h1, h2⟩ := flat_at SC.cells 7 hf l j u hj
      obtain ⟨_, h3⟩ := hlq _ _ h1
      obtain ⟨_, _, h4⟩ := World.cells?_some h3
      have hlt : j % 7 < 7 := Nat.mod_lt _ (by decide)
      have h5 := h4 (j % 7) hlt
      rw [h2, add_add', Nat.mul_comm, Nat.div_add_mod] at h5
      refine ⟨a, rfl, ?_, h5⟩
      rw [← add_block a j]; exact World.block_lt_of_cell? _ _ h5
    · obtain ⟨i, hi', rfl⟩ := List.getElem_of_mem hs
      exact (hlq i _ (List.getElem?_eq_getElem hi')).1.1
    · obtain ⟨i, hi', rfl⟩ := List.getElem_of_mem hs
      exact (hlq i _ (List.getElem?_eq_getElem hi')).1.2
    · rw [hy, hll]
      have := bulk_len ((List.range len).map D)
      simp only [List.length_map, List.length_range] at this
      simp only [Rows.uptoBulk]
      omega
end
/-- The cells of the i-th step of a script. -/
theorem stp_get (l : List SC) : ∀ (i : Nat) (hi : i < l.length) (j : Nat) (u : Value), (l[i].cells)[j]? = some u → (l.flatMap SC.cells)[i * 7 + j]? = some u := by
  induction l with
  | nil => intro i hi; simp at hi
  | cons p l ih =>
    intro i hi j u hj
    cases i with
    | zero =>
      have hl := (List.getElem?_eq_some_iff.1 hj).1
      simp only [List.flatMap_cons, List.getElem_cons_zero, Nat.zero_mul, Nat.zero_add] at hj hl ⊢
      rw [List.getElem?_append_left hl]; exact hj
    | succ i =>
      simp only [List.flatMap_cons, List.getElem_cons_succ] at hj ⊢
      have hl : (SC.cells p).length = 7 := rfl
      rw [List.getElem?_append_right (by omega), hl, show (i + 1) * 7 + j - 7 = i * 7 + j by omega]
      exact ih i (by simpa using hi) j u hj
theorem Stp.below {w w' : World} {B : Nat} {A : Option Addr} {l : List SC} (h : Stp w B A l) (hb : Below B w w') : Stp w' B A l :=
  ⟨h.1.below hb, fun s hs => by obtain ⟨h1, h2, h3⟩ := h.2 s hs; exact ⟨h1.below hb, h2.below hb, h3⟩⟩
theorem Stp.step {w : World} {B : Nat} {A : Option Addr} {l : List SC} (h : Stp w B A l) {i : Nat} {s : SC} (hs : l[i]? = some s) : ∃ ad : Addr, A = some ad ∧ ad.block < B ∧ w.cell? (ad.add (i * 7)) = some (.int .i64 s.kind) ∧
    w.cell? ⟨(ad.add (i * 7)).block, (ad.add (i * 7)).off + 1, none⟩ = some (.string s.nm) ∧ w.cell? ⟨(ad.add (i * 7)).block, (ad.add (i * 7)).off + 2, none⟩ = some (.string s.to) ∧ w.cell? ⟨(ad.add (i * 7)).block, (ad.add (i * 7)).off + 3, none⟩ = some (.int .i64 s.x) ∧
    w.cell? ⟨(ad.add (i * 7)).block, (ad.add (i * 7)).off + 4, none⟩ = some (.int .i64 s.y) ∧ w.cell? ⟨(ad.add (i * 7)).block, (ad.add (i * 7)).off + 5, none⟩ = some (.slice s.A s.bs.length s.c) ∧ w.cell? ⟨(ad.add (i * 7)).block, (ad.add (i * 7)).off + 6, none⟩ = some (.slice s.A2 s.ps.length s.c2) ∧ s.Ok w B := by
  obtain ⟨hi, rfl⟩ := List.getElem?_eq_some_iff.1 hs
  have g := stp_get l i hi
  obtain ⟨ad, rfl, hb, c0⟩ := h.1 _ _ (g 0 _ rfl)
  refine ⟨ad, rfl, hb, c0, ?_, ?_, ?_, ?_, ?_, ?_, h.2 _ (List.getElem_mem hi)⟩
  · obtain ⟨a', e, _, c⟩ := h.1 _ _ (g 1 _ rfl); cases e; rw [← add_add'] at c; exact c
  · obtain ⟨a', e, _, c⟩ := h.1 _ _ (g 2 _ rfl); cases e; rw [← add_add'] at c; exact c
  · obtain ⟨a', e, _, c⟩ := h.1 _ _ (g 3 _ rfl); cases e; rw [← add_add'] at c; exact c
  · obtain ⟨a', e, _, c⟩ := h.1 _ _ (g 4 _ rfl); cases e; rw [← add_add'] at c; exact c
  · obtain ⟨a', e, _, c⟩ := h.1 _ _ (g 5 _ rfl); cases e; rw [← add_add'] at c; exact c
  · obtain ⟨a', e, _, c⟩ := h.1 _ _ (g 6 _ rfl); cases e; rw [← add_add'] at c; exact c
end Go.Proofs.Ytebeefkibbbkdaa
/- SimfsScripts: the law. -/
namespace Go.Proofs.Ytebeefkibbbkdaa
open Go.RowKit Go.Maps

set_option maxRecDepth 100000 in
set_option maxHeartbeats 16000000 in
theorem stepLo (W : World) (S : Nat → Prop) (d : Nat) (s : Dk) (N : Nat) (L : Nat → Nat) (rb bb : Nat) (st : SC) (w : World) (h : Bo W w S d s N L rb s bb) (hk : st.kind < 1) :
    Calls Try.prog 18 #[.pointer (some ⟨bb, 0, none⟩), .agg st.cells.toArray] w fun e w' => e = .returned (.bool true) ∧ ∃ S' d' L' rb', Bo W w' S' d' (s) (N + 1) L' rb' (s) bb := by
  obtain ⟨k, nm, nt, x, y, A, bs, c, A2, ps, c2⟩ := st
  obtain ⟨n, hn⟩ : ∃ n, bs.length = n := ⟨_, rfl⟩
  obtain ⟨n2, hn2⟩ : ∃ n2, ps.length = n2 := ⟨_, rfl⟩
  dsimp only at hk
  simp only [SC.cells, hn, hn2]
  have M0 := Lib.hid (Bs.start h #[.int .i64 k, .string nm, .string nt, .int .i64 x, .int .i64 y, .slice A n c, .slice A2 n2 c2])
  have hxc := M0.out.bx.cell
  clear h hn hn2
  go_enter Try.func18, Try.ntmps18
  go_wp2
  go_ret
  exact ⟨rfl, S, d, L, rb, M0.out.bo.up (Nat.le_succ N)⟩
set_option maxRecDepth 100000 in
set_option maxHeartbeats 16000000 in
theorem stepHi (W : World) (S : Nat → Prop) (d : Nat) (s : Dk) (N : Nat) (L : Nat → Nat) (rb bb : Nat) (st : SC) (w : World) (h : Bo W w S d s N L rb s bb) (hk : 14 < st.kind) :
    Calls Try.prog 18 #[.pointer (some ⟨bb, 0, none⟩), .agg st.cells.toArray] w fun e w' => e = .returned (.bool true) ∧ ∃ S' d' L' rb', Bo W w' S' d' (s) (N + 1) L' rb' (s) bb := by
  obtain ⟨k, nm, nt, x, y, A, bs, c, A2, ps, c2⟩ := st
  obtain ⟨n, hn⟩ : ∃ n, bs.length = n := ⟨_, rfl⟩
  obtain ⟨n2, hn2⟩ : ∃ n2, ps.length = n2 := ⟨_, rfl⟩
  dsimp only at hk
  simp only [SC.cells, hn, hn2]
  have M0 := Lib.hid (Bs.start h #[.int .i64 k, .string nm, .string nt, .int .i64 x, .int .i64 y, .slice A n c, .slice A2 n2 c2])
  have hxc := M0.out.bx.cell
  clear h hn hn2
  go_enter Try.func18, Try.ntmps18
  go_wp2
  go_ret
  exact ⟨rfl, S, d, L, rb, M0.out.bo.up (Nat.le_succ N)⟩
theorem step_any (W : World) (S : Nat → Prop) (d : Nat) (s : Dk) (T N : Nat) (L : Nat → Nat) (rb bb : Nat) (st : SC) (w : World) (h : Bo W w S d s N L rb s bb) (hB : Bd s T N) (hT : T ≤ 1073741824) (hN : N ≤ 999999) (hN2 : 65536 ≤ N) (hs : st.Ok W W.heap.size) (hc2 : st.ps.length ≤ st.c2) (hps : st.ps.length ≤ 1048576) (hbs : st.bs.length ≤ 1048576) (hy : st.y ≤ 9223372036854775807) :
    Calls Try.prog 18 #[.pointer (some ⟨bb, 0, none⟩), .agg st.cells.toArray] w fun e w' => e = .returned (.bool true) ∧ ∃ S' d' L' rb', Bo W w' S' d' (stepS st s) (N + 1) L' rb' (stepS st s) bb := by
  have hfm : s.files.length ≤ 999999 := Nat.le_trans hB.fl hN
  by_cases h17 : 1 ≤ st.kind ∧ st.kind ≤ 7
  · have e : stepS st s = chS st s := by unfold stepS; rw [if_pos h17]
    rw [e]
    have key : Calls Try.prog 18 #[.pointer (some ⟨bb, 0, none⟩), .agg st.cells.toArray] w fun e w' => e = .returned (.bool true) ∧ ∃ S' L', Bo W w' S' d (chS st s) (N + 1) L' rb (chS st s) bb := by
      rcases (show st.kind = 1 ∨ st.kind = 2 ∨ st.kind = 3 ∨ st.kind = 4 ∨ st.kind = 5 ∨ st.kind = 6 ∨ st.kind = 7 by omega) with k | k | k | k | k | k | k
      · exact step1 W S d s N L rb bb st w h hN hfm k hs hbs
      · exact step2 W S d s N L rb bb st w h hN hfm k hs hbs
      · exact step3 W S d s N L rb bb st w h hN hfm k hs hbs
      · exact step4 W S d s N L rb bb st w h hN hfm k hs hbs
      · exact step5 W S d s N L rb bb st w h hN hfm k hs hbs
      · exact step6 W S d s N L rb bb st w h hN hfm k hs hbs
      · exact step7 W S d s N L rb bb st w h hN hfm k hs hbs
    exact key.mono fun _ _ ⟨h1, S', L', h2⟩ => ⟨h1, S', d, L', rb, h2⟩
  · by_cases h11 : st.kind = 11
    · have e : stepS st s = setQuotaS st.y s := by unfold stepS; rw [if_neg h17, if_pos h11]
      rw [e]; exact step11 W S d s N L rb bb st w h hN hfm h11 hs
    · by_cases h12 : st.kind = 12
      · have e : stepS st s = fuseS st.y s := by unfold stepS; rw [if_neg h17, if_neg h11, if_pos h12]
        rw [e]; exact step12 W S d s N L rb bb st w h hN hfm h12 hs hy
      · by_cases h14 : st.kind = 14
        · have e : stepS st s = ldS s.quota (crashL s st.ps) := by unfold stepS; rw [if_neg h17, if_neg h11, if_neg h12, if_pos h14]
          rw [e]; exact step14 W S d s N L rb bb st w h hN hfm h14 hs hc2 hps hN2 (hB.crash h.lv.2.2.2 hT h.lv.2.2.2.rg.q st.ps).1
        · have e : stepS st s = s := by unfold stepS; rw [if_neg h17, if_neg h11, if_neg h12, if_neg h14]
          rw [e]
          rcases (show st.kind < 1 ∨ 14 < st.kind ∨ st.kind = 8 ∨ st.kind = 9 ∨ st.kind = 10 ∨ st.kind = 13 by omega) with k | k | k | k | k | k
          · exact stepLo W S d s N L rb bb st w h k
          · exact stepHi W S d s N L rb bb st w h k
          · exact step8 W S d s N L rb bb st w h hN hfm k hs
          · exact step9 W S d s N L rb bb st w h hN hfm k hs
          · exact step10 W S d s N L rb bb st w h hN hfm k hs
          · exact step13 W S d s N L rb bb st w h hN hfm k hs hc2 hps
/-- What every step of a script that came in is known to be. -/
structure ScOk (l : List SC) : Prop where
  bs : ∀ s ∈ l, s.bs.length ≤ 1048576
  ps : ∀ s ∈ l, s.ps.length ≤ 1048576
  pc : ∀ s ∈ l, s.ps.length ≤ s.c2
  y : ∀ s ∈ l, s.y ≤ 9223372036854775807
  sum : (l.map fun s => s.bs.length).sum ≤ 1048576
def sumTo (l : List SC) (j : Nat) : Nat := ((l.take j).map fun s => s.bs.length).sum
theorem sumTo_le (l : List SC) (j : Nat) : sumTo l j ≤ (l.map fun s => s.bs.length).sum := by
  have h : (l.map fun s => s.bs.length).sum = sumTo l j + ((l.drop j).map fun s => s.bs.length).sum := by
    unfold sumTo
    rw [← List.sum_append_nat, ← List.map_append, List.take_append_drop]
  omega
theorem sumTo_succ {l : List SC} {j : Nat} {st : SC} (h : l[j]? = some st) : sumTo l (j + 1) = sumTo l j + st.bs.length := by
  obtain ⟨hj, rfl⟩ := List.getElem?_eq_some_iff.1 h
  unfold sumTo
  rw [List.take_succ_eq_append_getElem hj, List.map_append, List.sum_append_nat]
  simp
/-- Both disks, in a script: T bytes at most, N numbers at most. -/
def Gs (W w : World) (bb T N : Nat) : Prop := ∃ S d s L rb, Bo W w S d s N L rb s bb ∧ Bd s T N
theorem Gs.next {W w w' : World} {bb T N : Nat} (h : Gs W w bb T N) (hb : Below w.heap.size w w') : Gs W w' bb T N := by
  obtain ⟨S, d, s, L, rb, h1, h2⟩ := h
  exact ⟨S, d, s, L, rb, h1.next hb, h2⟩
theorem Gs.bel {W w : World} {bb T N : Nat} (h : Gs W w bb T N) : Below W.heap.size W w := by
  obtain ⟨S, d, s, L, rb, h1, h2⟩ := h
  exact h1.bel
theorem Gs.facts {W w : World} {bb T N : Nat} (h : Gs W w bb T N) (hN : N ≤ 9999999) : Calls Try.prog 17 #[.pointer (some ⟨bb, 0, none⟩)] w fun e w' => e = .returned (.bool true) ∧ Gs W w' bb T N := by
  obtain ⟨S, d, s, L, rb, h1, h2⟩ := h
  exact (facts_any W S d s N L rb bb w h1 hN (Nat.le_trans h2.fl hN)).mono fun _ _ ⟨e, hb⟩ => ⟨e, S, d, s, L, rb, h1.next hb, h2⟩
theorem Gs.step {W w : World} {bb T N : Nat} {st : SC} (h : Gs W w bb T N) (hT : T ≤ 1073741824) (hN : N ≤ 999999) (hN2 : 65536 ≤ N) (hs : st.Ok W W.heap.size) (hc2 : st.ps.length ≤ st.c2) (hps : st.ps.length ≤ 1048576) (hbs : st.bs.length ≤ 1048576) (hy : st.y ≤ 9223372036854775807) :
    Calls Try.prog 18 #[.pointer (some ⟨bb, 0, none⟩), .agg st.cells.toArray] w fun e w' => e = .returned (.bool true) ∧ Gs W w' bb (T + st.bs.length) (N + 1) := by
  obtain ⟨S, d, s, L, rb, h1, h2⟩ := h
  exact (step_any W S d s T N L rb bb st w h1 h2 hT hN hN2 hs hc2 hps hbs hy).mono fun _ _ ⟨e, S', d', L', rb', g⟩ => ⟨e, S', d', _, L', rb', g, step_bd h2 h1.lv.2.2.2 hT hN2⟩
/-- Two disks, made apart, put side by side. -/
theorem Gs.made {W w : World} {S : Nat → Prop} {d rb N T : Nat} {L : Nat → Nat} {s : Dk} (h : Lv W w S d s N) (hr : RDk w L rb s) (hl : ∀ b, L b ≠ 0 → W.heap.size ≤ b) (ha : ∀ b, S b → L b = 0) (hB : Bd s T N) :
    Gs W (w.alloc (.cells #[.pointer (some ⟨d, 0, none⟩), .pointer (some ⟨rb, 0, none⟩)] 49)) w.heap.size T N := by
  have hb := Below.al w (.cells #[.pointer (some ⟨d, 0, none⟩), .pointer (some ⟨rb, 0, none⟩)] 49)
  refine ⟨S, d, s, L, rb, ⟨h.next hb, hr.next hb, hl, ha, Box.new w _ _, fun hS => ?_, ?_, h.2.2.1.size⟩, hB⟩
  · have := h.lt _ hS; omega
  · exact Classical.byContradiction fun hne => by have := hr.lt _ hne; omega
set_option maxRecDepth 100000 in
set_option maxHeartbeats 16000000 in
theorem scripts_law (q : Int) (A : Option Addr) (n c : Nat) (l : List SC) (W : World) (hA : Stp W W.heap.size A l) (hn : l.length = n) (hnm : n ≤ 900000) (hO : ScOk l) :
    Calls Try.prog 5 #[.int .i64 q, .slice A n c] W fun e w' => e = .returned (.bool true) ∧ Below W.heap.size W w' := by
  have HA := Lib.hid (And.intro hA (And.intro hn hO))
  clear hA hn hO
  by_cases hq : 0 ≤ q ∧ q ≤ 1073741824
  · have HQ := Lib.hid hq
    clear hq
    go_enter Try.func5, Try.ntmps5
    go_wp2_with (first
      | (go_at_call 19
         refine (new_lv q W (Below.refl _ _) HQ.out).mono ?_
         rintro e w0 ⟨d, S0, rfl, h0, g0, _⟩
         have H0 := Lib.hid (And.intro h0 g0)
         clear h0 g0)
      | (go_at_call 20
         refine (newR_any q w0 HQ.out).mono ?_
         rintro e w1 ⟨rb, L1, rfl, g1, g2, g3⟩
         have H1 := Lib.hid (show Gs W (w1.alloc (.cells #[.pointer (some ⟨d, 0, none⟩), .pointer (some ⟨rb, 0, none⟩)] 49)) w1.heap.size (sumTo l 0) (65536 + 0) from
           Gs.made ((H0.out.1.next g3).up (Nat.zero_le _)) g1 (fun b hb => Nat.le_trans H0.out.1.2.2.1.size (g2 b hb)) (fun b hb => Classical.byContradiction fun hne => by have := g2 b hne; have := H0.out.1.lt b hb; omega) (Bd.fresh q))
         clear g1 g2 g3))
    go_loopw [10] (fun i wr => ∃ (j : Nat), j ≤ n ∧ i = .int .i64 j ∧ Gs W wr w1.heap.size (sumTo l j) (65536 + j)) (fun i _ => n - (intOf i).toNat)
    case atStart => exact ⟨0, Nat.zero_le _, rfl, H1.out⟩
    case round =>
      obtain ⟨j, hj, rfl, hL⟩ := hrel
      by_cases hlt : j < n
      · have hk0 : (0 : Int) ≤ j := by omega
        have hk1 : (j : Int) < n := by omega
        obtain ⟨st, hst⟩ : ∃ st, l[j]? = some st := ⟨_, List.getElem?_eq_getElem (by rw [HA.out.2.1]; exact hlt)⟩
        obtain ⟨ad, rfl, had, c0, c1, c2, c3, c4, c5, c6, _⟩ := (HA.out.1.below hL.bel).step hst
        have HT := sumTo_le l (j + 1)
        have HT2 := sumTo_le l j
        have hTs := HA.out.2.2.sum
        have HS := Lib.hid (hL.step (by omega) (by omega) (by omega) (HA.out.1.2 st (List.mem_of_getElem? hst)) (HA.out.2.2.pc st (List.mem_of_getElem? hst)) (HA.out.2.2.ps st (List.mem_of_getElem? hst)) (HA.out.2.2.bs st (List.mem_of_getElem? hst)) (HA.out.2.2.y st (List.mem_of_getElem? hst)))
        rw [← sumTo_succ hst] at HS
        clear HT HT2 hTs had hst
        obtain ⟨k, nm, nt, x, y, Ab, bs, cb, Ap, ps, cp⟩ := st
        obtain ⟨nb, hnb⟩ : ∃ nb, bs.length = nb := ⟨_, rfl⟩
        obtain ⟨np, hnp⟩ : ∃ np, ps.length = np := ⟨_, rfl⟩
        dsimp only at c0 c1 c2 c3 c4 c5 c6
        simp only [SC.cells, hnb, hnp] at HS
        rw [hnb] at c5
        rw [hnp] at c6
        clear hnb hnp hL
        have T0 := trivial
        go_wp2_with (first
          | (go_at_call 18
             refine HS.out.mono ?_
             rintro e w2 ⟨rfl, g2⟩
             have H2 := Lib.hid g2
             clear g2)
          | (go_at_call 17
             refine (H2.out.facts (by omega)).mono ?_
             rintro e w3 ⟨rfl, g3⟩
             have H3 := Lib.hid g3
             clear g3))
        go_roundw
        case rel => exact ⟨j + 1, by omega, by go_num, H3.out⟩
        case measure => simp [intOf]; omega
      · have hk1 : ¬ (j : Int) < n := by omega
        have HL := Lib.hid hL
        clear hL
        go_wp2_with (first
          | (go_at_call 17
             refine (HL.out.facts (by omega)).mono ?_
             rintro e w3 ⟨rfl, g3⟩
             have H3 := Lib.hid g3
             clear g3))
        go_ret
        exact ⟨rfl, H3.out.bel⟩
  · have HQ := Lib.hid hq
    clear hq
    go_enter Try.func5, Try.ntmps5
    go_wp2_with (first
      | (go_at_call 19
         refine (new_no q W HQ.out).mono ?_
         rintro e w0 ⟨rfl, rfl⟩)
      | (go_at_call 20
         refine (newR_no q _ (by have := HQ.out; omega)).mono ?_
         rintro e w0 ⟨rfl, rfl⟩))
    go_ret
    exact ⟨rfl, Below.refl _ _⟩
end Go.Proofs.Ytebeefkibbbkdaa
/- A script that came in, opened: the picks' capacities too. -/
namespace Go.Proofs.Ytebeefkibbbkdaa
open Go.RowKit Go.ChangeShapes Go.WideShapes Go.ChangeAt Go.Deep

section
variable {H : Type} {enc : TypeId × Value → H} {P : Program} {w : World} {n : Nat} {t e : TypeId} {c : Value} {y : DataW H × List MemPlace}
theorem op_intsc {k : IntKind} (ht : P.underlying t = some (.slice e)) (he : P.underlying e = some (.int k)) (hc : P.cellsOf e = 1) (h : TR enc P w n t [c] y) :
    ∃ (A : Option Addr) (l : List Int) (cap : Nat), c = .slice A l.length cap ∧ Rd w w.heap.size A (l.map (.int k)) ∧ (∀ x ∈ l, (Lit.int k x).wf = true) ∧ ((y.1 = .nil ∧ l = []) ∨ ∃ el sp, y.1 = .slice el sp ∧ el.length = l.length) ∧ l.length ≤ cap := by
  rcases open_ints ht he hc h with ⟨hcs, hy⟩ | ⟨a, len, cap, zs, hcs, _, hl, hm, hz, hy, hcell, hw⟩
  · refine ⟨none, [], 0, by simpa using hcs, Rd.nil _ _ _, by simp, .inl ⟨by rw [hy], rfl⟩, Nat.le_refl _⟩
  · have hz' : zs.length = cap := by simpa using hz
    have hlen : (zs.take len).length = len := by simp; omega
    refine ⟨some a, zs.take len, cap, by rw [hlen]; simpa using hcs, ?_, fun x hx => hw x (List.mem_of_mem_take hx), .inr ⟨lits k (zs.take len), lits k (zs.drop len), by rw [hy], by simp [lits]⟩, by rw [hlen]; exact hl⟩
    intro j u hj
    obtain ⟨hj1, hj2⟩ := List.getElem?_eq_some_iff.1 hj
    have hjl : j < zs.length := by simp at hj1; omega
    have hc := hcell j hjl
    refine ⟨a, rfl, ?_, ?_⟩
    · rw [← add_block a j]; exact World.block_lt_of_cell? _ _ hc
    · rw [hc, ← hj2]; simp [List.getD_eq_getElem?_getD, List.getElem?_eq_getElem hjl]
end
section
variable {H : Type} {enc : TypeId × Value → H} {w : World}
set_option maxRecDepth 100000 in
theorem step_cap (s : SC) (n : Nat) (y : DataW H × List MemPlace) (h : TR enc Try.prog w n 52 s.cells y) : s.ps.length ≤ s.c2 := by
  obtain ⟨_, ys, n', _, _, hf⟩ := op_fields Try.underlying52 (by kernel_rfl) (by kernel_rfl) h
  obtain ⟨v, z6, e6, y6, t6⟩ := hf 6 _ rfl
  cases e6
  obtain ⟨A, l, c, e, _, _, _, hc⟩ := op_intsc Try.underlying23 Try.underlying3 (by kernel_rfl) t6
  injection e with _ e1 e2
  omega
end
section
variable {H : Type} {enc : TypeId × Value → H} {w : World}
set_option maxRecDepth 100000 in
theorem op_stepsc (n : Nat) (c : Value) (y : DataW H × List MemPlace) (h : TR enc Try.prog w n 39 [c] y) :
    ∃ (A : Option Addr) (l : List SC) (cap : Nat), c = .slice A l.length cap ∧ Stp w w.heap.size A l ∧ (∀ s ∈ l, s.bs.length ≤ Rows.uptoBulk y.1 ∧ s.ps.length ≤ Rows.uptoBulk y.1) ∧ l.length ≤ Rows.uptoBulk y.1 ∧ l.length ≤ cap ∧ ∀ s ∈ l, s.ps.length ≤ s.c2 := by
  rcases open_slice Try.underlying39 h with ⟨hcs, hy⟩ | ⟨a, len, cap, q, n', D, Pl, hcs, _, hl, hm, hq, hy, hi⟩
  · exact ⟨none, [], 0, by simpa using hcs, ⟨Rd.nil _ _ _, by simp⟩, by simp, Nat.zero_le _, Nat.le_refl _, by simp⟩
  · have hq' : q = cap := by simpa using hq
    have hc : Try.prog.cellsOf 52 = 7 := by kernel_rfl
    rw [hc] at hi
    have hf : ∀ s : SC, s.cells.length = 7 := fun _ => rfl
    have hD : ∀ i, i < len → Rows.uptoBulk (D i) ≤ Rows.uptoBulk y.1 := fun i hlt => by
      rw [hy]
      have := bulk_part (show D i ∈ (List.range len).map D from List.mem_map.2 ⟨i, List.mem_range.2 hlt, rfl⟩)
      simp only [Rows.uptoBulk]
      omega
    obtain ⟨l, hll, hlq⟩ := list_choice (Q := fun i (b : SC) => ((b.Ok w w.heap.size ∧ b.bs.length ≤ Rows.uptoBulk y.1 ∧ b.ps.length ≤ Rows.uptoBulk y.1) ∧ b.ps.length ≤ b.c2) ∧ w.cells? 0 (a.add (i * 7)) 7 = some b.cells) len fun i hlt => by
      obtain ⟨cs', h1, h2⟩ := hi i (by omega)
      obtain ⟨b, parts, rfl, hg, e2, _, ⟨d5, e5, b5⟩, d6, e6, b6⟩ := op_step _ _ _ h2
      have hd := hD i hlt
      have e2' : D i = .agg parts := e2
      rw [e2'] at hd
      have h5 := bulk_nth e5
      have h6 := bulk_nth e6
      have g5 := bulk_to b5 (fun h => by rw [h]; rfl)
      have g6 := bulk_to b6 (fun h => by rw [h]; rfl)
      exact ⟨b, ⟨⟨hg, by omega, by omega⟩, step_cap _ _ _ h2⟩, h1⟩
    refine ⟨some a, l, cap, by rw [hll]; simpa using hcs, ⟨?_, fun s hs => ?_⟩, fun s hs => ?_, ?_, by omega, fun s hs => ?_⟩
    · intro j u hj
      obtain ⟨b, h1, h2⟩ := flat_at SC.cells 7 hf l j u hj
      obtain ⟨_, h3⟩ := hlq _ _ h1
      obtain ⟨_, _, h4⟩ := World.cells?_some h3
      have hlt : j % 7 < 7 := Nat.mod_lt _ (by decide)
      have h5 := h4 (j % 7) hlt
      rw [h2, add_add', Nat.mul_comm, Nat.div_add_mod] at h5
      refine ⟨a, rfl, ?_, h5⟩
      rw [← add_block a j]; exact World.block_lt_of_cell? _ _ h5
    · obtain ⟨i, hi', rfl⟩ := List.getElem_of_mem hs
      exact (hlq i _ (List.getElem?_eq_getElem hi')).1.1.1
    · obtain ⟨i, hi', rfl⟩ := List.getElem_of_mem hs
      exact (hlq i _ (List.getElem?_eq_getElem hi')).1.1.2
    · rw [hy, hll]
      have := bulk_len ((List.range len).map D)
      simp only [List.length_map, List.length_range] at this
      simp only [Rows.uptoBulk]
      omega
    · obtain ⟨i, hi', rfl⟩ := List.getElem_of_mem hs
      exact (hlq i _ (List.getElem?_eq_getElem hi')).1.2
end
end Go.Proofs.Ytebeefkibbbkdaa
/- A script that came in, opened: the numbers N too, and all the bytes together. -/
namespace Go.Proofs.Ytebeefkibbbkdaa
open Go.RowKit Go.ChangeShapes Go.WideShapes Go.ChangeAt Go.Deep

theorem bulk_nth_len {H : Type} : ∀ (parts : List (DataW H)) (j : Nat) (d : DataW H), parts[j]? = some d → Rows.uptoBulk d + parts.length ≤ Rows.uptoBulkAll parts + 1
  | [], _, _, h => by simp at h
  | x :: r, 0, d, h => by
    simp only [List.getElem?_cons_zero, Option.some.injEq] at h
    subst h
    have := bulk_len r
    simp only [Rows.uptoBulkAll, List.length_cons]; omega
  | x :: r, j + 1, d, h => by
    have := bulk_nth_len r j d (by simpa using h)
    have := bulk_one x
    simp only [Rows.uptoBulkAll, List.length_cons]; omega
theorem bulk_to1 {H : Type} {d : DataW H} {n : Nat} {p : Prop} (h : (d = .nil ∧ p) ∨ ∃ el sp, d = .slice el sp ∧ el.length = n) (hp : p → n = 0) : n + 1 ≤ Rows.uptoBulk d := by
  rcases h with ⟨_, h⟩ | ⟨el, sp, rfl, h2⟩
  · rw [hp h]; have := bulk_one d; omega
  · have := bulk_len el; simp only [Rows.uptoBulk]; omega
theorem sum_bulk {H : Type} : ∀ (l : List SC) (ds : List (DataW H)), l.length = ds.length → (∀ (i : Nat) (s : SC) (d : DataW H), l[i]? = some s → ds[i]? = some d → s.bs.length + 8 ≤ Rows.uptoBulk d) → (l.map fun s => s.bs.length).sum + 8 * l.length ≤ Rows.uptoBulkAll ds
  | [], _, _, _ => by simp
  | s :: l, [], h, _ => by simp at h
  | s :: l, d :: ds, h, hq => by
    have h1 := hq 0 s d rfl rfl
    have h2 := sum_bulk l ds (by simpa using h) fun i s' d' e1 e2 => hq (i + 1) s' d' (by simpa using e1) (by simpa using e2)
    simp only [List.map_cons, List.sum_cons, List.length_cons, Rows.uptoBulkAll]; omega
section
variable {H : Type} {enc : TypeId × Value → H} {w : World}
set_option maxRecDepth 100000 in
theorem step_y (s : SC) (n : Nat) (y : DataW H × List MemPlace) (h : TR enc Try.prog w n 52 s.cells y) : s.y ≤ 9223372036854775807 := by
  obtain ⟨_, ys, n', _, _, hf⟩ := op_fields Try.underlying52 (by kernel_rfl) (by kernel_rfl) h
  obtain ⟨v, z4, e4, y4, t4⟩ := hf 4 _ rfl
  cases e4
  obtain ⟨x, e, _, hw⟩ := op_int Try.underlying3 t4
  injection e with _ e1
  subst e1
  simp [Lit.wf, IntKind.min, IntKind.max, IntKind.signed, IntKind.bits] at hw
  omega
end
section
variable {H : Type} {enc : TypeId × Value → H} {w : World}
set_option maxRecDepth 100000 in
theorem op_stepsv (n : Nat) (c : Value) (y : DataW H × List MemPlace) (h : TR enc Try.prog w n 39 [c] y) :
    ∃ (A : Option Addr) (l : List SC) (cap : Nat), c = .slice A l.length cap ∧ Stp w w.heap.size A l ∧ (∀ s ∈ l, s.bs.length ≤ Rows.uptoBulk y.1 ∧ s.ps.length ≤ Rows.uptoBulk y.1) ∧ (l.map fun s => s.bs.length).sum + 8 * l.length ≤ Rows.uptoBulk y.1 ∧ l.length ≤ cap ∧ (∀ s ∈ l, s.ps.length ≤ s.c2) ∧ ∀ s ∈ l, s.y ≤ 9223372036854775807 := by
  rcases open_slice Try.underlying39 h with ⟨hcs, hy⟩ | ⟨a, len, cap, q, n', D, Pl, hcs, _, hl, hm, hq, hy, hi⟩
  · exact ⟨none, [], 0, by simpa using hcs, ⟨Rd.nil _ _ _, by simp⟩, by simp, by simp, Nat.le_refl _, by simp, by simp⟩
  · have hq' : q = cap := by simpa using hq
    have hc : Try.prog.cellsOf 52 = 7 := by kernel_rfl
    rw [hc] at hi
    have hf : ∀ s : SC, s.cells.length = 7 := fun _ => rfl
    have hD : ∀ i, i < len → Rows.uptoBulk (D i) ≤ Rows.uptoBulk y.1 := fun i hlt => by
      rw [hy]
      have := bulk_part (show D i ∈ (List.range len).map D from List.mem_map.2 ⟨i, List.mem_range.2 hlt, rfl⟩)
      simp only [Rows.uptoBulk]
      omega
    obtain ⟨l, hll, hlq⟩ := list_choice (Q := fun i (b : SC) => ((b.Ok w w.heap.size ∧ b.bs.length ≤ Rows.uptoBulk y.1 ∧ b.ps.length ≤ Rows.uptoBulk y.1) ∧ b.ps.length ≤ b.c2 ∧ b.y ≤ 9223372036854775807 ∧ b.bs.length + 8 ≤ Rows.uptoBulk (D i)) ∧ w.cells? 0 (a.add (i * 7)) 7 = some b.cells) len fun i hlt => by
      obtain ⟨cs', h1, h2⟩ := hi i (by omega)
      obtain ⟨b, parts, rfl, hg, e2, hpl, ⟨d5, e5, b5⟩, d6, e6, b6⟩ := op_step _ _ _ h2
      have hd := hD i hlt
      have e2' : D i = .agg parts := e2
      rw [e2'] at hd
      have h5 := bulk_nth e5
      have h5b := bulk_nth_len parts 5 d5 e5
      have h5c := bulk_to1 b5 (fun h => by rw [h]; rfl)
      have h6 := bulk_nth e6
      have g5 := bulk_to b5 (fun h => by rw [h]; rfl)
      have g6 := bulk_to b6 (fun h => by rw [h]; rfl)
      exact ⟨b, ⟨⟨hg, by omega, by omega⟩, step_cap _ _ _ h2, step_y _ _ _ h2, by rw [e2']; simp only [Rows.uptoBulk]; omega⟩, h1⟩
    refine ⟨some a, l, cap, by rw [hll]; simpa using hcs, ⟨?_, fun s hs => ?_⟩, fun s hs => ?_, ?_, by omega, fun s hs => ?_, fun s hs => ?_⟩
    · intro j u hj
      obtain ⟨b, h1, h2⟩ := flat_at SC.cells 7 hf l j u hj
      obtain ⟨_, h3⟩ := hlq _ _ h1
      obtain ⟨_, _, h4⟩ := World.cells?_some h3
      have hlt : j % 7 < 7 := Nat.mod_lt _ (by decide)
      have h5 := h4 (j % 7) hlt
      rw [h2, add_add', Nat.mul_comm, Nat.div_add_mod] at h5
      refine ⟨a, rfl, ?_, h5⟩
      rw [← add_block a j]; exact World.block_lt_of_cell? _ _ h5
    · obtain ⟨i, hi', rfl⟩ := List.getElem_of_mem hs
      exact (hlq i _ (List.getElem?_eq_getElem hi')).1.1.1
    · obtain ⟨i, hi', rfl⟩ := List.getElem_of_mem hs
      exact (hlq i _ (List.getElem?_eq_getElem hi')).1.1.2
    · rw [hy]
      have := sum_bulk l ((List.range len).map D) (by simp [hll]) fun i s d e1 e3 => by
        have h3 := (hlq i _ e1).1.2.2.2
        simp only [List.getElem?_map] at e3
        rw [List.getElem?_range (by have := (List.getElem?_eq_some_iff.1 e1).1; omega)] at e3
        injection e3 with e3
        rw [← e3]; exact h3
      simp only [Rows.uptoBulk]
      omega
    · obtain ⟨i, hi', rfl⟩ := List.getElem_of_mem hs
      exact (hlq i _ (List.getElem?_eq_getElem hi')).1.2.1
    · obtain ⟨i, hi', rfl⟩ := List.getElem_of_mem hs
      exact (hlq i _ (List.getElem?_eq_getElem hi')).1.2.2.1
end
end Go.Proofs.Ytebeefkibbbkdaa
/- SimfsScripts, the '..Upto' form: the law returns true; what came in reads as it did. -/
namespace Go.Proofs.Ytebeefkibbbkdaa
open Go.ChangeShapes Go.WideShapes Go.ChangeAt Go.RowKit Go.Deep

theorem ownK : ownKnob Try.prog.godebug = none := by kernel_rfl
theorem laidOut : laidOutB Try.prog = true := by kernel_rfl

set_option maxRecDepth 100000 in
theorem simfsScripts_lifted (os : Os) (started : os.Started) (H : Type) (enc : TypeId × Value → H) (F : Stop.Interp) :
    ReturnsInHanded {} Try.checked os 5 .any ((Rows.OpenSpec.upto Rows.simfsScriptsSpec).pre6 enc Try.prog Try.f5 Rows.simfsScriptsUptoRow.domain false) (((Rows.OpenSpec.upto Rows.simfsScriptsSpec).at F).post enc Try.prog Try.f5 false true false false) := by
  refine returnsInHanded_of_cond (C := Try.checked) (s := Rows.OpenSpec.upto Rows.simfsScriptsSpec) (k := Rows.uptoSmall) rfl ownK started (by kernel_rfl) Try.func5
    (OpenSpec.witness (enc := enc) (C := Try.checked) (s := Rows.OpenSpec.upto Rows.simfsScriptsSpec) (k := Rows.uptoSmall) rfl false ⟨#[], #[.int .i64 0, .slice none 0 0], []⟩ 8 (by kernel_rfl) (by kernel_rfl) (by kernel_rfl)
      (x := ([.lit (.int .i64 0), .nil], [], [])) (by kernel_rfl) rfl (by kernel_rfl)) ?_
  intro W base args ds gs before hval hW _ hk _
  have hW' := hW
  obtain ⟨p, q, hA0, hV, rfl, hfz, hnd⟩ := hW
  have hA : DataW.TrodAll enc Try.prog W 0 (fun _ => true) true Try.f5.params.toList args.toList ds p := hA0
  rw [Try.params5] at hA hval
  obtain ⟨v0, vs0, d0, ds0, p0, q0, hargs, rfl, rfl, h0, r0⟩ := trodAll_cons hA
  obtain ⟨v1, vs1, d1, ds1, p1, q1, rfl, rfl, rfl, h1, r1⟩ := trodAll_cons r0
  obtain ⟨rfl, rfl, rfl⟩ := trodAll_nil r1
  obtain rfl : args = #[v0, v1] := by cases args; simp_all
  obtain ⟨rfl, rfl⟩ := trodVars_none hV
  have k0 := h0
  have k1 := h1
  have lt0 : ∀ x ∈ p0, x.block < W.heap.size := by obtain ⟨m, hm⟩ := k0; exact DataW.trod_lt m _ _ _ hm
  have lt1 : ∀ x ∈ p1, x.block < W.heap.size := by obtain ⟨m, hm⟩ := k1; exact DataW.trod_lt m _ _ _ hm
  obtain ⟨x0, rfl⟩ := okWide_int Try.underlying3 (hval 0 _ _ rfl rfl)
  obtain ⟨a1, n1, c1, rfl⟩ := okWide_slice Try.underlying39 (hval 1 _ _ rfl rfl)
  obtain ⟨m0, h0'⟩ := h0
  obtain ⟨m1, h1'⟩ := h1
  have hb := bulk_bound hk
  simp only [List.append_nil, Rows.uptoBulkAll] at hb
  obtain ⟨z0, ez0, _, wf0⟩ := op_int (c := .int .i64 x0) Try.underlying3 (by exact h0')
  injection ez0 with _ ez0'
  subst ez0'
  obtain ⟨A1, l1, e1, hv1, st1, bb1, bl1, cp1, pc1, y1⟩ := op_stepsv m1 (.slice a1 n1 c1) (d1, p1) (by exact h1')
  injection hv1 with z1 z2 z3
  subst z1 z2 z3
  dsimp only at bb1 bl1
  clear hA0
  refine (scripts_law x0 _ _ _ l1 W st1 rfl (by omega) ⟨fun s hs => by have := (bb1 s hs).1; omega, fun s hs => by have := (bb1 s hs).2; omega, pc1, y1, by omega⟩).mono fun e W' ⟨he, bel⟩ => ?_
  subst he
  exact ⟨_, rfl, _, _, _, [], _, [], hW', trodAll_mk1 (shut_bool Try.underlying4 _),
    (trodAll_cons_mk (Below.trod laidOut (by kernel_rfl) (of_decide_eq_true (by kernel_rfl)) k0 bel lt0) (trodAll_cons_mk (Below.trod laidOut (by kernel_rfl) (of_decide_eq_true (by kernel_rfl)) k1 bel lt1) trodAll_mk0)), rfl, bel.frame _, fun h => by cases h⟩

theorem simfsScripts_holds : Rows.SimfsScriptsUptoSaid :=
  OpenClaim.holds_of_cond 5 Try.f5 rfl rfl rfl rfl rfl rfl rfl ⟨rfl, rfl, rfl, rfl, rfl⟩ rfl rfl rfl rfl rfl (by kernel_rfl) Try.func5 (by kernel_rfl)
    (of_decide_eq_true (by kernel_rfl)) (by unfold Func.isWrapper; first | (rw [if_pos (by decide +kernel)]; kernel_rfl) | (rw [if_neg (by decide +kernel)]; exact ⟨rfl, rfl⟩))
    (fun os started H enc _ F => simfsScripts_lifted os started H enc F)
end Go.Proofs.Ytebeefkibbbkdaa
