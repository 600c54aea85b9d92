import Derived.Test.YtifimeohdgnehaaHnt9
namespace Go.Proofs.Ytifimeohdgnehaa
open Go.RowKit Go.Maps

theorem Chg.of_grown {w w' : World} {row : Option Nat} (h : w.grownBy w' row) : Chg (fun k => some k = row) w w' := ⟨h.os, h.tape, h.output, h.size, fun k hk hn => h.block k hk hn⟩
theorem Chg.weak {S S' : Nat → Prop} {a b c : World} (h : Chg S a b) (k : Chg S' b c) (hs : ∀ i, i < a.heap.size → S' i → S i) : Chg S a c :=
  ⟨k.os.trans h.os, k.tape.trans h.tape, k.output.trans h.output, Nat.le_trans h.size k.size, fun i hi hn => (k.block i (Nat.lt_of_lt_of_le hi h.size) fun x => hn (hs i hi x)).trans (h.block i hi hn)⟩

theorem Own.off_ {w : World} {B g : Nat} {t : TypeId} {l : List HE} {ts : List Value} (h : Own w B g t (l.flatMap six ++ ts)) {i : Nat} (hi : i < l.length) : w.cell? ⟨g, i * 6 + 1, none⟩ = some (.int .i64 l[i].off) :=
  h.get (by rw [List.getElem?_append_left (by rw [six_len]; omega), six_get l i 1 hi (by omega)]; rfl)
theorem HS.off {w W : World} {H T : Array Value} {bt g i : Nat} {l : List HE} (s : HS w H T bt g l W) (hi : i < l.length) (x : Int) :
    HS w H T bt g (l.set i { l[i] with off := x }) (W.setCell ⟨g, i * 6 + 1, none⟩ (.int .i64 x)).drew := by
  have hg := s.og.1
  exact ⟨(s.h.far (by show w.heap.size ≠ g; omega) _).drew, (s.t.far s.far.2 _).drew, (s.og.six_off hi x).drew, below_drew (s.below.setCell (by show w.heap.size ≤ g; omega) _), s.far⟩

set_option maxRecDepth 100000 in
set_option maxHeartbeats 8000000 in
theorem hintEncodes_any (seg size : Int) (A : Option Addr) (c : Nat) (l : List HE) (w : World) (hA : Rd w w.heap.size A (l.flatMap six)) (ha : l.length * 56 ≤ 140737488351232) :
    Calls Try.prog 3 #[hV seg size (.slice A l.length c)] w fun ee w' => ee = .returned (.bool true) ∧ Below w.heap.size w w' := by
  have hr : ∀ W, Below w.heap.size w W → Rd W W.heap.size A (l.flatMap six) := fun W hb => (hA.below hb).mono hb.size
  have Hr := Lib.hid hr
  have hb0 : Below w.heap.size w (w.alloc (.cells #[.int .i64 seg, .int .i64 size, .slice A l.length c] 24)) := (Below.refl _ _).alloc (Nat.le_refl _) _
  have hm0 : Box (w.alloc (.cells #[.int .i64 seg, .int .i64 size, .slice A l.length c] 24)) w.heap.size 24 #[.int .i64 seg, .int .i64 size, .slice A l.length c] := Box.new w _ _
  have H0 := Lib.hid (And.intro hb0 hm0)
  have hle := encH_len seg size l
  generalize hse : encH seg size l = bs at hle
  generalize hsn : bs.length = n at hle
  generalize hsr : errH seg size l = er
  have Hs := Lib.hid (And.intro hse (And.intro hsn hsr))
  obtain ⟨i0, hi0, hz0, hs0, hy0⟩ := info_parts info_u8
  have hmx : l.length ≤ 140737488355328 := by omega
  clear hr hA hb0 hm0 hse hsn hsr
  unfold hV
  go_enter Try.func3, Try.ntmps3
  go_wp2_with (first
    | (go_at_call 7
       refine (twin_any seg size A c l _ (Hr.out _ H0.out.1) ha).mono ?_
       rintro e0 w1 ⟨g, c1, rfl, hb1, hg1, hcc⟩
       unfold hV
       have y1 := H0.out.2.below hb1 (by simp <;> omega)
       have z1 := y1.cell
       have hs1 : w.heap.size + 1 ≤ w1.heap.size := by have := hb1.size; simp at this; omega
       have hs1a : w.heap.size < w1.heap.size := by omega
       have hgl := hg1.lt
       have S1 : HS w #[.int .i64 seg, .int .i64 size, .slice A l.length c] #[.int .i64 seg, .int .i64 size, .slice (some ⟨g, 0, none⟩) l.length c1] w1.heap.size g l (w1.alloc (.cells #[.int .i64 seg, .int .i64 size, .slice (some ⟨g, 0, none⟩) l.length c1] 24)) := ⟨y1.alloc _, Box.new w1 _ _, (hg1.alloc _).le (by simp), (H0.out.1.trans (hb1.mono (by simp))).alloc (by omega) _, by omega⟩
       have T1 := Lib.hid S1
       have hbt := hs1a
       clear S1 y1 hb1 hg1)
    | (go_at_call 8
       refine (octEncG seg size (some ⟨g, 0, none⟩) c1 l.length n er bs l _ rfl Hs.out.2.2 Hs.out.1 Hs.out.2.1 T1.out.og.rd_pre hmx).mono ?_
       rintro e1 w2 ⟨ba, ca, rfl, hr1, hb1⟩
       rw [World.size_alloc] at hr1
       have S1 := T1.out.next hb1
       have p1a := S1.h.cell
       have p1b := S1.t.cell
       have T2 := Lib.hid S1
       have Ra1 := Lib.hid hr1
       have hba : w1.heap.size < w2.heap.size := by have := hb1.size; simp at this; omega
       have hbg : g ≠ w1.heap.size := by omega
       clear S1 T1 hb1 hr1)
    | (go_at_call 9
       refine (refEncG seg size A c l.length n er bs l _ rfl Hs.out.2.2 Hs.out.1 Hs.out.2.1 (Hr.out _ T2.out.below) hmx).mono ?_
       rintro e2 w3 ⟨bb, cb, rfl, hr2, hb2⟩
       have hz2 := hb2.size
       have S2 := T2.out.next hb2
       have p2a := S2.h.cell
       have p2b := S2.t.cell
       have T3 := Lib.hid S2
       have Ra2 := Lib.hid (Ra1.out.next hb2)
       have Rb2 := Lib.hid hr2
       clear S2 T2 hb2 Ra1 hr2 p1a p1b)
    | (go_at_call 10
       refine (sameBytes_eq n _ _ _ _ bs _ Hs.out.2.1 Ra2.out.rd Rb2.out.rd (by omega)).mono ?_
       rintro e3 w4 ⟨rfl, hb3⟩
       have hz3 := hb3.size
       have S3 := T3.out.next hb3
       have p3a := S3.h.cell
       have p3b := S3.t.cell
       have T4 := Lib.hid S3
       have Ra3 := Lib.hid (Ra2.out.next hb3)
       have Rb3 := Lib.hid (Rb2.out.next hb3)
       clear S3 T3 hb3 Ra2 Rb2 p2a p2b)
    | (go_at_call 11
       refine (kept_any seg size g c1 A c l _ _ T4.out.og (Hr.out _ T4.out.below) hcc (by omega)).mono ?_
       rintro e4 w5 ⟨rfl, hb4⟩
       have hz4 := hb4.size
       have S4 := T4.out.next hb4
       have p4a := S4.h.cell
       have p4b := S4.t.cell
       have T5 := Lib.hid S4
       have Ra4 := Lib.hid (Ra3.out.next hb4)
       have Rb4 := Lib.hid (Rb3.out.next hb4)
       clear S4 T4 hb4 Ra3 Rb3 p3a p3b)
    | (go_at_call 8
       refine (octEncG seg size (some ⟨g, 0, none⟩) c1 l.length n er bs l _ rfl Hs.out.2.2 Hs.out.1 Hs.out.2.1 T5.out.og.rd_pre hmx).mono ?_
       rintro e5 w6 ⟨bd, cd, rfl, hr5, hb5⟩
       have hz5 := hb5.size
       have S5 := T5.out.next hb5
       have p5a := S5.h.cell
       have p5b := S5.t.cell
       have T6 := Lib.hid S5
       have Ra5 := Lib.hid (Ra4.out.next hb5)
       have Rb5 := Lib.hid (Rb4.out.next hb5)
       have Rd5 := Lib.hid hr5
       clear S5 T5 hb5 Ra4 Rb4 hr5 p4a p4b)
    | (go_at_call 8
       refine (octEncAny seg size none 0 0 [] _ rfl (Rd.nil _ _ _) (by omega)).mono ?_
       rintro e6 w7 ⟨bx6, nx6, cx6, ex6, rfl, hb6⟩
       have hz6 := hb6.size
       have S6 := T6.out.next hb6
       have p6a := S6.h.cell
       have p6b := S6.t.cell
       have T7 := Lib.hid S6
       have Ra6 := Lib.hid (Ra5.out.next hb6)
       have Rb6 := Lib.hid (Rb5.out.next hb6)
       have Rd6 := Lib.hid (Rd5.out.next hb6)
       clear S6 T6 hb6 Ra5 Rb5 Rd5 p5a p5b)
    | (go_at_call 10
       refine (sameBytes_eq n _ _ _ _ bs _ Hs.out.2.1 Ra6.out.rd Rb6.out.rd (by omega)).mono ?_
       rintro e7 w8 ⟨rfl, hb7⟩
       have hz7 := hb7.size
       have S7 := T7.out.next hb7
       have p7a := S7.h.cell
       have p7b := S7.t.cell
       have T8 := Lib.hid S7
       have Ra7 := Lib.hid (Ra6.out.next hb7)
       have Rb7 := Lib.hid (Rb6.out.next hb7)
       have Rd7 := Lib.hid (Rd6.out.next hb7)
       clear S7 T7 hb7 Ra6 Rb6 Rd6 p6a p6b)
    | (go_at_call 10
       refine (sameBytes_eq n _ _ _ _ bs _ Hs.out.2.1 Rd7.out.rd Rb7.out.rd (by omega)).mono ?_
       rintro e8 w9 ⟨rfl, hb8⟩
       have hz8 := hb8.size
       have S8 := T8.out.next hb8
       have p8a := S8.h.cell
       have p8b := S8.t.cell
       have T9 := Lib.hid S8
       have Ra8 := Lib.hid (Ra7.out.next hb8)
       have Rb8 := Lib.hid (Rb7.out.next hb8)
       have Rd8 := Lib.hid (Rd7.out.next hb8)
       clear S8 T8 hb8 Ra7 Rb7 Rd7 p7a p7b))
  go_loopw [10] (fun i wr => ∃ (k : Nat) (bs' : List UInt8), k ≤ n ∧ i = .int .i64 k ∧ BR (w1.heap.size + 1) w2.heap.size wr ba n ca bs' ∧ Chg (fun j => w1.heap.size + 1 ≤ j ∧ j < w2.heap.size) w9 wr)
    (fun i _ => n - (intOf i).toNat)
  case atStart => exact ⟨0, bs, Nat.zero_le _, rfl, Ra8.out, Chg.refl _ _⟩
  case round =>
    obtain ⟨k, bs', hk, rfl, hB, hC⟩ := hrel
    by_cases hlt : k < n
    · obtain ⟨ga, rfl, hnc, hcm, hO, hl1, hl2⟩ := hB.some_ (by omega)
      have hk0 : (0 : Int) ≤ k := by omega
      have hk1 : (k : Int) < n := by omega
      have hfk := hO.free k
      have hin := hO.lt
      obtain ⟨uk, hck⟩ : ∃ u, wr.cell? ⟨ga, k, none⟩ = some u := ⟨_, hO.get (List.getElem?_eq_getElem (by rw [bv_len, hB.len]; exact hlt))⟩
      have HH := Lib.hid (And.intro hB hC)
      clear hB hC hO
      go_wp2
      go_roundw
      case rel => exact ⟨k + 1, bs'.set k 7, by omega, by go_num, by simpa using HH.out.1.set_ (k := k) 7, HH.out.2.setCell (.inl ⟨hl1, hl2⟩) _⟩
      case measure => simp [intOf]; omega
    · have HH := Lib.hid (And.intro hB hC)
      clear hB hC
      go_wp2
      go_loopw [11, 12] (fun gr i wr => ∃ (k : Nat) (bg : Option Addr) (cg : Nat) (bs' : List UInt8), k ≤ 64 ∧ i = .int .i64 k ∧ gr = .slice bg (n + k) cg ∧ wr.ownsRow (w1.heap.size + 1) 5 1 (.slice bg (n + k) cg) (n + k) (bv bs') ∧
          (∀ j, (Value.slice bg (n + k) cg).ownBlock = some j → j < w2.heap.size ∨ w9.heap.size ≤ j) ∧ Chg (fun j => w1.heap.size + 1 ≤ j ∧ j < w2.heap.size) w9 wr)
        (fun _ i _ => 64 - (intOf i).toNat)
      case atStart => exact ⟨0, ba, ca, bs', by omega, rfl, rfl, HH.out.1.own, fun j hj => .inl (HH.out.1.top j hj), HH.out.2⟩
      case round =>
        clear HH
        obtain ⟨k, bg, cg, bs', hk, rfl, rfl, hO, hj, hC⟩ := hrel
        have hsz := hC.size
        have HH := Lib.hid (And.intro hO (And.intro hj hC))
        clear hO hj hC
        by_cases hlt : k < 64
        · go_wp2_with (at_builtin
                       refine wpList_app _ rfl (.tmp 87) (.tmp 88) _ rfl (w1.heap.size + 1) 5 i0 _ 1 1 Try.underlying26 hi0 hz0 hs0 hy0 rfl (by omega) (.slice bg (n + k) cg) (n + k) _ rfl (HH.out.1.alloc _) _ _ 1 1 [.int .u8 8] rfl rfl (rd_new _ _ _) (by simp [Value.oneCell']) (by unfold maxLen; omega) (by omega) (by simp <;> omega) ?_
                       intro v' w' hown hg hor
                       obtain ⟨bg', cg', rfl⟩ := ownsRow_slice hown
                       have HG := Lib.hid (And.intro hown (And.intro hg hor))
                       clear hown hg hor)
          go_roundw
          case rel =>
            refine ⟨k + 1, bg', cg', bs' ++ [8], by omega, by go_num, rfl, ?_, ?_, ?_⟩
            · rw [bv_app]; exact HG.out.1
            · intro j hj
              rcases HG.out.2.2 with h | h
              · exact HH.out.2.1 j (h.symm.trans hj)
              · have h2 : (Value.slice bg' (n + (k + 1)) cg').ownBlock = some (wr.alloc (.cells #[.int .u8 8] 5)).heap.size := h
                rw [hj] at h2
                simp at h2
                right; omega
            · refine (HH.out.2.2.alloc _).weak (Chg.of_grown HG.out.2.1) ?_
              intro i hi hs
              have h1 := (HH.out.1.lt i hs.symm).1
              rcases HH.out.2.1 i hs.symm with h2 | h2
              · exact ⟨h1, h2⟩
              · omega
          case measure => simp [intOf]; omega
        · have hke : k = 64 := by omega
          subst hke
          have S0 := T9.out.chg HH.out.2.2 (by intro k hk; omega)
          have q0a := S0.h.cell
          have q0b := S0.t.cell
          have T0 := Lib.hid S0
          have Rb0 := Lib.hid (Rb8.out.chg HH.out.2.2 (by intro k h1 h2 h3; omega))
          have Rd0 := Lib.hid (Rd8.out.chg HH.out.2.2 (by intro k h1 h2 h3; omega))
          clear S0 T9 Ra8 Rb8 Rd8 p8a p8b HH
          go_wp2_with (first
            | (go_at_call 8
               refine (octEncG seg size (some ⟨g, 0, none⟩) c1 l.length n er bs l _ rfl Hs.out.2.2 Hs.out.1 Hs.out.2.1 T0.out.og.rd_pre hmx).mono ?_
               rintro e9 w10 ⟨bc, cc, rfl, hr9, hb9⟩
               have hz9 := hb9.size
               have S9 := T0.out.next hb9
               have p9a := S9.h.cell
               have p9b := S9.t.cell
               have T10 := Lib.hid S9
               have Rb9 := Lib.hid (Rb0.out.next hb9)
               have Rd9 := Lib.hid (Rd0.out.next hb9)
               have Rc9 := Lib.hid hr9
               clear S9 T0 hb9 Rb0 Rd0 hr9 q0a q0b)
            | (go_at_call 10
               refine (sameBytes_eq n _ _ _ _ bs _ Hs.out.2.1 Rc9.out.rd Rb9.out.rd (by omega)).mono ?_
               rintro e10 w11 ⟨rfl, hb10⟩
               have hz10 := hb10.size
               have S10 := T10.out.next hb10
               have p10a := S10.h.cell
               have p10b := S10.t.cell
               have T11 := Lib.hid S10
               have Rb10 := Lib.hid (Rb9.out.next hb10)
               have Rd10 := Lib.hid (Rd9.out.next hb10)
               have Rc10 := Lib.hid (Rc9.out.next hb10)
               clear S10 T10 hb10 Rb9 Rd9 Rc9 p9a p9b)
            | (go_at_call 10
               refine (sameBytes_eq n _ _ _ _ bs _ Hs.out.2.1 Rd10.out.rd Rb10.out.rd (by omega)).mono ?_
               rintro e11 w12 ⟨rfl, hb11⟩
               have hz11 := hb11.size
               have S11 := T11.out.next hb11
               have p11a := S11.h.cell
               have p11b := S11.t.cell
               have T12 := Lib.hid S11
               have Rb11 := Lib.hid (Rb10.out.next hb11)
               have Rd11 := Lib.hid (Rd10.out.next hb11)
               have Rc11 := Lib.hid (Rc10.out.next hb11)
               clear S11 T11 hb11 Rb10 Rd10 Rc10 p10a p10b))
          have T0 := T12
          clear T12 p11a p11b Rb11 Rc11 Rd11
          go_loopw [15] (fun i wr => ∃ (k : Nat) (l' : List HE), k ≤ l.length ∧ i = .int .i64 k ∧ l'.length = l.length ∧ HS w #[.int .i64 seg, .int .i64 size, .slice A l.length c] #[.int .i64 seg, .int .i64 size, .slice (some ⟨g, 0, none⟩) l.length c1] w1.heap.size g l' wr)
            (fun i _ => l.length - (intOf i).toNat)
          case atStart => exact ⟨0, l, Nat.zero_le _, rfl, rfl, T0.out⟩
          case round =>
            clear T0
            obtain ⟨k, l', hk, rfl, hl, hS⟩ := hrel
            have hcx := hS.t.cell
            have Hl := Lib.hid hl
            by_cases hlt : k < l.length
            · have hlt' : k < l'.length := by omega
              have hk0 : (0 : Int) ≤ k := by omega
              have hk1 : (k : Int) < l.length := by omega
              have hck := hS.og.off_ hlt'
              have hfk := hS.og.free (k * 6 + 1)
              have HH := Lib.hid hS
              clear hS hl
              go_wp2
              go_still_tail 12, (by kernel_rfl)
              go_wp2
              go_roundw
              case rel => exact ⟨k + 1, _, by omega, by go_num, by rw [List.length_set]; exact Hl.out, HH.out.off hlt' _⟩
              case measure => simp [intOf]; omega
            · have hle2 := encH_len seg size l'
              generalize hse : encH seg size l' = bs2 at hle2
              generalize hsn : bs2.length = n2 at hle2
              generalize hsr : errH seg size l' = er2
              have Hs2 := Lib.hid (And.intro hse (And.intro hsn hsr))
              have T0 := Lib.hid hS
              have q0a := hS.h.cell
              have q0b := hS.t.cell
              clear hse hsn hsr hS hl hcx
              go_wp2_with (first
                | (go_at_call 8
                   refine (octEncG seg size (some ⟨g, 0, none⟩) c1 l.length n2 er2 bs2 l' _ Hl.out Hs2.out.2.2 Hs2.out.1 Hs2.out.2.1 T0.out.og.rd_pre hmx).mono ?_
                   rintro e12 w13 ⟨bx, cx, rfl, hr12, hb12⟩
                   have hz12 := hb12.size
                   have S12 := T0.out.next hb12
                   have p12a := S12.h.cell
                   have p12b := S12.t.cell
                   have T13 := Lib.hid S12
                   have Rx12 := Lib.hid hr12
                   clear S12 T0 hb12 hr12 q0a q0b)
                | (go_at_call 9
                   refine (refEncG seg size (some ⟨g, 0, none⟩) c1 l.length n2 er2 bs2 l' _ Hl.out Hs2.out.2.2 Hs2.out.1 Hs2.out.2.1 T13.out.og.rd_pre hmx).mono ?_
                   rintro e13 w14 ⟨bz, cz, rfl, hr13, hb13⟩
                   have hz13 := hb13.size
                   have S13 := T13.out.next hb13
                   have p13a := S13.h.cell
                   have p13b := S13.t.cell
                   have T14 := Lib.hid S13
                   have Rx13 := Lib.hid (Rx12.out.next hb13)
                   have Rz13 := Lib.hid hr13
                   clear S13 T13 hb13 Rx12 hr13 p12a p12b)
                | (go_at_call 10
                   refine (sameBytes_eq n2 _ _ _ _ bs2 _ Hs2.out.2.1 Rx13.out.rd Rz13.out.rd (by omega)).mono ?_
                   rintro e14 w15 ⟨rfl, hb14⟩
                   have hz14 := hb14.size
                   have S14 := T14.out.next hb14
                   have p14a := S14.h.cell
                   have p14b := S14.t.cell
                   have T15 := Lib.hid S14
                   have Rx14 := Lib.hid (Rx13.out.next hb14)
                   have Rz14 := Lib.hid (Rz13.out.next hb14)
                   clear S14 T14 hb14 Rx13 Rz13 p13a p13b))
              go_ret
              exact ⟨rfl, T15.out.below⟩
end Go.Proofs.Ytifimeohdgnehaa
