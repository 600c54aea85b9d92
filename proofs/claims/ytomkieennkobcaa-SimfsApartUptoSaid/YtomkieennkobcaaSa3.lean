import Derived.Test.YtomkieennkobcaaSa2
/- SimfsApart walked. -/
namespace Go.Proofs.Ytomkieennkobcaa
open Go.RowKit Go.Maps

/-- Three disks that know nothing of one another. -/
def Tri (W w : World) (S : Nat → Prop) (d : Nat) (s : Dk) (T : Nat → Prop) (d2 : Nat) (t : Dk) (U : Nat → Prop) (d3 : Nat) (u : Dk) (N : Nat) : Prop :=
  Lv W w S d s N ∧ Lv W w T d2 t N ∧ Lv W w U d3 u N ∧ (∀ b, S b → ¬ T b) ∧ (∀ b, S b → ¬ U b) ∧ ∀ b, T b → ¬ U b
section
variable {W w w' : World} {S T U : Nat → Prop} {d d2 d3 N M : Nat} {s t u s' t' u' : Dk}
theorem Tri.next (h : Tri W w S d s T d2 t U d3 u N) (hb : Below w.heap.size w w') : Tri W w' S d s T d2 t U d3 u N := ⟨h.1.next hb, h.2.1.next hb, h.2.2.1.next hb, h.2.2.2⟩
theorem Tri.drewN (h : Tri W w S d s T d2 t U d3 u N) (k : Nat) : Tri W (w.drewN k) S d s T d2 t U d3 u N := h.next (below_drewN (Below.refl _ _) k)
theorem Tri.up (h : Tri W w S d s T d2 t U d3 u N) (hM : N ≤ M) : Tri W w S d s T d2 t U d3 u M := ⟨h.1.up hM, h.2.1.up hM, h.2.2.1.up hM, h.2.2.2⟩
theorem Lv.low {B : Nat} (h : Lv W w S d s N) (hS : ∀ b, S b → b < B) (hW : W.heap.size ≤ B) (hb : Below B w w') : Lv W w' S d s N :=
  ⟨h.1.keep hb.size fun b hb2 => hb.block b (hS b hb2), h.2.1, h.2.2.1.trans (hb.mono hW), h.2.2.2⟩
theorem apart_new {S S' T : Nat → Prop} {z : Nat} (h : ∀ b, S b → ¬ T b) (h3 : ∀ b, S' b → S b ∨ z ≤ b) (hT : ∀ b, T b → b < z) : ∀ b, S' b → ¬ T b := fun b hb ht => by
  rcases h3 b hb with h4 | h4
  · exact h b h4 ht
  · have := hT b ht; omega
theorem Tri.a (h : Tri W w S d s T d2 t U d3 u N) (hM : N ≤ M) (hT : Lv.Then W w w' S d s' M) : ∃ S', Tri W w' S' d s' T d2 t U d3 u M := by
  obtain ⟨S', h1, h2, h3⟩ := hT
  obtain ⟨ha, hb, hc, q1, q2, q3⟩ := h
  exact ⟨S', h1, (hb.up hM).far h2 (fun b hb hs => q1 b hs hb) ha.2.1, (hc.up hM).far h2 (fun b hb hs => q2 b hs hb) ha.2.1, apart_new q1 h3 hb.lt, apart_new q2 h3 hc.lt, q3⟩
theorem Tri.b (h : Tri W w S d s T d2 t U d3 u N) (hM : N ≤ M) (hT : Lv.Then W w w' T d2 t' M) : ∃ T', Tri W w' S d s T' d2 t' U d3 u M := by
  obtain ⟨T', h1, h2, h3⟩ := hT
  obtain ⟨ha, hb, hc, q1, q2, q3⟩ := h
  exact ⟨T', (ha.up hM).far h2 q1 hb.2.1, h1, (hc.up hM).far h2 (fun b hb hs => q3 b hs hb) hb.2.1, fun b h4 h5 => apart_new (fun b h6 h7 => q1 b h7 h6) h3 ha.lt b h5 h4, q2, apart_new q3 h3 hc.lt⟩
theorem Tri.c (h : Tri W w S d s T d2 t U d3 u N) (hM : N ≤ M) (hT : Lv.Then W w w' U d3 u' M) : ∃ U', Tri W w' S d s T d2 t U' d3 u' M := by
  obtain ⟨U', h1, h2, h3⟩ := hT
  obtain ⟨ha, hb, hc, q1, q2, q3⟩ := h
  exact ⟨U', (ha.up hM).far h2 q2 hc.2.1, (hb.up hM).far h2 q3 hc.2.1, h1, q1, fun b h4 h5 => apart_new (fun b h6 h7 => q2 b h7 h6) h3 ha.lt b h5 h4, fun b h4 h5 => apart_new (fun b h6 h7 => q3 b h7 h6) h3 hb.lt b h5 h4⟩
/-- What lies above all three is written over. -/
theorem Tri.low {B : Nat} (h : Tri W w S d s T d2 t U d3 u N) (hS : (∀ b, S b → b < B) ∧ (∀ b, T b → b < B) ∧ ∀ b, U b → b < B) (hW : W.heap.size ≤ B) (hb : Below B w w') : Tri W w' S d s T d2 t U d3 u N :=
  ⟨h.1.low hS.1 hW hb, h.2.1.low hS.2.1 hW hb, h.2.2.1.low hS.2.2 hW hb, h.2.2.2⟩
theorem Tri.lt (h : Tri W w S d s T d2 t U d3 u N) : (∀ b, S b → b < w.heap.size) ∧ (∀ b, T b → b < w.heap.size) ∧ ∀ b, U b → b < w.heap.size := ⟨h.1.lt, h.2.1.lt, h.2.2.1.lt⟩
/-- The step at j is one that changes a disk: what the test of it says. -/
def Take (l : List SC) (n j : Nat) (v : Value) : Prop := ∃ bb : Bool, v = .bool bb ∧ (bb = true → j < n ∧ ∃ st, l[j]? = some st ∧ 1 ≤ st.kind ∧ st.kind ≤ 7)
theorem take_no (l : List SC) (n j : Nat) : Take l n j (.bool false) := ⟨false, rfl, fun h => by cases h⟩
theorem take_yes {l : List SC} {n j : Nat} {st : SC} (h : j < n) (hs : l[j]? = some st) (hk : 1 ≤ st.kind ∧ st.kind ≤ 7) : Take l n j (.bool true) := ⟨true, rfl, fun _ => ⟨h, st, hs, hk⟩⟩
theorem lv_crash0 (h : Lv W w S d s N) (hN : N ≤ 999999999999) : Calls Try.prog 15 #[.pointer (some ⟨d, 0, none⟩), .slice none 0 0] w fun e w' => ∃ us b cap, e = .returned (.slice b (crashL s []).length cap) ∧ FLs w' w.heap.size (crashL s []) us (.slice b (crashL s []).length cap) ∧ Below w.heap.size w w' := by
  have hR : Rd w w.heap.size none (([] : List Int).map (Value.int .i64)) := Rd.nil _ _ _
  have hl : ([] : List Int).length = 0 := rfl
  exact lv_crash [] none 0 0 h hN hR hl (Nat.le_refl 0) (fun x hx => (by cases hx)) (Nat.zero_le _)
theorem lv_image2 (h : Lv W w S d s N) (hN : N ≤ 999999999999) : Calls Try.prog 25 #[.pointer (some ⟨d, 0, none⟩)] w fun e w' => ∃ us b cap, e = .returned (.slice b (imageL s).length cap) ∧ (FLs w' w.heap.size (imageL s) us (.slice b (imageL s).length cap) ∧ Apart us) ∧ Below w.heap.size w w' :=
  image_apart S d N s w h.1 h.2.2.2.ok h.2.2.2.sz.wide hN
end
set_option maxRecDepth 100000 in
set_option maxHeartbeats 32000000 in
theorem apart_law (q : Int) (A : Option Addr) (n c : Nat) (l : List SC) (A' : Option Addr) (n' c' : Nat) (l' : List SC) (W : World) (hA : Stp W W.heap.size A l) (hn : l.length = n) (hnm : n ≤ 99999999999) (hb : ∀ s ∈ l, s.bs.length ≤ 1048576)
    (hA' : Stp W W.heap.size A' l') (hn' : l'.length = n') (hnm' : n' ≤ 99999999999) (hb' : ∀ s ∈ l', s.bs.length ≤ 1048576) :
    Calls Try.prog 6 #[.int .i64 q, .slice A n c, .slice A' n' c'] W fun e w' => e = .returned (.bool true) ∧ Below W.heap.size W w' := by
  have HA := Lib.hid (And.intro hA (And.intro hn hb))
  have HA' := Lib.hid (And.intro hA' (And.intro hn' hb'))
  clear hA hn hb hA' hn' hb'
  by_cases hq : 0 ≤ q ∧ q ≤ 1073741824
  · have HQ := Lib.hid hq
    clear hq
    go_enter Try.func6, Try.ntmps6
    have T0 := Lib.hid True.intro
    go_wp2_with (first
      | (go_at_call 18
         have z0 := T0
         clear z0
         refine (begun_any q W W (Below.refl _ _) HQ.out).mono ?_
         rintro e w0 ⟨d, S0, rfl, h0, _, _⟩
         have H0 := Lib.hid h0
         clear h0
         have T1 := Lib.hid True.intro
         clear T0)
      | (go_at_call 18
         have z0 := T1
         clear z0
         refine (begun_any q W w0 H0.out.2.2.1 HQ.out).mono ?_
         rintro e w1 ⟨d2, R0, rfl, h0, h1, h2⟩
         have H1 := Lib.hid (And.intro (H0.out.next h2) (And.intro h0 (show ∀ b, S0 b → ¬ R0 b from fun b hb1 hb2 => by have := H0.out.lt b hb1; have := h1 b hb2; omega)))
         clear h0 h1 h2
         have T2 := Lib.hid True.intro
         clear T1)
      | (go_at_call 18
         have z0 := T2
         clear z0
         refine (begun_any q W w1 H1.out.1.2.2.1 HQ.out).mono ?_
         rintro e w2 ⟨d3, U0, rfl, h0, h1, h2⟩
         have H2 := Lib.hid (show Tri W w2 S0 d (Dk.begun q) R0 d2 (Dk.begun q) U0 d3 (Dk.begun q) 2 from ⟨H1.out.1.next h2, H1.out.2.1.next h2, h0, H1.out.2.2, fun b hb1 hb2 => by have := H1.out.1.lt b hb1; have := h1 b hb2; omega, fun b hb1 hb2 => by have := H1.out.2.1.lt b hb1; have := h1 b hb2; omega⟩)
         clear h0 h1 h2
         have T3 := Lib.hid True.intro
         clear T2))
    go_loopw [13] (fun i wr => ∃ (j : Nat) (S T U : Nat → Prop) (s t : Dk), j ≤ max n n' ∧ i = .int .i64 j ∧ Tri W wr S d s T d2 t U d3 s (2 + 3 * j)) (fun i _ => max n n' - (intOf i).toNat)
    case atStart => exact ⟨0, S0, R0, U0, _, _, Nat.zero_le _, rfl, H2.out⟩
    case round =>
      obtain ⟨j, S, T, U, s, t, hj, rfl, hL⟩ := hrel
      by_cases hor : j < n ∨ j < n'
      · have HL := Lib.hid hL
        have hk0 : (0 : Int) ≤ j := by omega
        clear hL
        go_upto_region 7 with fail
        go_cut [51] (fun s51 wx => s51 = .bool true ∧ Tri W wx S d s T d2 t U d3 s (2 + 3 * j))
        case first =>
          by_cases h1 : j < n
          · have hk1 : (j : Int) < n := by omega
            go_wp2
            go_meet
            case rel => exact ⟨rfl, HL.out⟩
          · have hk1 : (j : Int) < n' := by omega
            have hk2 : ¬ ((j : Int) < n) := by omega
            go_wp2
            go_meet
            case rel => exact ⟨rfl, HL.out⟩
        case rest =>
          obtain ⟨rfl, hT⟩ := hcut
          clear HL
          have HL := Lib.hid hT
          clear hT
          go_upto_region 9 with fail
          go_cut [73] (fun sx wx => Take l n j sx ∧ Tri W wx S d s T d2 t U d3 s (2 + 3 * j))
          case first =>
            by_cases h1 : j < n
            · obtain ⟨st, hst⟩ : ∃ st, l[j]? = some st := ⟨_, List.getElem?_eq_getElem (by rw [HA.out.2.1]; exact h1)⟩
              obtain ⟨ad, rfl, had, c0, c1, c3, c4, c5, c6, c7, _⟩ := (HA.out.1.below HL.out.1.2.2.1).step hst
              have hok := HA.out.1.2 st (List.mem_of_getElem? hst)
              have hbs := HA.out.2.2 st (List.mem_of_getElem? hst)
              obtain ⟨k, nm, nt, x, y, Ab, bs, cb, A2, p2, c2⟩ := st
              obtain ⟨nb, hnb⟩ : ∃ nb, bs.length = nb := ⟨_, rfl⟩
              obtain ⟨np2, hnp⟩ : ∃ np2, p2.length = np2 := ⟨_, rfl⟩
              dsimp only at c0 c1 c3 c4 c5 c6 c7 hbs
              rw [hnb] at c6 hbs
              rw [hnp] at c7
              have HB := Lib.hid (And.intro hok (And.intro hnb (And.intro hnp hst)))
              have hk1 : (j : Int) < n := by omega
              clear hok hnb hnp hst
              rcases (show k < 1 ∨ 7 < k ∨ (1 ≤ k ∧ k ≤ 7) by omega) with hk | hk | ⟨hk2, hk7⟩
              · go_wp2
                go_meet
                case rel => exact ⟨by first | exact take_no _ _ _ | (rw [show decide (k ≤ 7) = false from decide_eq_false (by omega)]; exact take_no _ _ _), HL.out⟩
              · go_wp2
                go_meet
                case rel => exact ⟨by first | exact take_no _ _ _ | (rw [show decide (k ≤ 7) = false from decide_eq_false (by omega)]; exact take_no _ _ _), HL.out⟩
              · have HK := Lib.hid (And.intro hk2 hk7)
                go_wp2
                go_meet
                case rel => exact ⟨take_yes h1 HB.out.2.2.2 HK.out, HL.out⟩
            · have hk1 : ¬ ((j : Int) < n) := by omega
              go_wp2
              go_meet
              case rel => exact ⟨take_no _ _ _, HL.out⟩
          case rest =>
          obtain ⟨⟨bb, rfl, hbb⟩, hT⟩ := hcut
          have HBB := Lib.hid hbb
          clear hbb HL
          have HL := Lib.hid hT
          clear hT
          go_upto_if 73 with fail
          go_cut [] (fun wx => ∃ (S' U' : Nat → Prop) (s' : Dk), Tri W wx S' d s' T d2 t U' d3 s' (2 + 3 * j + 2))
          case first =>
            cases bb
            · go_wp2
              go_meet
              case rel => exact ⟨S, U, s, HL.out.up (by omega)⟩
            · obtain ⟨h1, st, hst, hk⟩ := HBB.out rfl
              obtain ⟨ad, rfl, had, c0, c1, c3, c4, c5, c6, c7, _⟩ := (HA.out.1.below HL.out.1.2.2.1).step hst
              have hok := HA.out.1.2 st (List.mem_of_getElem? hst)
              have hbs := HA.out.2.2 st (List.mem_of_getElem? hst)
              obtain ⟨k, nm, nt, x, y, Ab, bs, cb, A2, p2, c2⟩ := st
              obtain ⟨nb, hnb⟩ : ∃ nb, bs.length = nb := ⟨_, rfl⟩
              obtain ⟨np2, hnp⟩ : ∃ np2, p2.length = np2 := ⟨_, rfl⟩
              dsimp only at c0 c1 c3 c4 c5 c6 c7 hbs
              rw [hnb] at c6 hbs
              rw [hnp] at c7
              dsimp only at hk
              have HB := Lib.hid (And.intro hok (And.intro hnb (And.intro hnp hst)))
              have hk1 : (j : Int) < n := by omega
              clear hok hnb hnp hst
              have HK := Lib.hid hk
              obtain ⟨hk2, hk7⟩ := hk
              obtain ⟨s2, hs2⟩ : ∃ s2, chS ⟨k, nm, nt, x, y, Ab, bs, cb, A2, p2, c2⟩ s = s2 := ⟨_, rfl⟩
              obtain ⟨e, he⟩ : ∃ e, chE ⟨k, nm, nt, x, y, Ab, bs, cb, A2, p2, c2⟩ s = e := ⟨_, rfl⟩
              have HV := Lib.hid (And.intro hs2 he)
              clear hs2 he
              have Ta0 := Lib.hid True.intro
              go_wp2_with (first
                | (go_at_call 23
                   have z0 := Ta0
                   clear z0
                   refine (lv_change _ x y nm nt Ab A2 bs p2 _ _ cb c2 HL.out.1 (by omega) HB.out.1 HK.out HB.out.2.1 HB.out.2.2.1 (by omega)).mono ?_
                   rintro e1 w3 ⟨rfl, g1⟩
                   rw [HV.out.1] at g1
                   rw [HV.out.2]
                   obtain ⟨S2, g2⟩ := HL.out.a (by omega) g1
                   obtain ⟨ad2, ea, _, e0, e1', e3, e4, e5, e6, e7, _⟩ := (HA.out.1.below g2.1.2.2.1).step HB.out.2.2.2
                   cases ea
                   dsimp only at e0 e1' e3 e4 e5 e6 e7
                   rw [HB.out.2.1] at e6
                   rw [HB.out.2.2.1] at e7
                   have H3 := Lib.hid g2
                   clear g1 g2 c0 c1 c3 c4 c5 c6 c7
                   have Ta1 := Lib.hid True.intro
                   clear Ta0)
                | (go_at_call 23
                   have z0 := Ta1
                   clear z0
                   refine (lv_change _ x y nm nt Ab A2 bs p2 _ _ cb c2 (H3.out.2.2.1) (by omega) HB.out.1 HK.out HB.out.2.1 HB.out.2.2.1 (by omega)).mono ?_
                   rintro e1 w4 ⟨rfl, g1⟩
                   rw [HV.out.1] at g1
                   rw [HV.out.2]
                   obtain ⟨U2, g2⟩ := H3.out.c (by omega) g1
                   have H4 := Lib.hid g2
                   clear g1 g2
                   have Ta2 := Lib.hid True.intro
                   clear Ta1))
              go_meet
              case rel => exact ⟨S2, U2, s2, H4.out⟩
          case rest =>
          obtain ⟨S', U', s', hT⟩ := hcut
          clear HBB
          have HL2 := Lib.hid hT
          clear hT
          go_upto_region 14 with fail
          go_cut [114] (fun sx wx => Take l' n' j sx ∧ Tri W wx S' d s' T d2 t U' d3 s' (2 + 3 * j + 2))
          case first =>
            by_cases h1 : j < n'
            · obtain ⟨st, hst⟩ : ∃ st, l'[j]? = some st := ⟨_, List.getElem?_eq_getElem (by rw [HA'.out.2.1]; exact h1)⟩
              obtain ⟨ad, rfl, had, c0, c1, c3, c4, c5, c6, c7, _⟩ := (HA'.out.1.below HL2.out.1.2.2.1).step hst
              have hok := HA'.out.1.2 st (List.mem_of_getElem? hst)
              have hbs := HA'.out.2.2 st (List.mem_of_getElem? hst)
              obtain ⟨k, nm, nt, x, y, Ab, bs, cb, A2, p2, c2⟩ := st
              obtain ⟨nb, hnb⟩ : ∃ nb, bs.length = nb := ⟨_, rfl⟩
              obtain ⟨np2, hnp⟩ : ∃ np2, p2.length = np2 := ⟨_, rfl⟩
              dsimp only at c0 c1 c3 c4 c5 c6 c7 hbs
              rw [hnb] at c6 hbs
              rw [hnp] at c7
              have HB := Lib.hid (And.intro hok (And.intro hnb (And.intro hnp hst)))
              have hk1 : (j : Int) < n' := by omega
              clear hok hnb hnp hst
              rcases (show k < 1 ∨ 7 < k ∨ (1 ≤ k ∧ k ≤ 7) by omega) with hk | hk | ⟨hk2, hk7⟩
              · go_wp2
                go_meet
                case rel => exact ⟨by first | exact take_no _ _ _ | (rw [show decide (k ≤ 7) = false from decide_eq_false (by omega)]; exact take_no _ _ _), HL2.out⟩
              · go_wp2
                go_meet
                case rel => exact ⟨by first | exact take_no _ _ _ | (rw [show decide (k ≤ 7) = false from decide_eq_false (by omega)]; exact take_no _ _ _), HL2.out⟩
              · have HK := Lib.hid (And.intro hk2 hk7)
                go_wp2
                go_meet
                case rel => exact ⟨take_yes h1 HB.out.2.2.2 HK.out, HL2.out⟩
            · have hk1 : ¬ ((j : Int) < n') := by omega
              go_wp2
              go_meet
              case rel => exact ⟨take_no _ _ _, HL2.out⟩
          case rest =>
          obtain ⟨⟨bb, rfl, hbb⟩, hT⟩ := hcut
          have HBB := Lib.hid hbb
          clear hbb HL2
          have HL2 := Lib.hid hT
          clear hT
          go_upto_if 114 with fail
          go_cut [] (fun wx => ∃ (T' : Nat → Prop) (t' : Dk), Tri W wx S' d s' T' d2 t' U' d3 s' (2 + 3 * j + 3))
          case first =>
            cases bb
            · go_wp2
              go_meet
              case rel => exact ⟨T, t, HL2.out.up (by omega)⟩
            · obtain ⟨h1, st, hst, hk⟩ := HBB.out rfl
              obtain ⟨ad, rfl, had, c0, c1, c3, c4, c5, c6, c7, _⟩ := (HA'.out.1.below HL2.out.1.2.2.1).step hst
              have hok := HA'.out.1.2 st (List.mem_of_getElem? hst)
              have hbs := HA'.out.2.2 st (List.mem_of_getElem? hst)
              obtain ⟨k, nm, nt, x, y, Ab, bs, cb, A2, p2, c2⟩ := st
              obtain ⟨nb, hnb⟩ : ∃ nb, bs.length = nb := ⟨_, rfl⟩
              obtain ⟨np2, hnp⟩ : ∃ np2, p2.length = np2 := ⟨_, rfl⟩
              dsimp only at c0 c1 c3 c4 c5 c6 c7 hbs
              rw [hnb] at c6 hbs
              rw [hnp] at c7
              dsimp only at hk
              have HB := Lib.hid (And.intro hok (And.intro hnb (And.intro hnp hst)))
              have hk1 : (j : Int) < n' := by omega
              clear hok hnb hnp hst
              have HK := Lib.hid hk
              obtain ⟨hk2, hk7⟩ := hk
              have Tb0 := Lib.hid True.intro
              go_wp2_with (first
                | (go_at_call 23
                   have z0 := Tb0
                   clear z0
                   refine (lv_change _ x y nm nt Ab A2 bs p2 _ _ cb c2 HL2.out.2.1 (by omega) HB.out.1 HK.out HB.out.2.1 HB.out.2.2.1 (by omega)).mono ?_
                   rintro e1 w3 ⟨rfl, g1⟩
                   obtain ⟨T2, g2⟩ := HL2.out.b (by omega) g1
                   have H3 := Lib.hid g2
                   clear g1 g2
                   have Tb1 := Lib.hid True.intro
                   clear Tb0))
              go_meet
              case rel => exact ⟨T2, _, H3.out⟩
          case rest =>
          obtain ⟨T', t', hT⟩ := hcut
          have HL3 := Lib.hid hT
          clear hT
          have Tc0 := Lib.hid True.intro
          go_wp2_with (first
            | (go_at_call 25
               have z0 := Tc0
               clear z0
               refine (lv_image2 HL3.out.1 (by omega)).mono ?_
               rintro e1 w5 ⟨us1, ib1, ic1, rfl, hfl, hb1⟩
               obtain ⟨il1, hil⟩ : ∃ il, (imageL s').length = il := ⟨_, rfl⟩
               rw [hil] at hfl ⊢
               have H5 := Lib.hid (HL3.out.next hb1)
               have HI1 := Lib.hid (And.intro hfl (And.intro hil (show il1 ≤ _ from hil ▸ image_len (HL3.out.1).2.2.2)))
               have HZ1 := Lib.hid (And.intro HL3.out.lt (And.intro HL3.out.1.2.2.1.size hb1.size))
               clear hfl hil hb1
               have Tc1 := Lib.hid True.intro
               clear Tc0)
            | (go_at_call 25
               have z0 := Tc1
               clear z0
               refine (lv_image H5.out.2.2.1 (by omega)).mono ?_
               rintro e1 w6 ⟨us2, ib2, ic2, rfl, hfl, hb1⟩
               obtain ⟨il2, hil⟩ : ∃ il, (imageL s').length = il := ⟨_, rfl⟩
               rw [hil] at hfl ⊢
               have H6 := Lib.hid (H5.out.next hb1)
               have HI2 := Lib.hid (And.intro hfl (And.intro hil (show il2 ≤ _ from hil ▸ image_len (H5.out.1).2.2.2)))
               have HI1n := Lib.hid (And.intro (HI1.out.1.1.keep fun b _ h2 => hb1.block b h2) (And.intro HI1.out.1.2 (And.intro HI1.out.2 (Nat.le_trans HZ1.out.2.2 hb1.size))))
               clear hfl hil hb1
               have Tc2 := Lib.hid True.intro
               clear Tc1)
            | (go_at_call 29
               have z0 := Tc2
               clear z0
               refine (sameImage_any ib1 ib2 il1 ic1 il2 ic2 (imageL s') (imageL s') _ HI1.out.2.1 HI2.out.2.1 HI1n.out.1.im HI2.out.1.im (by have := HI1.out.2.2; omega) (by have := HI2.out.2.2; omega) (image_small H6.out.1.2.2.2) (image_small H6.out.1.2.2.2)).mono ?_
               rintro e1 w7 ⟨rfl, kk, hw⟩
               rw [show decide ((imageL s') = (imageL s')) = true from decide_eq_true rfl]
               have H7 := Lib.hid (show Tri W w7 S' d s' T' d2 t' U' d3 s' _ from hw ▸ H6.out.drewN kk)
               have HI3 := Lib.hid (And.intro (HI1n.out.1.keep (w' := w7) fun b _ _ => by rw [hw]; rfl) (Nat.le_trans HI1n.out.2.2.2 (show w6.heap.size ≤ w7.heap.size by rw [hw]; exact Nat.le_refl _)))
               clear hw
               have Tc3 := Lib.hid True.intro
               clear Tc2)
            | (go_at_call 30
               have z0 := Tc3
               clear z0
               refine (spoil_any ib1 il1 ic1 _ _ (imageL s') us1 _ HI3.out.1 HI1n.out.2.1 HI1.out.2.1 rfl (used_image H7.out.1.2.2.2).2 HI3.out.2 (by have := HI1.out.2.2; omega)).mono ?_
               rintro e1 w8 ⟨rfl, hb8⟩
               have H8 := Lib.hid (H7.out.low HZ1.out.1 HZ1.out.2.1 hb8)
               clear hb8
               have Tc4 := Lib.hid True.intro
               clear Tc3))
          go_roundw
          case rel => exact ⟨j + 1, S', T', U', s', t', by omega, by go_num, H8.out.up (by omega)⟩
          case measure => simp [intOf]; omega
      · have hk2 : ¬ ((j : Int) < n) := by omega
        have hk3 : ¬ ((j : Int) < n') := by omega
        have HL := Lib.hid hL
        have hj9 : j ≤ 99999999999 := by omega
        clear hL hor
        have Te0 := Lib.hid True.intro
        go_wp2_with (first
          | (go_at_call 25
             have z0 := Te0
             clear z0
             refine (lv_image HL.out.1 (by omega)).mono ?_
             rintro e1 v1 ⟨us1, ib1, ic1, rfl, hfl, hb1⟩
             obtain ⟨il1, hil⟩ : ∃ il, (imageL s).length = il := ⟨_, rfl⟩
             rw [hil] at hfl ⊢
             have K1 := Lib.hid (HL.out.next hb1)
             have HI1 := Lib.hid (And.intro hfl (And.intro hil (show il1 ≤ _ from hil ▸ image_len (HL.out.1).2.2.2)))
             clear hfl hil hb1
             have Te1 := Lib.hid True.intro
             clear Te0)
          | (go_at_call 25
             have z0 := Te1
             clear z0
             refine (lv_image K1.out.2.2.1 (by omega)).mono ?_
             rintro e1 v2 ⟨us2, ib2, ic2, rfl, hfl, hb1⟩
             obtain ⟨il2, hil⟩ : ∃ il, (imageL s).length = il := ⟨_, rfl⟩
             rw [hil] at hfl ⊢
             have K2 := Lib.hid (K1.out.next hb1)
             have HI2 := Lib.hid (And.intro hfl (And.intro hil (show il2 ≤ _ from hil ▸ image_len (K1.out.1).2.2.2)))
             have HI1n := Lib.hid (And.intro (HI1.out.1.keep fun b _ h2 => hb1.block b h2) HI1.out.2)
             clear hfl hil hb1
             have Te2 := Lib.hid True.intro
             clear Te1)
          | (go_at_call 29
             have z0 := Te2
             clear z0
             refine (sameImage_any ib1 ib2 il1 ic1 il2 ic2 (imageL s) (imageL s) _ HI1n.out.2.1 HI2.out.2.1 HI1n.out.1.im HI2.out.1.im (by have := HI1n.out.2.2; omega) (by have := HI2.out.2.2; omega) (image_small K2.out.1.2.2.2) (image_small K2.out.1.2.2.2)).mono ?_
             rintro e1 v3 ⟨rfl, kk, hw⟩
             rw [show decide ((imageL s) = (imageL s)) = true from decide_eq_true rfl]
             have K3 := Lib.hid (show Tri W v3 S d s T d2 t U d3 s _ from hw ▸ K2.out.drewN kk)
             clear hw
             have Te3 := Lib.hid True.intro
             clear Te2)
          | (go_at_call 15
             have z0 := Te3
             clear z0
             refine (lv_crash0 K3.out.1 (by omega)).mono ?_
             rintro e1 v4 ⟨us4, ib4, ic4, rfl, hfl, hb1⟩
             obtain ⟨il4, hil⟩ : ∃ il, (crashL s []).length = il := ⟨_, rfl⟩
             rw [hil] at hfl ⊢
             have K4 := Lib.hid (K3.out.next hb1)
             have HI4 := Lib.hid (And.intro hfl (And.intro hil (show il4 ≤ _ from hil ▸ crash_len (K3.out.1).2.2.2 [])))
             clear hfl hil hb1
             have Te4 := Lib.hid True.intro
             clear Te3)
          | (go_at_call 15
             have z0 := Te4
             clear z0
             refine (lv_crash0 K4.out.2.2.1 (by omega)).mono ?_
             rintro e1 v5 ⟨us5, ib5, ic5, rfl, hfl, hb1⟩
             obtain ⟨il5, hil⟩ : ∃ il, (crashL s []).length = il := ⟨_, rfl⟩
             rw [hil] at hfl ⊢
             have K5 := Lib.hid (K4.out.next hb1)
             have HI5 := Lib.hid (And.intro hfl (And.intro hil (show il5 ≤ _ from hil ▸ crash_len (K4.out.1).2.2.2 [])))
             have HI4n := Lib.hid (And.intro (HI4.out.1.keep fun b _ h2 => hb1.block b h2) HI4.out.2)
             clear hfl hil hb1
             have Te5 := Lib.hid True.intro
             clear Te4)
          | (go_at_call 29
             have z0 := Te5
             clear z0
             refine (sameImage_any ib4 ib5 il4 ic4 il5 ic5 (crashL s []) (crashL s []) _ HI4n.out.2.1 HI5.out.2.1 HI4n.out.1.im HI5.out.1.im (by have := HI4n.out.2.2; omega) (by have := HI5.out.2.2; omega) (crash_small K5.out.1.2.2.2 []) (crash_small K5.out.1.2.2.2 [])).mono ?_
             rintro e1 v6 ⟨rfl, kk, hw⟩
             rw [show decide ((crashL s []) = (crashL s [])) = true from decide_eq_true rfl]
             have K6 := Lib.hid (show Tri W v6 S d s T d2 t U d3 s _ from hw ▸ K5.out.drewN kk)
             clear hw
             have Te6 := Lib.hid True.intro
             clear Te5)
          | (go_at_call 21
             have z0 := Te6
             clear z0
             refine (tell_Used _ _ _ _ K6.out.1.1).mono ?_
             rintro e1 wz ⟨rfl, hw⟩
             have hw1 := hw.symm
             subst hw1
             have Te7 := Lib.hid True.intro
             clear Te6)
          | (go_at_call 21
             have z0 := Te7
             clear z0
             refine (tell_Used _ _ _ _ K6.out.2.2.1.1).mono ?_
             rintro e1 wz ⟨rfl, hw⟩
             have hw1 := hw.symm
             subst hw1
             have Te8 := Lib.hid True.intro
             clear Te7))
        go_ret
        exact ⟨by first | rfl | simp, K6.out.1.2.2.1⟩
  · have HQ := Lib.hid hq
    clear hq
    go_enter Try.func6, Try.ntmps6
    go_wp2_with (first
      | (go_at_call 18
         refine (begun_no q W HQ.out).mono ?_
         rintro e w0 ⟨rfl, h0⟩
         have H0 := Lib.hid h0
         clear h0))
    go_ret
    exact ⟨rfl, H0.out⟩
end Go.Proofs.Ytomkieennkobcaa
