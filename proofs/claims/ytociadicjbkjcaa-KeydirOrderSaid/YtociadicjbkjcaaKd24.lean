import Derived.Test.YtociadicjbkjcaaKd23
import Derived.Test.YtociadicjbkjcaaKd17
/- KeydirNoted: the law of the program, walked. -/
namespace Go.Proofs.Ytociadicjbkjcaa
open Go.RowKit Go.Maps

theorem row_cap {w : World} {B : Nat} {e : TypeId} {size n c : Nat} {b : Option Addr} {xs : List Value} (h : w.ownsRow B e size (.slice b n c) n xs) : n ≤ c := by
  by_cases h0 : n = 0
  · omega
  · obtain ⟨g, cap, hv, h1, _⟩ := Own.of_row h (by omega)
    injection hv with _ _ h2
    omega
theorem row_low {w : World} {B : Nat} {e : TypeId} {size n c : Nat} {b : Option Addr} {xs : List Value} (h : w.ownsRow B e size (.slice b n c) n xs) : ∀ ad, b = some ad → B ≤ ad.block := by
  intro ad e
  subst e
  rcases h.2 with ⟨h1, _⟩ | ⟨g, cap, cur, h1, h2, _⟩
  · cases h1
  · injection h1 with h1
    injection h1 with h1
    subst h1
    exact h2
theorem row_at {w : World} {B : Nat} {e : TypeId} {size n c : Nat} {b : Option Addr} {xs : List Value} (h : w.ownsRow B e size (.slice b n c) n xs) : ∀ ad, b = some ad → ad.block < w.heap.size := by
  intro ad e
  subst e
  exact (h.lt ad.block (by simp [Value.ownBlock])).2
theorem Rd.chg {S : Nat → Prop} {w w' : World} {B : Nat} {A : Option Addr} {xs : List Value} (h : Rd w B A xs) (hB : B ≤ w.heap.size) (hc : Chg S w w') (hn : ∀ ad, A = some ad → ¬ S ad.block) : Rd w' B A xs := by
  intro j u hu
  obtain ⟨ad, e, h1, h2⟩ := h j u hu
  refine ⟨ad, e, h1, ?_⟩
  rw [← h2]
  exact World.cell?_of_block (w := w) (by rw [add_block]; exact hc.block ad.block (by omega) (hn ad e))
theorem row_slice {w : World} {base : Nat} {e : TypeId} {size n : Nat} {v : Value} {xs : List Value} (h : w.ownsRow base e size v n xs) : ∃ b cap, v = .slice b n cap := by
  rcases h.2 with ⟨rfl, e⟩ | ⟨g, cap, _, rfl, _⟩
  · exact ⟨none, 0, by rw [e]⟩
  · exact ⟨_, _, rfl⟩
theorem row_rd' {w : World} {B : Nat} {e : TypeId} {size n c : Nat} {b : Option Addr} {xs : List Value} (h : w.ownsRow B e size (.slice b n c) n xs) : Rd w w.heap.size b xs := by
  obtain ⟨A, d, he, hr⟩ := row_rd h
  cases he
  exact hr
theorem addr_two (ad : Addr) (a b : Nat) : (ad.add a).add b = ad.add (a + b) := by
  by_cases ha : a = 0
  · subst ha; simp [Addr.add]
  · by_cases hb : b = 0
    · subst hb; simp [Addr.add, ha]
    · simp [Addr.add, ha, hb, Nat.add_assoc]
theorem nItems_size {l : List ByteArray} (h : ∀ x ∈ l, x.size ≤ maxLen) : ∀ x ∈ nItems l, x.1.size ≤ maxLen := by
  intro x hx
  obtain ⟨i, hi, rfl⟩ := nItems_mem hx
  exact h _ (List.getElem_mem hi)
theorem part_iff {bs m : List KE} {l : List KE} (r : Nat) (hr : r < m.length) (h : ∀ x, x ∈ bs ++ m ↔ x ∈ l) : ∀ x, x ∈ (bs ++ [m[r]]) ++ (m.take r ++ m.drop (r + 1)) ↔ x ∈ l := by
  intro x
  rw [← h x]
  have e : m = m.take r ++ m[r] :: m.drop (r + 1) := by rw [← List.drop_eq_getElem_cons hr, List.take_append_drop]
  conv => rhs; rw [e]
  simp only [List.mem_append, List.mem_cons, List.not_mem_nil, or_false]
  constructor
  · rintro ((h | h) | h | h) <;> simp [h]
  · rintro (h | h | h | h) <;> simp [h]
theorem one_ni (i : Nat) (k : ByteArray) : ∀ u ∈ keC (ni i k), u.oneCell' = true := by
  intro u hu
  exact one_ke [ni i k] u (by simpa using hu)
theorem Rd.part {w : World} {B : Nat} {A : Option Addr} {l : List KE} (h : Rd w B A (l.flatMap keC)) (r : Nat) : Rd w B A ((l.take r).flatMap keC) := by
  intro j u hu
  refine h j u ?_
  have e : l.flatMap keC = (l.take r).flatMap keC ++ (l.drop r).flatMap keC := by rw [← List.flatMap_append, List.take_append_drop]
  rw [e, List.getElem?_append_left (List.getElem?_eq_some_iff.1 hu).1]
  exact hu
theorem Rd.rest {w : World} {B : Nat} {ad : Addr} {l : List KE} (h : Rd w B (some ad) (l.flatMap keC)) (r : Nat) (hr : r ≤ l.length) : Rd w B (some (ad.add (r * 7))) ((l.drop r).flatMap keC) := by
  intro j u hu
  have e : l.flatMap keC = (l.take r).flatMap keC ++ (l.drop r).flatMap keC := by rw [← List.flatMap_append, List.take_append_drop]
  obtain ⟨ad', e1, h1, h2⟩ := h (r * 7 + j) u (by
    rw [e, List.getElem?_append_right (by rw [keC_len, List.length_take]; omega), keC_len, List.length_take, Nat.min_eq_left hr, Nat.add_sub_cancel_left]
    exact hu)
  cases e1
  refine ⟨_, rfl, by rw [add_block]; exact h1, ?_⟩
  rw [← h2, addr_two]

set_option maxRecDepth 100000 in
set_option maxHeartbeats 8000000 in
theorem keydirNoted_any (A0 A1 : Option Addr) (n0 n1 c0 c1 : Nat) (l0 : List ByteArray) (l1 : List Int) (w : World)
    (h0 : Rd w w.heap.size A0 (l0.map Value.string)) (h1 : Rd w w.heap.size A1 (l1.map (Value.int .i64)))
    (e0 : l0.length = n0) (e1 : l1.length = n1) (b0 : n0 ≤ 2000000) (b1 : n1 ≤ 2000000)
    (z0 : ∀ x ∈ l0, x.size ≤ maxLen) :
    Calls Try.prog 3 #[.slice A0 n0 c0, .slice A1 n1 c1] w fun e w' => e = .returned (.bool true) ∧ Below w.heap.size w w' := by
  obtain ⟨i1, hi1, hz1, hs1, hy1⟩ := info_parts infoKE
  have hr : ∀ W, Below w.heap.size w W → Rd W w.heap.size A0 (l0.map Value.string) ∧ Rd W w.heap.size A1 (l1.map (Value.int .i64)) := fun W hb =>
    ⟨h0.below hb, h1.below hb⟩
  have Hr := Lib.hid hr
  have HE := Lib.hid (And.intro e0 e1)
  have HZ := Lib.hid z0
  have HL := Lib.hid (show (nItems l0).length = n0 by rw [nItems_len]; exact e0)
  clear h0 h1 hr e0 e1 z0
  go_enter Try.func3, Try.ntmps3
  go_wp2
  go_loopw [5, 6] (fun v i wr => ∃ (k : Nat) (b : Option Addr) (c : Nat), k ≤ n0 ∧ v = .slice b k c ∧ i = .int .i64 k ∧ wr.ownsRow w.heap.size 28 7 (.slice b k c) k (((nItems l0).take k).flatMap keC) ∧ Below w.heap.size w wr) (fun _ i _ => n0 - (intOf i).toNat)
  case atStart => exact ⟨0, none, 0, by omega, rfl, rfl, World.ownsRow_nil _ _ _ _, Below.refl _ _⟩
  case round =>
    obtain ⟨k, b, c, hk, rfl, rfl, hO, hb⟩ := hrel
    have H := Lib.hid (And.intro hO hb)
    clear hO hb
    by_cases hlt : k < n0
    · have hkl : k < l0.length := by rw [HE.out.1]; exact hlt
      obtain ⟨ad, rfl, had, a0⟩ := (Hr.out _ H.out.2).1.str hkl
      have hts := take_snoc (nItems l0) k (by rw [HL.out]; exact hlt)
      rw [nItems_get l0 k hkl] at hts
      have hk0' : (0 : Int) ≤ k := by omega
      have hk1' : (k : Int) < n0 := by omega
      generalize hxx : l0[k] = x at a0 hts
      have HTS := Lib.hid hts
      clear hxx hts
      go_wp2_with (at_builtin
                   refine wpList_app1 _ rfl (.tmp 29) (.tmp 39) _ rfl w.heap.size 28 i1 _ 7 64 Try.underlying24 hi1 hz1 hs1 hy1 rfl (by omega) (.slice b k c) k _ rfl (H.out.1.alloc _) _ _ 1 1 (keC (ni k x)) rfl rfl (rd_new _ _ _) (one_ni _ _) (by unfold maxLen; omega) (by omega) (by have := H.out.2.size; simp <;> omega) (by omega) ?_
                   intro g cap w' hOw hn hcap hown hg hor
                   have HG := Lib.hid (And.intro hown hg)
                   clear hOw hn hcap hown hg hor)
      go_roundw
      case rel =>
        refine ⟨k + 1, some ⟨g, 0, none⟩, cap, by omega, rfl, by go_num, ?_, ?_⟩
        · rw [HTS.out, List.flatMap_append, List.flatMap_singleton]
          exact HG.out.1
        · exact (H.out.2.alloc H.out.2.size _).grown HG.out.2 (by have := H.out.2.size; simp; omega) (fun j hj => (H.out.1.lt j hj).1)
      case measure => simp [intOf]; omega
    · have ek : n0 = k := by omega
      subst ek
      have htl : (nItems l0).take n0 = nItems l0 := List.take_of_length_le (by rw [HL.out]; exact Nat.le_refl _)
      have hO := H.out.1
      rw [htl] at hO
      obtain ⟨A2, c2, e2, hR2⟩ := row_rd hO
      cases e2
      have hcap := row_cap hO
      have hlow := row_at hO
      obtain ⟨w1, hw1⟩ : ∃ w1, w1 = wr := ⟨wr, rfl⟩
      subst hw1
      have hr1 : ∀ W, Below w1.heap.size w1 W → Rd W W.heap.size b ((nItems l0).flatMap keC) ∧ Rd W w1.heap.size b ((nItems l0).flatMap keC) ∧ Rd W w.heap.size A1 (l1.map (Value.int .i64)) ∧ Below w.heap.size w W := fun W hB =>
        ⟨(hR2.below hB).mono hB.size, hR2.below hB, (Hr.out _ (H.out.2.trans (hB.mono H.out.2.size))).2, H.out.2.trans (hB.mono H.out.2.size)⟩
      have Hr1 := Lib.hid hr1
      have HLW := Lib.hid hlow
      clear H hr1 hR2 hO htl hlow hk hlt Hr
      go_wp2_with (first
        | (go_at_call 9
           (refine (new_any w1).mono ?_)
           rintro e w2 ⟨rfl, hd2, hb2⟩
           have hl2 := hd2.lt
           have H2 := Lib.hid (And.intro hd2 hb2)
           clear hd2 hb2)
        | (go_at_call 9
           (refine (new_any w2).mono ?_)
           rintro e w3 ⟨rfl, hd3, hb3⟩
           have H3 := Lib.hid (And.intro (H2.out.1.next hb3) (And.intro hd3 (H2.out.2.trans (hb3.mono H2.out.2.size))))
           clear hd3 hb3))
      go_loopw [9] (fun i wr => ∃ (k : Nat), k ≤ n0 ∧ i = .int .i64 k ∧ DR wr w1.heap.size (build ((nItems l0).take k)) ∧ DR wr w2.heap.size [] ∧ Below w1.heap.size w1 wr) (fun i _ => n0 - (intOf i).toNat)
      case atStart => exact ⟨0, by omega, rfl, by exact H3.out.1, H3.out.2.1, H3.out.2.2⟩
      case round =>
        clear H2 H3
        obtain ⟨k, hk, rfl, hd, he, hb⟩ := hrel
        have H := Lib.hid (And.intro hd (And.intro he hb))
        clear hd he hb
        by_cases hlt : k < n0
        · have hkl : k < (nItems l0).length := by rw [HL.out]; exact hlt
          have hkl' : k < l0.length := by rw [HE.out.1]; exact hlt
          obtain ⟨ad, rfl, had, a0, a1, a2, a3, a4, a5, a6⟩ := (Hr1.out _ H.out.2.2).2.1.ke hkl
          have hzk := HZ.out _ (List.getElem_mem hkl')
          have hup := build_off l0 l0[k] k (by omega)
          have hlen := build_len (nItems l0) k (by omega)
          have hbs := build_snoc (nItems l0) k hkl
          have hxx := nItems_get l0 k hkl'
          rw [hxx] at a0 a1 a2 a3 a4 a5 a6 hbs
          generalize l0[k] = x at a0 a1 a2 a3 a4 a5 a6 hbs hxx hup hzk
          simp only [ni] at a0 a1 a2 a3 a4 a5 a6 hxx hbs
          have HXX := Lib.hid hxx
          have HBS := Lib.hid hbs
          have HUP := Lib.hid hup
          clear hxx hbs hup
          have hk0' : (0 : Int) ≤ k := by omega
          have hk1' : (k : Int) < n0 := by omega
          have hgg : goodB x = true ∨ goodB x = false := by cases goodB x <;> simp
          rcases hgg with hg | hg
          all_goals
            have HG := Lib.hid hg
            clear hg
            go_wp2
            go_region_held3 (fun w' => w'.cell? (ad.add (k * 7)) = some (.string x) ∧ w'.cell? ⟨(ad.add (k * 7)).block, (ad.add (k * 7)).off + 1, none⟩ = some (.int .i64 ((k : Int) * 3)) ∧ w'.cell? ⟨(ad.add (k * 7)).block, (ad.add (k * 7)).off + 2, none⟩ = some (.int .i64 0) ∧ w'.cell? ⟨(ad.add (k * 7)).block, (ad.add (k * 7)).off + 3, none⟩ = some (.int .i64 0) ∧ w'.cell? ⟨(ad.add (k * 7)).block, (ad.add (k * 7)).off + 4, none⟩ = some (.int .i64 k) ∧ w'.cell? ⟨(ad.add (k * 7)).block, (ad.add (k * 7)).off + 5, none⟩ = some (.int .i64 0) ∧ w'.cell? ⟨(ad.add (k * 7)).block, (ad.add (k * 7)).off + 6, none⟩ = some (.bool false)) (go_keep)
             (first
              | (go_at_call 10
                 (with_reducible first | refine (note_up true 0 w1.heap.size x ⟨(k : Int) * 3, 0, 0, k, 0, false⟩ (build ((nItems l0).take k)) _ HG.out rfl ?_ ?_ ?_ ?_).mono ?_ | refine (note_up false 42 w1.heap.size x ⟨(k : Int) * 3, 0, 0, k, 0, false⟩ (build ((nItems l0).take k)) _ HG.out rfl ?_ ?_ ?_ ?_).mono ?_)
                 · exact (H.out.1).next (Below.refl _ _).drew
                 · exact hzk
                 · omega
                 · exact HUP.out
                 rintro e w5 ⟨rfl, hd5, hc5⟩
                 have hbd : Below wr.heap.size wr wr.drew := (Below.refl _ _).drew
                 have he5 := (H.out.2.1.next hbd).dch (H.out.1.next hbd) hc5 (by omega)
                 have hb5 := dch_below H.out.2.2 hbd hc5 (Nat.le_refl _)
                 have hrk := (Hr1.out _ hb5).2.1.ke hkl
                 rw [HXX.out] at hrk
                 obtain ⟨ad2, e2, hbk, q0, q1, q2, q3, q4, q5, q6⟩ := hrk
                 cases e2
                 have H5 := Lib.hid (And.intro hd5 (And.intro he5 hb5))
                 clear hd5 he5 hb5 hc5 hbk hbd))
            go_wp2_with (first
              | (go_at_call 11
                 refine (good_is HG.out hzk).mono ?_
                 rintro e w3 ⟨rfl, rfl⟩))
            go_roundw
            case rel => exact ⟨k + 1, by omega, by go_num, by rw [HBS.out]; exact H5.out.1, H5.out.2.1, H5.out.2.2⟩
            case measure => simp [intOf]; omega
        · have ekn : (nItems l0).take k = nItems l0 := List.take_of_length_le (by rw [HL.out]; omega)
          have H' := Lib.hid (And.intro (by have := H.out.1; rwa [ekn] at this : DR wr w1.heap.size (build (nItems l0))) H.out.2)
          clear H ekn
          go_wp2
          go_loopw [12, 13] (fun r i wr => ∃ (j nm : Nat) (A3 : Option Addr) (c3 : Nat) (m bs : List KE), i = .int .i64 j ∧ r = .slice A3 nm c3 ∧ m.length = nm ∧ nm ≤ c3 ∧ j + nm = n0 ∧ Rd wr wr.heap.size A3 (m.flatMap keC) ∧ (∀ ad, A3 = some ad → ad.block ≠ w2.heap.size) ∧
              (∀ x, x ∈ bs ++ m ↔ x ∈ nItems l0) ∧ DR wr w1.heap.size (build (nItems l0)) ∧ DR wr w2.heap.size (noteAll bs) ∧ (noteAll bs).length ≤ j ∧ Below w1.heap.size w1 wr) (fun _ i _ => n0 - (intOf i).toNat)
          case atStart => exact ⟨0, n0, b, c, nItems l0, [], rfl, rfl, HL.out, hcap, by omega, (Hr1.out _ H'.out.2.2).1, fun ad e => by have := HLW.out ad e; omega, fun x => by simp, H'.out.1, H'.out.2.1, by simp [noteAll], H'.out.2.2⟩
          case round =>
            clear H' hlt hk
            obtain ⟨j, nm, A3, c3, m, bs, rfl, rfl, hml, hc3, hjn, hR3, hA3, hmem, hd, he, hnl, hb⟩ := hrel
            have H := Lib.hid (And.intro hd (And.intro he hb))
            have HM := Lib.hid (And.intro hml (And.intro hR3 (And.intro hA3 hmem)))
            clear hd he hb hml hR3 hA3 hmem
            by_cases hm : 0 < nm
            · go_upto_if 98 with fail
              go_cut [14] (fun s14 wx => ∃ r : Nat, r < nm ∧ s14 = .int .i64 r ∧ wx = wr)
              case first =>
                by_cases hj1 : j < n1
                · have hjl : j < l1.length := by rw [HE.out.2]; exact hj1
                  obtain ⟨ad, rfl, had, a0⟩ := (Hr1.out _ H.out.2.2).2.2.1.int hjl
                  have hj0' : (0 : Int) ≤ j := by omega
                  have hj1' : (j : Int) < n1 := by omega
                  go_wp2_with (first
                    | (go_at_call 12
                       (refine (mod_any _ nm ?_ ?_ _).mono ?_)
                       · omega
                       · omega
                       rintro e w3 ⟨⟨r, hr, rfl⟩, rfl⟩))
                  go_meet
                  case rel => exact ⟨r, hr, rfl, rfl⟩
                · go_wp2
                  go_meet
                  case rel => exact ⟨0, hm, rfl, rfl⟩
              case rest =>
                obtain ⟨r, hr, rfl, rfl⟩ := hcut
                have hrl : r < m.length := by rw [HM.out.1]; exact hr
                obtain ⟨ad, rfl, had, a0, a1, a2, a3, a4, a5, a6⟩ := HM.out.2.1.ke hrl
                have hzr := nItems_size HZ.out _ ((HM.out.2.2.2 m[r]).1 (by simp))
                have hpi := part_iff r hrl HM.out.2.2.2
                have hns := noteAll_snoc bs m[r]
                have hnl' := noteS_len (noteAll bs) m[r]
                generalize hxx : m[r] = x at a0 a1 a2 a3 a4 a5 a6 hzr hpi hns hnl'
                have HXX := Lib.hid hxx
                have HPI := Lib.hid (And.intro hpi hns)
                clear hxx hpi hns
                have hr0' : (0 : Int) ≤ r := by omega
                have hr1' : (r : Int) < nm := by omega
                go_wp2
                go_still_tail 11, (by kernel_rfl)
                go_wp2_with (first
                  | (go_at_call 10
                     (with_reducible refine (note_un w2.heap.size x.1 x.2 (noteAll bs) _ ?_ ?_ ?_).mono ?_)
                     · exact (H.out.2.1).next (Below.refl _ _).drew
                     · exact hzr
                     · omega
                     rintro e w5 ⟨⟨v5, rfl⟩, hd5, hc5⟩
                     have hbd : Below wc.heap.size wc wc.drew := (Below.refl _ _).drew
                     have hd6 := (H.out.1.next hbd).dch (H.out.2.1.next hbd) hc5 (by omega)
                     have hb5 := dch_below H.out.2.2 hbd hc5 (by omega)
                     have hR5 : Rd w5 wc.heap.size (some ad) (m.flatMap keC) := (HM.out.2.1.below hbd).chg (by simp) hc5 (fun ad' e' h => HM.out.2.2.1 ad' e' h)
                     have hs5 := hc5.size
                     have hs6 : wc.drew.heap.size = wc.heap.size := by simp
                     have H5 := Lib.hid (And.intro hd6 (And.intro hd5 (And.intro hb5 hR5)))
                     have HS5 := Lib.hid (show wc.heap.size ≤ w5.heap.size by omega)
                     clear hd6 hd5 hb5 hR5 hc5 hbd hs5 hs6)
                  | (at_builtin
                     refine wpList_app _ rfl (.tmp 118) (.tmp 121) _ rfl w5.heap.size 28 i1 _ 7 64 Try.underlying24 hi1 hz1 hs1 hy1 rfl (by omega) (.slice none 0 0) 0 [] rfl (World.ownsRow_nil _ _ _ _) _ _ r _ ((m.take r).flatMap keC) rfl (by rw [keC_len, List.length_take, HM.out.1]; omega) (H5.out.2.2.2.part r) (one_ke _) (by unfold maxLen; omega) (by omega) (Nat.le_refl _) ?_
                     intro v6 w6 hown hg hor
                     obtain ⟨b6, c6, rfl⟩ := row_slice hown
                     rw [Nat.zero_add, List.nil_append] at hown
                     have H6 := Lib.hid (And.intro hown hg)
                     clear hown hg hor)
                  | (at_builtin
                     refine wpList_app _ rfl (.tmp 123) (.tmp 127) _ rfl w5.heap.size 28 i1 _ 7 64 Try.underlying24 hi1 hz1 hs1 hy1 rfl (by omega) (.slice b6 r c6) r _ rfl H6.out.1 wc.heap.size (if c3 = r + 1 then some ad else some (ad.add ((r + 1) * 7))) (nm - (r + 1)) (c3 - (r + 1)) ((m.drop (r + 1)).flatMap keC) ?hxx (by rw [keC_len, List.length_drop, HM.out.1]) ?hrd (one_ke _) (by unfold maxLen; omega) (by omega) H6.out.2.size ?_
                     case hxx =>
                       simp [Act.eval]
                     case hrd =>
                       have hrr := H5.out.2.2.2.below (((Below.refl w5.heap.size w5).grown H6.out.2 (Nat.le_refl _) (fun k e => by cases e)).mono HS5.out)
                       split
                       · rename_i hc
                         have hd0 : m.drop (r + 1) = [] := List.drop_eq_nil_of_le (by rw [HM.out.1]; omega)
                         rw [hd0]
                         exact Rd.nil _ _ _
                       · exact hrr.rest (r + 1) (by omega)
                     intro v7 w7 hown hg hor
                     obtain ⟨b7, c7, rfl⟩ := row_slice hown
                     have H7 := Lib.hid (And.intro hown hg)
                     clear hown hg hor))
                have hb57 : Below w5.heap.size w5 w7 := ((Below.refl w5.heap.size w5).grown H6.out.2 (Nat.le_refl _) (fun k e => by cases e)).grown H7.out.2 H6.out.2.size (fun k e => (H6.out.1.lt k e).1)
                have HB57 := Lib.hid hb57
                clear hb57
                go_roundw
                case rel =>
                  have hO := H7.out.1
                  rw [← List.flatMap_append] at hO
                  have hl5 := H.out.2.1.lt
                  have hs5 := HS5.out
                  refine ⟨j + 1, r + (nm - (r + 1)), b7, c7, m.take r ++ m.drop (r + 1), bs ++ [x], by go_num, rfl, ?_, row_cap hO, by omega, row_rd' hO, fun ad' e' => ?_, HPI.out.1, H5.out.1.next HB57.out, ?_, ?_, ?_⟩
                  · rw [List.length_append, List.length_take, List.length_drop, HM.out.1]; omega
                  · have := row_low hO ad' e'
                    omega
                  · rw [HPI.out.2]; exact H5.out.2.1.next HB57.out
                  · rw [HPI.out.2]; omega
                  · exact H5.out.2.2.1.trans (HB57.out.mono H5.out.2.2.1.size)
                case measure => simp [intOf]; omega
            · have hm0 : m = [] := List.eq_nil_of_length_eq_zero (by rw [HM.out.1]; omega)
              have hsm := note_same l0 bs (by have := HM.out.2.2.2; rw [hm0, List.append_nil] at this; exact this)
              have H' := Lib.hid (And.intro H.out.1 (And.intro (by have := H.out.2.1; rwa [hsm] at this : DR wr w2.heap.size (build (nItems l0))) H.out.2.2))
              clear H HM hnl hm0 hsm
              go_wp2
              go_loopw [16] (fun i wr => ∃ (k : Nat), k ≤ n0 ∧ i = .int .i64 k ∧ DR wr w1.heap.size (build (nItems l0)) ∧ DR wr w2.heap.size (build (nItems l0)) ∧ Below w1.heap.size w1 wr) (fun i _ => n0 - (intOf i).toNat)
              case atStart => exact ⟨0, by omega, rfl, H'.out.1, H'.out.2.1, H'.out.2.2⟩
              case round =>
                clear H' hm hjn hc3
                obtain ⟨k, hk, rfl, hd, he, hb⟩ := hrel
                have H := Lib.hid (And.intro hd (And.intro he hb))
                clear hd he hb
                by_cases hlt : k < n0
                · have hkl : k < (nItems l0).length := by rw [HL.out]; exact hlt
                  have hkl' : k < l0.length := by rw [HE.out.1]; exact hlt
                  obtain ⟨ad, rfl, had, a0, a1, a2, a3, a4, a5, a6⟩ := (Hr1.out _ H.out.2.2).2.1.ke hkl
                  have hzk := nItems_size HZ.out _ (List.getElem_mem hkl)
                  have hk0' : (0 : Int) ≤ k := by omega
                  have hk1' : (k : Int) < n0 := by omega
                  generalize hxx : (nItems l0)[k] = x at a0 a1 a2 a3 a4 a5 a6 hzk
                  have HXX := Lib.hid hxx
                  clear hxx a1 a2 a3 a4 a5 a6
                  have hgl := getL_build x.1 (nItems l0)
                  generalize hoo : lastB x.1 (nItems l0) = o at hgl
                  have HO := Lib.hid (And.intro hgl hoo)
                  clear hgl hoo
                  go_wp2_with (first
                    | (go_at_call 13
                       (with_reducible refine (last_one (some ad) n0 c x.1 (nItems l0) _ ?_ ?_ ?_ ?_).mono ?_)
                       · exact (Hr1.out _ H.out.2.2).1
                       · exact HL.out
                       · omega
                       · exact hzk
                       rintro e w3 ⟨rfl, hb3⟩
                       rw [HO.out.2]
                       have hb3' := H.out.2.2.trans (hb3.mono H.out.2.2.size)
                       have hrk := (Hr1.out _ hb3').2.1.ke hkl
                       rw [HXX.out] at hrk
                       obtain ⟨ad2, e2, hbk, q0, q1, q2, q3, q4, q5, q6⟩ := hrk
                       cases e2
                       have hblk : (ad.add (k * 7)).block < w3.heap.size := by rw [add_block]; have := hb3'.size; omega
                       have hx3 := Box.new w3 26 #[.int .i64 (oe o).seg, .int .i64 (oe o).at_, .int .i64 (oe o).size, .int .i64 (oe o).off, .int .i64 (oe o).time, .bool (oe o).tomb]
                       have H3 := Lib.hid (And.intro ((H.out.1.next hb3).next (bal _ (.cells #[.int .i64 (oe o).seg, .int .i64 (oe o).at_, .int .i64 (oe o).size, .int .i64 (oe o).off, .int .i64 (oe o).time, .bool (oe o).tomb] 26))) (And.intro ((H.out.2.1.next hb3).next (bal _ (.cells #[.int .i64 (oe o).seg, .int .i64 (oe o).at_, .int .i64 (oe o).size, .int .i64 (oe o).off, .int .i64 (oe o).time, .bool (oe o).tomb] 26))) (And.intro (hb3'.alloc hb3'.size (.cells #[.int .i64 (oe o).seg, .int .i64 (oe o).at_, .int .i64 (oe o).size, .int .i64 (oe o).off, .int .i64 (oe o).time, .bool (oe o).tomb] 26)) hx3)))
                       clear hb3 hb3' hbk hx3 q1 q2 q3 q4 q5 q6)
                    | (go_at_call 14
                       (with_reducible refine (get_one w1.heap.size x.1 (build (nItems l0)) _ ?_ ?_).mono ?_)
                       · exact H3.out.1
                       · exact hzk
                       rintro e w4 ⟨rfl, hb4⟩
                       rw [HO.out.1]
                       have hb4' := H3.out.2.2.1.trans (hb4.mono H3.out.2.2.1.size)
                       have hrk := (Hr1.out _ hb4').2.1.ke hkl
                       rw [HXX.out] at hrk
                       obtain ⟨ad3, e3, hbk, r0, r1, r2, r3, r4, r5, r6⟩ := hrk
                       cases e3
                       have hblk4 : (ad.add (k * 7)).block < w4.heap.size := by rw [add_block]; have := hb4'.size; omega
                       have hx3 := H3.out.2.2.2.below hb4 H3.out.2.2.2.lt
                       have hx4 := Box.new w4 26 #[.int .i64 (oe o).seg, .int .i64 (oe o).at_, .int .i64 (oe o).size, .int .i64 (oe o).off, .int .i64 (oe o).time, .bool (oe o).tomb]
                       have H4 := Lib.hid (And.intro ((H3.out.2.1.next hb4).next (bal _ (.cells #[.int .i64 (oe o).seg, .int .i64 (oe o).at_, .int .i64 (oe o).size, .int .i64 (oe o).off, .int .i64 (oe o).time, .bool (oe o).tomb] 26))) (And.intro (hb4'.alloc hb4'.size (.cells #[.int .i64 (oe o).seg, .int .i64 (oe o).at_, .int .i64 (oe o).size, .int .i64 (oe o).off, .int .i64 (oe o).time, .bool (oe o).tomb] 26)) (And.intro (hx3.alloc (.cells #[.int .i64 (oe o).seg, .int .i64 (oe o).at_, .int .i64 (oe o).size, .int .i64 (oe o).off, .int .i64 (oe o).time, .bool (oe o).tomb] 26)) (And.intro hx4 ((H3.out.1.next hb4).next (bal _ (.cells #[.int .i64 (oe o).seg, .int .i64 (oe o).at_, .int .i64 (oe o).size, .int .i64 (oe o).off, .int .i64 (oe o).time, .bool (oe o).tomb] 26)))))))
                       clear hb4 hb4' hbk hx3 hx4 r1 r2 r3 r4 r5 r6)
                    | (go_at_call 14
                       (with_reducible refine (get_one w2.heap.size x.1 (build (nItems l0)) _ ?_ ?_).mono ?_)
                       · exact H4.out.1
                       · exact hzk
                       rintro e w5 ⟨rfl, hb5⟩
                       rw [HO.out.1]
                       have hx3 := H4.out.2.2.1.below hb5 H4.out.2.2.1.lt
                       have hx4 := H4.out.2.2.2.1.below hb5 H4.out.2.2.2.1.lt
                       have hxc := hx3.cell
                       have hxf := hx3.free
                       have hxl := hx3.lt
                       have hyc := hx4.cell
                       have hyf := hx4.free
                       have hyl := hx4.lt
                       have H5 := Lib.hid (And.intro (H4.out.2.2.2.2.next hb5) (And.intro (H4.out.1.next hb5) (H4.out.2.1.trans (hb5.mono H4.out.2.1.size))))
                       clear hb5 hx3 hx4))
                  go_roundw
                  case rel => exact ⟨k + 1, by omega, by go_num, H5.out.1.next (bal _ _), H5.out.2.1.next (bal _ _), H5.out.2.2.alloc H5.out.2.2.size _⟩
                  case measure => simp [intOf]; omega
                · have hlb := build_len (nItems l0) n0 (by rw [HL.out]; exact Nat.le_refl _)
                  rw [List.take_of_length_le (by rw [HL.out]; exact Nat.le_refl _)] at hlb
                  generalize build (nItems l0) = A at hlb H
                  go_wp2_with (first
                     | (go_at_call 16
                        (with_reducible refine (range_dir w1.heap.size A ⟨#[]⟩ ⟨#[]⟩ _ _ ?_ ?_ ?_ ?_ ?_ ?_).mono ?_)
                        · exact H.out.1
                        · exact Nat.zero_le _
                        · exact Nat.zero_le _
                        · omega
                        · first | omega | go_num
                        · first | omega | go_num
                        rintro e w21 ⟨v21, rfl, hw21, hb21⟩
                        obtain ⟨A21, cap21, rfl, hr21⟩ := row_rd hw21
                        have HR21 := Lib.hid (And.intro hr21 hb21.size)
                        have HS21 := Lib.hid (And.intro (H.out.2.1.next hb21) (H.out.2.2.trans (hb21.mono H.out.2.2.size)))
                        clear hw21 hr21 hb21)
                     | (go_at_call 16
                        (with_reducible refine (range_dir w2.heap.size A ⟨#[]⟩ ⟨#[]⟩ _ _ ?_ ?_ ?_ ?_ ?_ ?_).mono ?_)
                        · exact HS21.out.1
                        · exact Nat.zero_le _
                        · exact Nat.zero_le _
                        · omega
                        · first | omega | go_num
                        · first | omega | go_num
                        rintro e w22 ⟨v22, rfl, hw22, hb22⟩
                        obtain ⟨A22, cap22, rfl, hr22⟩ := row_rd hw22
                        have HR22 := Lib.hid (And.intro hr22 hb22.size)
                        have HS22 := Lib.hid (HS21.out.2.trans (hb22.mono HS21.out.2.size))
                        have HB22 := Lib.hid hb22
                        clear hw22 hr22 hb22)
                     | (go_at_call 15
                        (with_reducible refine (sameItems_eq A21 A22 _ cap21 cap22 ((sel ⟨#[]⟩ ⟨#[]⟩ A).take (((n0 : Int) + 1).toNat)) _ ?_ ?_ ?_ ?_).mono ?_)
                        · exact (HR21.out.1.below HB22.out).mono HR22.out.2
                        · exact HR22.out.1
                        · rw [List.length_take]; omega
                        · omega
                        rintro e w23 ⟨rfl, hb23⟩
                        have HS23 := Lib.hid (HS22.out.trans (hb23.mono HS22.out.size))
                        clear hb23)
                     | (go_at_call 17
                        refine (head_any _).mono ?_
                        rintro e w30 ⟨rfl, hb30⟩
                        have HS30 := Lib.hid (HS23.out.trans (hb30.mono HS23.out.size))
                        clear hb30))
                  go_ret
                  exact ⟨rfl, (Hr1.out _ HS30.out).2.2.2⟩
end Go.Proofs.Ytociadicjbkjcaa
