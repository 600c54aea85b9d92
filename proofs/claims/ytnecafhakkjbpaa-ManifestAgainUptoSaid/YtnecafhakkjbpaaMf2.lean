import Derived.Test.YtnecafhakkjbpaaMf1
import Derived.Test.YtnecafhakkjbpaaMa1
import Derived.Test.YtnecafhakkjbpaaRp2
import Derived.Test.YtnecafhakkjbpaaSm35
/- ManifestFull walked. -/
namespace Go.Proofs.Ytnecafhakkjbpaa
open Go.RowKit Go.Maps

theorem lv_load7 {W w : World} {q : Int} {fs : List FE} {A : Option Addr} {n c N : Nat} (hb : Below W.heap.size W w) (h : LdOk q fs) (hn : fs.length = n) (hI : IM w w.heap.size A fs) (hN : fs.length ≤ N) :
    Calls Try.prog 14 #[.slice A n c, .int .i64 q] w fun e w' => ∃ d S, e = .returned (.tuple #[.pointer (some ⟨d, 0, none⟩), .int .i64 0]) ∧ Lv W w' S d (ldS q fs) N ∧ (∀ b, S b → w.heap.size ≤ b) ∧ Below w.heap.size w w' :=
  (load_ok q fs A n c w h hn hI).mono fun _ _ ⟨d, S, h1, h2, h3, h4⟩ => ⟨d, S, h1, ⟨h2, fun b hb2 => Nat.le_trans hb.size (h3 b hb2), hb.trans (h4.mono hb.size), ld_inv h hN⟩, h3, h4⟩
theorem rd_up {W w : World} {A : Option Addr} {us : List Value} (h : Rd W W.heap.size A us) (hb : Below W.heap.size W w) : Rd w w.heap.size A us := by
  intro j u hj
  obtain ⟨ad, e, h1, h2⟩ := h.below hb j u hj
  exact ⟨ad, e, Nat.lt_of_lt_of_le h1 hb.size, h2⟩
/-- An image of one file. -/
theorem im_one {w : World} {B : Nat} {b A : Option Addr} {cap c n : Nat} {nm : ByteArray} {bs : List UInt8} (h : w.ownsRow B 46 2 (.slice b 1 cap) 1 [.string nm, .slice A n c]) (hn : bs.length = n) (hA : Rd w w.heap.size A (bv bs)) : IM w w.heap.size b [(nm, bs)] := by
  intro i p hp
  cases i with
  | zero =>
    simp at hp
    subst hp
    obtain ⟨ad, rfl, hb, c0⟩ := row_rd h 0 _ rfl
    obtain ⟨ad', e, _, c1⟩ := row_rd h 1 _ rfl
    cases e
    refine ⟨ad, A, c, rfl, hb, by simpa using c0, ?_, hA⟩
    have e : (ad.add (0 * 2)) = ad := by simp [Addr.add]
    rw [e]
    subst hn
    exact c1
  | succ i => simp at hp
set_option maxRecDepth 100000 in
set_option maxHeartbeats 16000000 in
theorem full_law (A0 : Option Addr) (n0 c0 : Nat) (old : List UInt8) (A1 : Option Addr) (n1 c1 : Nat) (next : List UInt8) (room : Int) (W : World) (h0 : Rd W W.heap.size A0 (bv old)) (hn0 : old.length = n0) (hm0 : n0 ≤ 1048576) (h1 : Rd W W.heap.size A1 (bv next)) (hn1 : next.length = n1) (hm1 : n1 ≤ 1048576) :
    Calls Try.prog 6 #[.slice A0 n0 c0, .slice A1 n1 c1, .int .i64 room] W fun e w' => e = .returned (.bool true) ∧ Below W.heap.size W w' := by
  obtain ⟨i1, hi1, hz1, hs1, hy1⟩ := info_parts info_file
  have HA := Lib.hid (And.intro h0 (And.intro hn0 (And.intro h1 hn1)))
  clear h0 hn0 h1 hn1
  go_enter Try.func6, Try.ntmps6
  go_upto_region 3 with (first
    | (at_builtin
       refine wpList_app _ rfl (.tmp 14) (.tmp 17) _ rfl W.heap.size 46 i1 _ 2 40 Try.underlying31 hi1 hz1 hs1 hy1 rfl (by omega) (.slice none 0 0) 0 [] rfl (nil_own _ _ _ _) _ _ 1 1 [.string t1N, .slice A0 n0 c0] rfl rfl (rd_new _ _ _) (by simp [Value.oneCell']) (by unfold maxLen; omega) (by omega) (by simp) ?_
       intro v' w8 hown hg8 _
       obtain ⟨bi, ci, hv⟩ := row_slice hown
       subst hv
       have hb8 : Below W.heap.size W w8 := Below.grown ((Below.refl _ W).alloc (Nat.le_refl _) _) hg8 (by simp) (fun j e => by simp [Value.ownBlock] at e)
       have H8 := Lib.hid (And.intro (im_one hown HA.out.2.1 (rd_up HA.out.1 hb8)) hb8)
       clear hown hg8 hb8))
  obtain ⟨r, hr⟩ : ∃ r : Nat, max 0 (min room 1048576) = (r : Int) := ⟨(max 0 (min room 1048576)).toNat, by omega⟩
  have hrm : r ≤ 1048576 := by omega
  have HRR := Lib.hid hr
  have hle : ((n0 : Int) + (r : Int)) ≤ 1073741824 := by omega
  have hge : (0 : Int) ≤ (n0 : Int) + (r : Int) := by omega
  have hbig : old.length ≤ 1073741824 := by rw [HA.out.2.1]; omega
  have HOK := Lib.hid (full_ok ((n0 : Int) + (r : Int)) old ⟨hge, hle⟩ hbig)
  have HST := Lib.hid (full_start ((n0 : Int) + (r : Int)) (n0 : Int) old (by rw [HA.out.2.1]))
  clear hge hle hbig
  by_cases hlt : r < n1
  · have HL := Lib.hid (show 0 < next.length ∧ ((n0 : Int) + (r : Int)) - (n0 : Int) < next.length by rw [HA.out.2.2.2]; omega)
    have hgt : (r : Int) < (n1 : Int) := by omega
    clear hlt
    have T0 := Lib.hid True.intro

    go_wp2_with (first
      | (go_at_call 14
         refine (lv_load7 (W := W) (N := 1) H8.out.2 HOK.out rfl H8.out.1 (by simp)).mono ?_
         rintro e w9 ⟨d, S, rfl, g1, g2, g3⟩
         rw [HST.out] at g1
         have H9 := Lib.hid (And.intro g1 (And.intro g2 g3))
         clear g1 g2 g3)
      | (go_at_call 10
         refine (replace_any W w9 S d _ 1 t1N A1 n1 c1 next H9.out.1 (by decide) (by decide) (H9.out.1.out HA.out.2.2.1) HA.out.2.2.2 (by omega)).mono ?_
         rintro e w10 ⟨rfl, h10⟩
         rw [show t1N ++ ⟨#[46, 116, 109, 112]⟩ = t1T from by decide] at h10 ⊢
         rw [full_no _ _ _ _ HL.out] at h10 ⊢
         obtain ⟨S10, k1, k2, k3⟩ := h10
         have hb10 : Below w8.heap.size w8 w10 := H9.out.2.2.trans (k2.below H9.out.2.2.size fun b hb => H9.out.2.1 b hb)
         have H10 := Lib.hid (And.intro k1 hb10)
         clear k1 k2 k3 hb10)
      | (go_at_call 23
         refine (lv_image H10.out.1 (by decide)).mono ?_
         rintro e w11 ⟨us, ib, ic, rfl, hfl, hb11⟩
         rw [f_img6] at hfl ⊢
         have H11 := Lib.hid (And.intro hfl.im (And.intro (H10.out.2.trans (hb11.mono H10.out.2.size)) (H10.out.1.next hb11)))
         clear hfl hb11)
      | (go_at_call 24
         refine (sameImage7_any ib bi 1 ic 1 ci [(t1N, old)] [(t1N, old)] _ rfl rfl H11.out.1 ((H8.out.1.below H11.out.2.1).mono H11.out.2.1.size) (by decide) (by decide) (fun p hp => by simp at hp; subst hp; show old.length ≤ _; rw [HA.out.2.1]; omega) (fun p hp => by simp at hp; subst hp; show old.length ≤ _; rw [HA.out.2.1]; omega)).mono ?_
         rintro e w12 ⟨rfl, k12, hw12⟩
         rw [show decide ([(t1N, old)] = [(t1N, old)]) = true from decide_eq_true rfl]
         have H12 := Lib.hid (show Below W.heap.size W w12 from hw12 ▸ below_drewN H11.out.2.2.2.2.1 k12)
         clear hw12))
    go_ret
    exact ⟨rfl, H12.out⟩
  · have HL := Lib.hid (show ¬ (0 < next.length ∧ ((n0 : Int) + (r : Int)) - (n0 : Int) < next.length) by rw [HA.out.2.2.2]; omega)
    have hgt : ¬ ((r : Int) < (n1 : Int)) := by omega
    clear hlt
    go_wp2_with (first
      | (go_at_call 14
         refine (lv_load7 (W := W) (N := 1) H8.out.2 HOK.out rfl H8.out.1 (by simp)).mono ?_
         rintro e w9 ⟨d, S, rfl, g1, g2, g3⟩
         rw [HST.out] at g1
         have H9 := Lib.hid (And.intro g1 (And.intro g2 g3))
         clear g1 g2 g3)
      | (go_at_call 10
         refine (replace_any W w9 S d _ 1 t1N A1 n1 c1 next H9.out.1 (by decide) (by decide) (H9.out.1.out HA.out.2.2.1) HA.out.2.2.2 (by omega)).mono ?_
         rintro e w10 ⟨rfl, h10⟩
         rw [show t1N ++ ⟨#[46, 116, 109, 112]⟩ = t1T from by decide] at h10 ⊢
         rw [full_yes _ _ _ _ HL.out] at h10 ⊢
         obtain ⟨S10, k1, k2, k3⟩ := h10
         have hb10 : Below w8.heap.size w8 w10 := H9.out.2.2.trans (k2.below H9.out.2.2.size fun b hb => H9.out.2.1 b hb)
         have H10 := Lib.hid (And.intro k1 hb10)
         clear k1 k2 k3 hb10)
      | (go_at_call 23
         refine (lv_image H10.out.1 (by decide)).mono ?_
         rintro e w11 ⟨us, ib, ic, rfl, hfl, hb11⟩
         rw [f_img5] at hfl ⊢
         have H11 := Lib.hid (And.intro hfl.im (And.intro (H10.out.2.trans (hb11.mono H10.out.2.size)) (H10.out.1.next hb11)))
         clear hfl hb11)
      | (go_at_call 12
         refine (file_any ib 1 ic t1N [(t1N, next)] w11 rfl H11.out.1 (by decide)).mono ?_
         rintro e w12 ⟨hf, hw12⟩
         rw [show fileI t1N [(t1N, next)] = some next from by unfold fileI; simp] at hf
         obtain ⟨xf, xc, rfl, hxr⟩ := hf
         have hw13 := hw12.symm
         subst hw13
         rw [HA.out.2.2.2]
         have H12 := Lib.hid hxr
         clear hxr hw12)
      | (go_at_call 13
         refine (same7_any xf A1 n1 xc n1 c1 next next w11 HA.out.2.2.2 HA.out.2.2.2 H12.out (rd_up HA.out.2.2.1 H11.out.2.2.2.2.1) (by omega) (by omega)).mono ?_
         rintro e w13 ⟨rfl, k13, hw13⟩
         rw [show decide (next = next) = true from decide_eq_true rfl]
         have H13 := Lib.hid (show Below W.heap.size W w13 from hw13 ▸ below_drewN H11.out.2.2.2.2.1 k13)
         clear hw13))
    go_ret
    exact ⟨rfl, H13.out⟩
end Go.Proofs.Ytnecafhakkjbpaa
