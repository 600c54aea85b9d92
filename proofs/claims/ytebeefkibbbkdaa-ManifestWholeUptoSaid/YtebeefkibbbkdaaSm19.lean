import Derived.Test.YtebeefkibbbkdaaSm17
import Derived.StillTailTactics
/- New, and the questions Size, Read, Used, Quota, Ops, Dead; SetQuota, Fuse. -/
namespace Go.Proofs.Ytebeefkibbbkdaa
open Go.RowKit Go.Maps

theorem Rd.drop_ {w : World} {B : Nat} {ad : Addr} {l : List UInt8} (h : Rd w B (some ad) (bv l)) (k : Nat) : Rd w B (some (ad.add k)) (bv (l.drop k)) := by
  intro j u hj
  rw [bv_drop, List.getElem?_drop] at hj
  obtain ⟨a, e, hb, hc⟩ := h (k + j) u hj
  cases e
  exact ⟨ad.add k, rfl, by rw [add_block]; exact hb, by rw [add_add']; exact hc⟩
theorem Rd.take_ {w : World} {B : Nat} {A : Option Addr} {l : List UInt8} (h : Rd w B A (bv l)) (k : Nat) : Rd w B A (bv (l.take k)) := by
  intro j u hj
  rw [bv_take] at hj
  exact h j u (by
    have hl := (List.getElem?_eq_some_iff.1 hj).1
    rw [List.length_take] at hl
    rw [List.getElem?_take_of_lt (by omega)] at hj
    exact hj)
def tailA (b : Option Addr) (cap k : Nat) : Option Addr := if cap = k then b else b.map (·.add k)
theorem Rd.tail_ {w : World} {B : Nat} {b : Option Addr} {l : List UInt8} {cap : Nat} (h : Rd w B b (bv l)) (k : Nat) (hc : l.length ≤ cap) : Rd w B (tailA b cap k) (bv (l.drop k)) := by
  unfold tailA
  split
  · rename_i e
    subst e
    rw [List.drop_of_length_le hc]
    exact Rd.nil _ _ _
  · cases b with
    | some ad => exact h.drop_ k
    | none =>
      intro j u hj
      rw [bv_drop, List.getElem?_drop] at hj
      obtain ⟨_, e, _⟩ := h (k + j) u hj
      cases e
theorem sizeU8 : ∀ w, (Go.sizeOf 5).run Try.prog w = .ok 1 w := Try.sizeOf5
theorem run_part2 (W : World) (b : Option Addr) (len cap k m : Nat) (lo h : Int) (hlo : lo = k) (hh : h = k + m) (hm : k + m ≤ cap) :
    (Instr.slice 22 (.slice b len cap) (some (.int .i64 lo)) (some (.int .i64 h)) none).run Try.prog W = .ok (.slice (tailA b cap k) m (cap - k)) W := by
  have ht : Try.prog.underlying 22 = some (.slice 5) := Try.underlying22
  have he : Try.prog.elem 22 = 5 := by simp [Program.elem, ht]
  have ht' : Try.prog.underlying 22 = some (.slice (Try.prog.elem 22)) := by rw [he]; exact ht
  subst hlo hh
  rw [run_slice_lh W 22 _ _ _ ht' .i64 .i64 _ _ (by omega) (by omega) (by omega), he, sizeU8]
  have e : ((k : Int) + m).toNat = k + m := by omega
  simp [Result.andThen, sliced, tailA, e]

/-- A new disk. -/
def Dk.fresh (q : Int) : Dk := ⟨[], [], [], q, 0, -1, false, 0⟩
set_option maxRecDepth 100000 in
set_option maxHeartbeats 4000000 in
theorem fresh_any (q : Int) (w : World) :
    Calls Try.prog 43 #[.int .i64 q] w fun e w' => ∃ d S, e = .returned (.pointer (some ⟨d, 0, none⟩)) ∧ Disk w' S d (Dk.fresh q) ∧ (∀ b, S b → w.heap.size ≤ b) ∧ Below w.heap.size w w' := by
  have hmm := @run_makeMap Try.prog
  go_enter Try.func43, Try.ntmps43
  go_wp2
  go_ret
  have hb0 : Box (w.alloc (.cells #[.map none, .map none, .slice none 0 0, .int .i64 q, .int .i64 0, .int .i64 (-1), .bool false, .int .i64 0] 72)) w.heap.size 72 _ := Box.new w _ _
  refine ⟨w.heap.size, fun b => b = w.heap.size ∨ b = w.heap.size + 1 ∨ b = w.heap.size + 2, rfl, ⟨fun b => if b = w.heap.size then 1 else if b = w.heap.size + 1 then 2 else if b = w.heap.size + 2 then 3 else 0, [], w.heap.size + 1, w.heap.size + 2, .slice none 0 0, ⟨?_, by simp, by simp, by simp, ?_, ?_, nil_own _ _ _ _, fun _ h => (by cases h), rfl, fun k x h => (by simp [Dk.fresh] at h), fun b hb => ?_, fun p hp => (by cases hp), fun n f hf => (by cases hf)⟩, fun b => ?_⟩, fun b hb => by omega, ?_⟩
  · exact ((Box.new w _ _).alloc _).alloc _
  · have h9 := (MD.made (w.alloc (.cells (dxc (w.heap.size + 1) (w.heap.size + 1 + 1) (.slice none 0 0) (q, 0, -1, false, 0)) 72))).alloc (.map #[] 0)
    rw [World.size_alloc] at h9
    exact h9
  · have h9 := MD.made ((w.alloc (.cells (dxc (w.heap.size + 1) (w.heap.size + 1 + 1) (.slice none 0 0) (q, 0, -1, false, 0)) 72)).alloc (.map #[] 0))
    rw [World.size_alloc, World.size_alloc] at h9
    exact h9
  · rw [World.size_alloc, World.size_alloc, World.size_alloc]
    by_cases h1 : b = w.heap.size
    · omega
    · by_cases h2 : b = w.heap.size + 1
      · omega
      · by_cases h3 : b = w.heap.size + 2
        · omega
        · simp [h1, h2, h3] at hb
  · by_cases h1 : b = w.heap.size
    · simp [h1]
    · by_cases h2 : b = w.heap.size + 1
      · simp [h2]
      · by_cases h3 : b = w.heap.size + 2
        · simp [h3]
        · simp [h1, h2, h3]
  · exact (((Below.refl _ _).alloc (Nat.le_refl _) _).alloc (by simp) _).alloc (by simp; omega) _
def qOk (q : Int) : Bool := decide (0 ≤ q ∧ q ≤ 1073741824)
set_option maxRecDepth 100000 in
theorem goodQuota_any (q : Int) (w : World) : Calls Try.prog 42 #[.int .i64 q] w fun e w' => e = .returned (.bool (qOk q)) ∧ w' = w := by
  rcases (show q < 0 ∨ (0 ≤ q ∧ q ≤ 1073741824) ∨ 1073741824 < q by omega) with h | ⟨h, h2⟩ | h
  · have hd := Lib.hid (show qOk q = false from decide_eq_false (show ¬ (0 ≤ q ∧ q ≤ 1073741824) by omega))
    go_enter Try.func42, Try.ntmps42
    go_wp2
    go_ret
    exact ⟨ret_bool (by rw [hd.out]; try exact decide_eq_false (by omega)), rfl⟩
  · have hd := Lib.hid (show qOk q = true from decide_eq_true (show 0 ≤ q ∧ q ≤ 1073741824 by omega))
    go_enter Try.func42, Try.ntmps42
    go_wp2
    go_ret
    exact ⟨ret_bool (by rw [hd.out]; try exact decide_eq_false (by omega)), rfl⟩
  · have hd := Lib.hid (show qOk q = false from decide_eq_false (show ¬ (0 ≤ q ∧ q ≤ 1073741824) by omega))
    have h0 : ¬ q < 0 := by omega
    go_enter Try.func42, Try.ntmps42
    go_wp2
    go_ret
    exact ⟨ret_bool (by rw [hd.out]; try exact decide_eq_false (by omega)), rfl⟩
set_option maxRecDepth 100000 in
theorem new_no (q : Int) (w : World) (hq : ¬ (0 ≤ q ∧ q ≤ 1073741824)) : Calls Try.prog 19 #[.int .i64 q] w fun e w' => e = .returned (.tuple #[.pointer none, .int .i64 3]) ∧ w' = w := by
  have hd := Lib.hid (show qOk q = false from decide_eq_false hq)
  clear hq
  go_enter Try.func19, Try.ntmps19
  go_wp2_with (go_at_call 42; refine (goodQuota_any q _).mono ?_; rintro e w1 ⟨rfl, rfl⟩; rw [hd.out])
  go_ret2
  exact ⟨rfl, rfl⟩
set_option maxRecDepth 100000 in
theorem new_any (q : Int) (w : World) (hq : 0 ≤ q ∧ q ≤ 1073741824) : Calls Try.prog 19 #[.int .i64 q] w fun e w' => ∃ d S, e = .returned (.tuple #[.pointer (some ⟨d, 0, none⟩), .int .i64 0]) ∧ Disk w' S d (Dk.fresh q) ∧ (∀ b, S b → w.heap.size ≤ b) ∧ Below w.heap.size w w' := by
  have hd := Lib.hid (show qOk q = true from decide_eq_true hq)
  clear hq
  go_enter Try.func19, Try.ntmps19
  go_wp2_with (first
    | (go_at_call 42; refine (goodQuota_any q _).mono ?_; rintro e w1 ⟨rfl, rfl⟩; rw [hd.out])
    | (go_at_call 43
       refine (fresh_any q _).mono ?_
       rintro e w2 ⟨d, S, rfl, h1, h2, h3⟩
       have H := Lib.hid (And.intro h1 (And.intro h2 h3))
       clear h1 h2 h3))
  go_ret2
  exact ⟨d, S, rfl, H.out.1, H.out.2.1, H.out.2.2⟩

def sizeV (n : ByteArray) (s : Dk) : Int := if atE n s ≠ 0 then 0 else (s.fl (s.num n)).seen.length
set_option maxRecDepth 100000 in
set_option maxHeartbeats 4000000 in
theorem size_any (S : Nat → Prop) (d N : Nat) (s : Dk) (n : ByteArray) (w : World) (h : Disk w S d s) (hok : s.Ok) (hsz : s.Sz N 140737488355328) (hz : n.size ≤ maxLen) :
    Calls Try.prog 25 #[.pointer (some ⟨d, 0, none⟩), .string n] w fun e w' => e = .returned (.tuple #[.int .i64 (sizeV n s), .int .i64 (atE n s)]) ∧ Below w.heap.size w w' := by
  by_cases h0 : atE n s = 0
  case neg =>
    have HE := Lib.hid (show sizeV n s = 0 by simp [sizeV, h0])
    have H := Lib.hid h
    obtain ⟨er, her⟩ : ∃ er, atE n s = er := ⟨_, rfl⟩
    have HR := Lib.hid her
    rw [her] at h0
    have hnb : (er != 0) = true := by rw [bne_iff_ne]; exact h0
    clear h her hok hsz
    go_enter Try.func25, Try.ntmps25
    go_wp2_with (go_at_call 76
                 refine (at_no S d s n _ H.out hz er HR.out h0).mono ?_
                 rintro e w1 ⟨rfl, hb⟩
                 have HB := Lib.hid hb
                 clear hb)
    go_ret2
    rw [HE.out, HR.out]
    exact ⟨rfl, HB.out⟩
  case pos =>
    obtain ⟨hd, hg, k, hs⟩ := atE_zero.1 h0
    obtain ⟨L, fb, ms, mf, vc, hD, hS⟩ := id h
    have hk := getL_lt hD hok hs
    have hnum : s.num n = k := by unfold Dk.num; rw [hs]; rfl
    obtain ⟨fk, hfk⟩ : ∃ fk, fb.getD k 0 = fk := ⟨_, rfl⟩
    obtain ⟨vs, vf, vcc, us, hF⟩ := fl_fm hD hk
    rw [hfk] at hF
    have hsl := hF.rs
    obtain ⟨q, hq⟩ : ∃ q, (s.fl k).seen.length = q := ⟨_, rfl⟩
    have hqm : q ≤ 140737488355328 := by have := hsz.m _ (fl_mem hk) (s.fl k).chs.length; rw [List.take_length] at this; rw [← hq]; exact this
    rw [hq] at hsl
    obtain ⟨b0, c0, rfl⟩ := row_slice hsl
    have HE := Lib.hid (show sizeV n s = q ∧ atE n s = 0 by simp [sizeV, h0, hnum, hq])
    have HD := Lib.hid (And.intro hD (And.intro hd (And.intro hg (And.intro hs (And.intro hF hfk)))))
    clear h h0 hok hsz hd hg hs hD hS hk hnum hfk hF hsl hq
    go_enter Try.func25, Try.ntmps25
    go_wp2_with (go_at_call 76
                 refine (at_yes L fb ms mf vc d k fk HD.out.2.2.2.2.2 s n _ HD.out.1 hz HD.out.2.1 HD.out.2.2.1 HD.out.2.2.2.1).mono ?_
                 rintro e w1 ⟨rfl, hb⟩
                 have hx := HD.out.2.2.2.2.1.box.next hb
                 have hxc := hx.cell 0
                 have HB := Lib.hid hb
                 clear hb hx)
    go_ret2
    rw [HE.out.1, HE.out.2]
    exact ⟨rfl, HB.out⟩

def readE (n : ByteArray) (x y : Int) (s : Dk) : Int := if atE n s ≠ 0 then atE n s else if x < 0 ∨ (s.fl (s.num n)).seen.length < x ∨ y < 0 then 3 else 0
def readV (n : ByteArray) (x y : Int) (s : Dk) : List UInt8 := if readE n x y s ≠ 0 then [] else ((s.fl (s.num n)).seen.drop x.toNat).take y.toNat
set_option maxRecDepth 100000 in
set_option maxHeartbeats 8000000 in
theorem read_any (S : Nat → Prop) (d N : Nat) (s : Dk) (n : ByteArray) (x y : Int) (w : World) (h : Disk w S d s) (hok : s.Ok) (hsz : s.Sz N 140737488355328) (hz : n.size ≤ maxLen) :
    Calls Try.prog 97 #[.pointer (some ⟨d, 0, none⟩), .string n, .int .i64 x, .int .i64 y] w fun e w' => ∃ b cap, e = .returned (.tuple #[.slice b (readV n x y s).length cap, .int .i64 (readE n x y s)]) ∧ w'.ownsRow w.heap.size 5 1 (.slice b (readV n x y s).length cap) (readV n x y s).length (bv (readV n x y s)) ∧ Below w.heap.size w w' := by
  by_cases h0 : atE n s = 0
  case neg =>
    have HE := Lib.hid (show readE n x y s = atE n s ∧ readV n x y s = [] by simp [readV, readE, h0])
    have H := Lib.hid h
    obtain ⟨er, her⟩ : ∃ er, atE n s = er := ⟨_, rfl⟩
    have HR := Lib.hid her
    rw [her] at h0
    have hnb : (er != 0) = true := by rw [bne_iff_ne]; exact h0
    clear h her hok hsz
    go_enter Try.func97, Try.ntmps97
    go_wp2_with (go_at_call 76
                 refine (at_no S d s n _ H.out hz er HR.out h0).mono ?_
                 rintro e w1 ⟨rfl, hb⟩
                 have HB := Lib.hid hb
                 clear hb)
    go_ret2
    rw [HE.out.1, HE.out.2, HR.out]
    exact ⟨none, 0, rfl, nil_own _ _ _ _, HB.out⟩
  case pos =>
    obtain ⟨hd, hg, k, hs⟩ := atE_zero.1 h0
    obtain ⟨L, fb, ms, mf, vc, hD, hS⟩ := id h
    have hk := getL_lt hD hok hs
    have hnum : s.num n = k := by unfold Dk.num; rw [hs]; rfl
    obtain ⟨fk, hfk⟩ : ∃ fk, fb.getD k 0 = fk := ⟨_, rfl⟩
    obtain ⟨vs, vf, vcc, us, hF⟩ := fl_fm hD hk
    rw [hfk] at hF
    have hsl := hF.rs
    obtain ⟨q, hq⟩ : ∃ q, (s.fl k).seen.length = q := ⟨_, rfl⟩
    have hqm : q ≤ 140737488355328 := by have := hsz.m _ (fl_mem hk) (s.fl k).chs.length; rw [List.take_length] at this; rw [← hq]; exact this
    rw [hq] at hsl
    obtain ⟨b0, c0, rfl⟩ := row_slice hsl
    have hcp := row_cap hsl
    have HE := Lib.hid (show readE n x y s = (if x < 0 ∨ (q : Int) < x ∨ y < 0 then 3 else 0) by simp [readE, h0, hnum, hq])
    have HV := Lib.hid (show ¬ (x < 0 ∨ (q : Int) < x ∨ y < 0) → readV n x y s = ((s.fl k).seen.drop x.toNat).take y.toNat by intro hh; simp [readV, readE, h0, hnum, hq, hh])
    have HV0 := Lib.hid (show (x < 0 ∨ (q : Int) < x ∨ y < 0) → readV n x y s = [] by intro hh; simp [readV, readE, h0, hnum, hq, hh])
    have HD := Lib.hid (And.intro hD (And.intro hd (And.intro hg (And.intro hs (And.intro hF (And.intro hfk hq))))))
    have HRD := Lib.hid (And.intro (row_rd hsl) (And.intro hcp hq))
    clear h h0 hok hsz hd hg hs hD hS hk hnum hfk hF hsl hq
    go_enter Try.func97, Try.ntmps97
    go_upto_region 4 with (first
      | (go_at_call 76
         refine (at_yes L fb ms mf vc d k fk HD.out.2.2.2.2.2.1 s n _ HD.out.1 hz HD.out.2.1 HD.out.2.2.1 HD.out.2.2.2.1).mono ?_
         rintro e w1 ⟨rfl, hb⟩
         have hx := HD.out.2.2.2.2.1.box.next hb
         have hxc := hx.cell 0
         have HB := Lib.hid (And.intro hb (HRD.out.1.next hb))
         clear hb hx))
    by_cases hbad : x < 0 ∨ (q : Int) < x ∨ y < 0
    · have HE2 := Lib.hid (show readE n x y s = 3 ∧ readV n x y s = [] from ⟨by rw [HE.out, if_pos hbad], HV0.out hbad⟩)
      rcases (show x < 0 ∨ (¬ x < 0 ∧ (q : Int) < x) ∨ (¬ x < 0 ∧ ¬ (q : Int) < x ∧ y < 0) by omega) with h1 | ⟨h1, h2⟩ | ⟨h1, h2, h3⟩
      all_goals
        clear hbad
        go_wp2
        go_ret2
        rw [HE2.out.1, HE2.out.2]
        exact ⟨none, 0, rfl, nil_own _ _ _ _, HB.out.1⟩
    · have HE2 := Lib.hid (show readE n x y s = 0 ∧ readV n x y s = ((s.fl k).seen.drop x.toNat).take y.toNat from ⟨by rw [HE.out, if_neg hbad], HV.out hbad⟩)
      have h1 : ¬ x < 0 := fun h => hbad (.inl h)
      have h2 : ¬ (q : Int) < x := fun h => hbad (.inr (.inl h))
      have h3 : ¬ y < 0 := fun h => hbad (.inr (.inr h))
      clear hbad
      obtain ⟨xn, rfl⟩ : ∃ xn : Nat, x = xn := ⟨x.toNat, by omega⟩
      obtain ⟨yn, rfl⟩ : ∃ yn : Nat, y = yn := ⟨y.toNat, by omega⟩
      have hxq : xn ≤ q := by omega
      obtain ⟨m, hm⟩ : ∃ m, min yn (q - xn) = m := ⟨_, rfl⟩
      have hmi : ∀ (i : Decidable ((q : Int) - xn < (yn : Int))), @ite Int ((q : Int) - xn < (yn : Int)) i ((q : Int) - xn) (yn : Int) = m := by intro i; split <;> omega
      have HM := Lib.hid (And.intro hm hmi)
      have hmq : xn + m ≤ q := by omega
      have hmc : xn + m ≤ c0 := by have := HRD.out.2.1; omega
      have hrun := fun W (h : Int) (hh : h = xn + m) => run_part2 W b0 q c0 xn m xn h rfl hh hmc
      have HRR := Lib.hid hrun
      have hlen := Lib.hid (show (((s.fl k).seen.drop xn).take yn).length = m by rw [List.length_take, List.length_drop, HRD.out.2.2]; exact hm)
      have e1 : IntKind.i64.wrap ((q : Int) - xn) = (q : Int) - xn := IntWalk.i64_in _ (by omega)
      have e2 : IntKind.i64.wrap ((xn : Int) + m) = (xn : Int) + m := IntWalk.i64_in _ (by omega)
      have hrr := fun W => hrun W ((xn : Int) + m) rfl
      clear hm hrun
      go_wp2
      go_still_tail 18, (by kernel_rfl)
      change wpList _ _ _ _ _ w1.drew
      go_wp2_with (first
        | (go_at_call 45
           refine (clone_any (tailA b0 c0 xn) m (c0 - xn) (((s.fl k).seen.drop xn).take yn) _ (by exact ((HB.out.2.tail_ xn (by rw [HRD.out.2.2]; exact HRD.out.2.1)).take_ yn)) hlen.out (by omega)).mono ?_
           rintro e w2 ⟨bb, cc, rfl, hro, hb2⟩
           have H2 := Lib.hid (And.intro hro hb2)
           clear hro hb2))
      go_ret2
      rw [HE2.out.1, HE2.out.2]
      refine ⟨bb, cc, by rw [Int.toNat_natCast, Int.toNat_natCast, hlen.out]; rfl, ?_, bel_next HB.out.1 (by exact (below_drew (Below.refl _ _)).trans H2.out.2)⟩
      rw [Int.toNat_natCast, Int.toNat_natCast, hlen.out]
      exact row_le H2.out.1 HB.out.1.size
end Go.Proofs.Ytebeefkibbbkdaa
