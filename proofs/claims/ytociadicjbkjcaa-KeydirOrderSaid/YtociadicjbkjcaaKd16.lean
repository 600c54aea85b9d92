import Derived.Test.YtociadicjbkjcaaKd15
import Derived.Deep.QuietTactic
import Derived.BigQuiet
namespace Go.Proofs.Ytociadicjbkjcaa
open Go.RowKit Go.Maps

set_option maxRecDepth 100000 in
set_option maxHeartbeats 4000000 in
theorem sameItems_eq (A B : Option Addr) (n c d : Nat) (l : List KE) (w : World) (hA : Rd w w.heap.size A (l.flatMap keC)) (hB : Rd w w.heap.size B (l.flatMap keC)) (hn : l.length = n) (hmx : n ≤ 140737488351232) :
    Calls Try.prog 15 #[.slice A n c, .slice B n d] w fun e w' => e = .returned (.bool true) ∧ Below w.heap.size w w' := by
  have Hn := Lib.hid hn
  clear hn
  go_enter Try.func15, Try.ntmps15
  go_wp2
  go_loopw [5] (fun i wr => ∃ (k : Nat), k ≤ n ∧ i = .int .i64 k ∧ Below w.heap.size w wr) (fun i _ => n - (intOf i).toNat)
  case atStart => exact ⟨0, Nat.zero_le _, rfl, Below.refl _ _⟩
  case round =>
    obtain ⟨k, hk, rfl, hbl⟩ := hrel
    by_cases hlt : k < n
    · have hk0 : (0 : Int) ≤ k := by omega
      have hk1 : (k : Int) < n := by omega
      have hkl : k < l.length := by rw [Hn.out]; exact hlt
      obtain ⟨ad, rfl, had, a0, a1, a2, a3, a4, a5, a6⟩ := (hA.below hbl).ke hkl
      obtain ⟨ad', rfl, had', b0, b1, b2, b3, b4, b5, b6⟩ := (hB.below hbl).ke hkl
      have H := Lib.hid hbl
      clear hbl
      generalize l[k] = x at a0 a1 a2 a3 a4 a5 a6 b0 b1 b2 b3 b4 b5 b6
      go_wp2
      go_quiet (fail)
      go_wp2
      go_roundw
      case rel => exact ⟨k + 1, by omega, by go_num, below_drewN H.out _⟩
      case measure => simp [intOf]; omega
    · have H := Lib.hid hbl
      clear hbl
      go_wp2
      go_ret
      exact ⟨rfl, H.out⟩

def bstep (xs : List KE) (it : KE) : List KE := if goodB it.1 = true then putL it.1 it.2 xs else xs
def build (l : List KE) : List KE := l.foldl bstep []
theorem build_snoc (l : List KE) (k : Nat) (h : k < l.length) : build (l.take (k + 1)) = bstep (build (l.take k)) l[k] := by
  unfold build
  rw [List.take_add_one, List.getElem?_eq_getElem h, Option.toList_some, List.foldl_append]; rfl
theorem bstep_len (xs : List KE) (it : KE) : (bstep xs it).length ≤ xs.length + 1 := by
  unfold bstep
  split
  · exact put_len _ _ _
  · omega
theorem build_len (l : List KE) : ∀ k, k ≤ l.length → (build (l.take k)).length ≤ k := by
  intro k
  induction k with
  | zero => intro _; simp [build]
  | succ k ih =>
    intro h
    rw [build_snoc l k (by omega)]
    have := bstep_len (build (l.take k)) (l[k]'(by omega))
    have := ih (by omega)
    omega

theorem dch_below {w wr Wb w2 : World} {d : Nat} (h : Below w.heap.size w wr) (hb : Below wr.heap.size wr Wb) (hc : Dch d Wb w2) (hd : w.heap.size ≤ d) : Below w.heap.size w w2 :=
  (h.trans (hb.mono h.size)).trans (Chg.below hc (Nat.le_trans h.size hb.size) fun k hk => by omega)
theorem bel3 {w wr Wb w2 : World} (h : Below w.heap.size w wr) (hb : Below wr.heap.size wr Wb) (hb3 : Below Wb.heap.size Wb w2) : Below w.heap.size w w2 :=
  (h.trans (hb.mono h.size)).trans (hb3.mono (Nat.le_trans h.size hb.size))
theorem DR.six {w : World} {d r : Nat} {xs : List KE} {ar : Array Value} (h : DR w d xs) (hr : Box w r 26 ar) (hne : d ≠ r) (b0 b1 b2 b3 b4 b5 : Value) :
    DR ((((((w.setCell ⟨r, 0, none⟩ b0).setCell ⟨r, 1, none⟩ b1).setCell ⟨r, 2, none⟩ b2).setCell ⟨r, 3, none⟩ b3).setCell ⟨r, 4, none⟩ b4).setCell ⟨r, 5, none⟩ b5) d xs :=
  h.chg (S := fun k => k = r) ((((((((Chg.refl (fun k => k = r) w).setCell (p := ⟨r, 0, none⟩) (.inl rfl) _).setCell (p := ⟨r, 1, none⟩) (.inl rfl) _).setCell (p := ⟨r, 2, none⟩) (.inl rfl) _).setCell (p := ⟨r, 3, none⟩) (.inl rfl) _).setCell (p := ⟨r, 4, none⟩) (.inl rfl) _).setCell (p := ⟨r, 5, none⟩) (.inl rfl) _))
    (fun k hk cs => by subst hk; exact box_not hr (by decide) cs) hne
theorem cell_six {w : World} {r : Nat} {a : Addr} (h : a.block ≠ r) (b0 b1 b2 b3 b4 b5 : Value) :
    ((((((w.setCell ⟨r, 0, none⟩ b0).setCell ⟨r, 1, none⟩ b1).setCell ⟨r, 2, none⟩ b2).setCell ⟨r, 3, none⟩ b3).setCell ⟨r, 4, none⟩ b4).setCell ⟨r, 5, none⟩ b5).cell? a = w.cell? a := by
  have hk : ∀ (W : World) (i : Nat) (u : Value), (W.setCell ⟨r, i, none⟩ u).heap[a.block]? = W.heap[a.block]? := fun W i u => Below.heap_setCell W _ u a.block h
  unfold World.cell?
  rw [hk, hk, hk, hk, hk, hk]
theorem below_six {w0 w : World} {r B : Nat} (h : Below B w0 w) (hr : B ≤ r) (b0 b1 b2 b3 b4 b5 : Value) :
    Below B w0 ((((((w.setCell ⟨r, 0, none⟩ b0).setCell ⟨r, 1, none⟩ b1).setCell ⟨r, 2, none⟩ b2).setCell ⟨r, 3, none⟩ b3).setCell ⟨r, 4, none⟩ b4).setCell ⟨r, 5, none⟩ b5) :=
  (((((h.setCell (p := ⟨r, 0, none⟩) hr _).setCell (p := ⟨r, 1, none⟩) hr _).setCell (p := ⟨r, 2, none⟩) hr _).setCell (p := ⟨r, 3, none⟩) hr _).setCell (p := ⟨r, 4, none⟩) hr _).setCell (p := ⟨r, 5, none⟩) hr _
theorem good_is {key : ByteArray} {b : Bool} {w : World} (h : goodB key = b) (hz : key.size ≤ maxLen) : Calls Try.prog 11 #[.string key] w fun e w' => e = .returned (.bool b) ∧ w = w' := by
  subst h; exact good_any key w hz

set_option maxRecDepth 100000 in
set_option maxHeartbeats 8000000 in
theorem laid_any (A : Option Addr) (n c : Nat) (l : List KE) (w : World) (hA : Rd w w.heap.size A (l.flatMap keC)) (hn : l.length = n) (hmx : n ≤ 700000000000000) (hsz : ∀ x ∈ l, x.1.size ≤ maxLen) :
    Calls Try.prog 18 #[.slice A n c] w fun e w' => e = .returned (.tuple #[.pointer (some ⟨w.heap.size, 0, none⟩), .bool true]) ∧ DR w' w.heap.size (build l) ∧ Below w.heap.size w w' := by
  have Hn := Lib.hid hn
  have Hsz := Lib.hid hsz
  clear hn hsz
  go_enter Try.func18, Try.ntmps18
  go_wp2_with (first
    | (go_at_call 9
       refine (new_any _).mono ?_
       rintro e w1 ⟨rfl, hd1, hb1⟩
       have H1 := Lib.hid (And.intro hd1 hb1)
       clear hd1 hb1))
  go_loopw [5] (fun i wr => ∃ (k : Nat), k ≤ n ∧ i = .int .i64 k ∧ DR wr w.heap.size (build (l.take k)) ∧ Below w.heap.size w wr) (fun i _ => n - (intOf i).toNat)
  case atStart => exact ⟨0, Nat.zero_le _, rfl, H1.out.1, H1.out.2⟩
  case round =>
    clear H1
    obtain ⟨k, hk, rfl, hd, hbl⟩ := hrel
    by_cases hlt : k < n
    · have hk0 : (0 : Int) ≤ k := by omega
      have hk1 : (k : Int) < n := by omega
      have hkl : k < l.length := by rw [Hn.out]; exact hlt
      have hrd : ∀ W, Below w.heap.size w W → Rd W w.heap.size A (l.flatMap keC) := fun W hb => hA.below hb
      have HR := Lib.hid hrd
      obtain ⟨ad, rfl, had, a0, a1, a2, a3, a4, a5, a6⟩ := (hA.below hbl).ke hkl
      have hbs := build_snoc l k hkl
      have hle := build_len l k (by omega)
      have hzk := Hsz.out _ (List.getElem_mem hkl)
      have H := Lib.hid (And.intro hd (And.intro hbl hbs))
      clear hd hbl hbs hrd
      by_cases hg : goodB l[k].1 = true
      · have hgz : 1 ≤ l[k].1.size ∧ l[k].1.size ≤ 64 := by simpa [goodB] using hg
        have HG := Lib.hid hg
        clear hg
        have hbx : bstep (build (l.take k)) l[k] = putL l[k].1 l[k].2 (build (l.take k)) := by unfold bstep; rw [if_pos HG.out]
        have HBX := Lib.hid hbx
        clear hbx
        generalize hxx : l[k] = x at a0 a1 a2 a3 a4 a5 a6 hgz HBX HG hzk H
        have HXX := Lib.hid hxx
        clear hxx
        go_wp2
        go_region_held3 (fun w' => w'.cell? (ad.add (k * 7)) = some (.string x.1) ∧ w'.cell? ⟨(ad.add (k * 7)).block, (ad.add (k * 7)).off + 1, none⟩ = some (.int .i64 x.2.seg) ∧ w'.cell? ⟨(ad.add (k * 7)).block, (ad.add (k * 7)).off + 2, none⟩ = some (.int .i64 x.2.at_) ∧ w'.cell? ⟨(ad.add (k * 7)).block, (ad.add (k * 7)).off + 3, none⟩ = some (.int .i64 x.2.size) ∧ w'.cell? ⟨(ad.add (k * 7)).block, (ad.add (k * 7)).off + 4, none⟩ = some (.int .i64 x.2.off) ∧ w'.cell? ⟨(ad.add (k * 7)).block, (ad.add (k * 7)).off + 5, none⟩ = some (.int .i64 x.2.time) ∧ w'.cell? ⟨(ad.add (k * 7)).block, (ad.add (k * 7)).off + 6, none⟩ = some (.bool x.2.tomb)) (first | (with_reducible exact SX.out _ _ _ _ _ _) | go_keep)
          (first
            | (go_at_call 21
               (with_reducible refine (put_ok w.heap.size x.1 x.2 (build (l.take k)) wr.drew ?_ ?_ ?_).mono ?_)
               · exact H.out.1.next (Below.refl _ wr).drew
               · exact hgz
               · omega
               rintro e w2 ⟨rfl, hd2, hc2⟩
               have hb2 := dch_below H.out.2.1 (Below.refl _ wr).drew hc2 (Nat.le_refl _)
               unfold putV
               generalize (getL x.1 (build (l.take k))).getD En.zero = o
               generalize (getL x.1 (build (l.take k))).isSome = bo
               have hrk := (HR.out _ hb2).ke hkl
               rw [HXX.out] at hrk
               obtain ⟨ad2, e2, hbk, c0, c1, c2, c3, c4, c5, c6⟩ := hrk
               cases e2
               skip
               have hblk : (ad.add (k * 7)).block < w2.heap.size := by rw [add_block]; have := hb2.size; omega
               have H2 := Lib.hid (And.intro hd2 hb2)
               clear hd2 hb2 hc2 hbk)
            | (go_at_call 21
               (with_reducible refine (put_ok w.heap.size x.1 x.2 (build (l.take k)) (wr.alloc (.cells #[.int .i64 0, .int .i64 0, .int .i64 0, .int .i64 0, .int .i64 0, .bool false] 26)).drew ?_ ?_ ?_).mono ?_)
               · exact H.out.1.next (bal wr (.cells #[.int .i64 0, .int .i64 0, .int .i64 0, .int .i64 0, .int .i64 0, .bool false] 26)).drew
               · exact hgz
               · omega
               rintro e w2 ⟨rfl, hd2, hc2⟩
               have hb2 := dch_below H.out.2.1 (bal wr (.cells #[.int .i64 0, .int .i64 0, .int .i64 0, .int .i64 0, .int .i64 0, .bool false] 26)).drew hc2 (Nat.le_refl _)
               unfold putV
               generalize (getL x.1 (build (l.take k))).getD En.zero = o
               generalize (getL x.1 (build (l.take k))).isSome = bo
               have hzb : Box w2 wr.heap.size 26 #[.int .i64 0, .int .i64 0, .int .i64 0, .int .i64 0, .int .i64 0, .bool false] := (Box.new wr _ _).drew.chg hc2 (by have := H.out.1.lt; omega)
               have hzc := hzb.cell
               have hzf := hzb.free
               have hzl := hzb.lt
               have HZ := Lib.hid hzb
               clear hzb
               have hrk := (HR.out _ hb2).ke hkl
               rw [HXX.out] at hrk
               obtain ⟨ad2, e2, hbk, c0, c1, c2, c3, c4, c5, c6⟩ := hrk
               cases e2
               have hbne : (ad.add (k * 7)).block ≠ wr.heap.size := by rw [add_block]; have := H.out.2.1.size; omega
               have s0 := fun b0 b1 b2 b3 b4 b5 => (cell_six (w := w2) (r := wr.heap.size) (a := (ad.add (k * 7))) hbne b0 b1 b2 b3 b4 b5).trans c0
               have SX := Lib.hid (fun b0 b1 b2 b3 b4 b5 : Value => (⟨s0 b0 b1 b2 b3 b4 b5, (cell_six (w := w2) (r := wr.heap.size) (a := ⟨(ad.add (k * 7)).block, (ad.add (k * 7)).off + 1, none⟩) hbne b0 b1 b2 b3 b4 b5).trans c1, (cell_six (w := w2) (r := wr.heap.size) (a := ⟨(ad.add (k * 7)).block, (ad.add (k * 7)).off + 2, none⟩) hbne b0 b1 b2 b3 b4 b5).trans c2, (cell_six (w := w2) (r := wr.heap.size) (a := ⟨(ad.add (k * 7)).block, (ad.add (k * 7)).off + 3, none⟩) hbne b0 b1 b2 b3 b4 b5).trans c3, (cell_six (w := w2) (r := wr.heap.size) (a := ⟨(ad.add (k * 7)).block, (ad.add (k * 7)).off + 4, none⟩) hbne b0 b1 b2 b3 b4 b5).trans c4, (cell_six (w := w2) (r := wr.heap.size) (a := ⟨(ad.add (k * 7)).block, (ad.add (k * 7)).off + 5, none⟩) hbne b0 b1 b2 b3 b4 b5).trans c5, (cell_six (w := w2) (r := wr.heap.size) (a := ⟨(ad.add (k * 7)).block, (ad.add (k * 7)).off + 6, none⟩) hbne b0 b1 b2 b3 b4 b5).trans c6⟩ : _ ∧ _ ∧ _ ∧ _ ∧ _ ∧ _ ∧ _))
               have hblk : (ad.add (k * 7)).block < w2.heap.size := by rw [add_block]; have := hb2.size; omega
               have H2 := Lib.hid (And.intro hd2 hb2)
               clear hd2 hb2 hc2 hbk))
        · go_wp2_with (first
            | (go_at_call 11
               refine (good_is HG.out hzk).mono ?_
               rintro e w3 ⟨rfl, rfl⟩))
          go_roundw
          case rel =>
            refine ⟨k + 1, by omega, by go_num, ?_, ?_⟩
            · rw [H.out.2.2, HBX.out]
              exact H2.out.1.next (bal _ _)
            · exact H2.out.2.alloc H2.out.2.size _
          case measure => simp [intOf]; omega
        · go_wp2_with (first
            | (go_at_call 11
               refine (good_is HG.out hzk).mono ?_
               rintro e w3 ⟨rfl, rfl⟩))
          go_roundw
          case rel =>
            refine ⟨k + 1, by omega, by go_num, ?_, ?_⟩
            · rw [H.out.2.2, HBX.out]
              exact H2.out.1.six HZ.out (by have := H.out.1.lt; omega) _ _ _ _ _ _
            · exact below_six H2.out.2 H.out.2.1.size _ _ _ _ _ _
          case measure => simp [intOf]; omega
      · have hgf : goodB l[k].1 = false := by simpa using hg
        have hgz : ¬ (1 ≤ l[k].1.size ∧ l[k].1.size ≤ 64) := by simpa [goodB] using hg
        have HG := Lib.hid hgf
        clear hg hgf
        have hbx : bstep (build (l.take k)) l[k] = build (l.take k) := by unfold bstep; rw [if_neg (by rw [HG.out]; simp)]
        have HBX := Lib.hid hbx
        clear hbx hle
        generalize hxx : l[k] = x at a0 a1 a2 a3 a4 a5 a6 hgz HBX HG hzk H
        have HXX := Lib.hid hxx
        clear hxx
        go_wp2
        go_region_held3 (fun w' => w'.cell? (ad.add (k * 7)) = some (.string x.1) ∧ w'.cell? ⟨(ad.add (k * 7)).block, (ad.add (k * 7)).off + 1, none⟩ = some (.int .i64 x.2.seg) ∧ w'.cell? ⟨(ad.add (k * 7)).block, (ad.add (k * 7)).off + 2, none⟩ = some (.int .i64 x.2.at_) ∧ w'.cell? ⟨(ad.add (k * 7)).block, (ad.add (k * 7)).off + 3, none⟩ = some (.int .i64 x.2.size) ∧ w'.cell? ⟨(ad.add (k * 7)).block, (ad.add (k * 7)).off + 4, none⟩ = some (.int .i64 x.2.off) ∧ w'.cell? ⟨(ad.add (k * 7)).block, (ad.add (k * 7)).off + 5, none⟩ = some (.int .i64 x.2.time) ∧ w'.cell? ⟨(ad.add (k * 7)).block, (ad.add (k * 7)).off + 6, none⟩ = some (.bool x.2.tomb)) (first | (with_reducible exact SX.out _ _ _ _ _ _) | go_keep)
          (first
            | (go_at_call 21
               (with_reducible refine (put_bad w.heap.size x.1 x.2 wr.drew ?_ ?_).mono ?_)
               · exact hgz
               · exact hzk
               rintro e w2 ⟨rfl, hb3⟩
               have hb2 := bel3 H.out.2.1 (Below.refl _ wr).drew hb3
               have hd2 := (H.out.1.next (Below.refl _ wr).drew).next hb3
               generalize En.zero = o
               have hrk := (HR.out _ hb2).ke hkl
               rw [HXX.out] at hrk
               obtain ⟨ad2, e2, hbk, c0, c1, c2, c3, c4, c5, c6⟩ := hrk
               cases e2
               skip
               have hblk : (ad.add (k * 7)).block < w2.heap.size := by rw [add_block]; have := hb2.size; omega
               have H2 := Lib.hid (And.intro hd2 hb2)
               clear hd2 hb2 hb3 hbk)
            | (go_at_call 21
               (with_reducible refine (put_bad w.heap.size x.1 x.2 (wr.alloc (.cells #[.int .i64 0, .int .i64 0, .int .i64 0, .int .i64 0, .int .i64 0, .bool false] 26)).drew ?_ ?_).mono ?_)
               · exact hgz
               · exact hzk
               rintro e w2 ⟨rfl, hb3⟩
               have hb2 := bel3 H.out.2.1 (bal wr (.cells #[.int .i64 0, .int .i64 0, .int .i64 0, .int .i64 0, .int .i64 0, .bool false] 26)).drew hb3
               have hd2 := (H.out.1.next (bal wr (.cells #[.int .i64 0, .int .i64 0, .int .i64 0, .int .i64 0, .int .i64 0, .bool false] 26)).drew).next hb3
               generalize En.zero = o
               have hzb : Box w2 wr.heap.size 26 #[.int .i64 0, .int .i64 0, .int .i64 0, .int .i64 0, .int .i64 0, .bool false] := (Box.new wr _ _).drew.below hb3 (by simp)
               have hzc := hzb.cell
               have hzf := hzb.free
               have hzl := hzb.lt
               have HZ := Lib.hid hzb
               clear hzb
               have hrk := (HR.out _ hb2).ke hkl
               rw [HXX.out] at hrk
               obtain ⟨ad2, e2, hbk, c0, c1, c2, c3, c4, c5, c6⟩ := hrk
               cases e2
               have hbne : (ad.add (k * 7)).block ≠ wr.heap.size := by rw [add_block]; have := H.out.2.1.size; omega
               have s0 := fun b0 b1 b2 b3 b4 b5 => (cell_six (w := w2) (r := wr.heap.size) (a := (ad.add (k * 7))) hbne b0 b1 b2 b3 b4 b5).trans c0
               have SX := Lib.hid (fun b0 b1 b2 b3 b4 b5 : Value => (⟨s0 b0 b1 b2 b3 b4 b5, (cell_six (w := w2) (r := wr.heap.size) (a := ⟨(ad.add (k * 7)).block, (ad.add (k * 7)).off + 1, none⟩) hbne b0 b1 b2 b3 b4 b5).trans c1, (cell_six (w := w2) (r := wr.heap.size) (a := ⟨(ad.add (k * 7)).block, (ad.add (k * 7)).off + 2, none⟩) hbne b0 b1 b2 b3 b4 b5).trans c2, (cell_six (w := w2) (r := wr.heap.size) (a := ⟨(ad.add (k * 7)).block, (ad.add (k * 7)).off + 3, none⟩) hbne b0 b1 b2 b3 b4 b5).trans c3, (cell_six (w := w2) (r := wr.heap.size) (a := ⟨(ad.add (k * 7)).block, (ad.add (k * 7)).off + 4, none⟩) hbne b0 b1 b2 b3 b4 b5).trans c4, (cell_six (w := w2) (r := wr.heap.size) (a := ⟨(ad.add (k * 7)).block, (ad.add (k * 7)).off + 5, none⟩) hbne b0 b1 b2 b3 b4 b5).trans c5, (cell_six (w := w2) (r := wr.heap.size) (a := ⟨(ad.add (k * 7)).block, (ad.add (k * 7)).off + 6, none⟩) hbne b0 b1 b2 b3 b4 b5).trans c6⟩ : _ ∧ _ ∧ _ ∧ _ ∧ _ ∧ _ ∧ _))
               have hblk : (ad.add (k * 7)).block < w2.heap.size := by rw [add_block]; have := hb2.size; omega
               have H2 := Lib.hid (And.intro hd2 hb2)
               clear hd2 hb2 hb3 hbk))
        · go_wp2_with (first
            | (go_at_call 11
               refine (good_is HG.out hzk).mono ?_
               rintro e w3 ⟨rfl, rfl⟩))
          go_roundw
          case rel =>
            refine ⟨k + 1, by omega, by go_num, ?_, ?_⟩
            · rw [H.out.2.2, HBX.out]
              exact H2.out.1.next (bal _ _)
            · exact H2.out.2.alloc H2.out.2.size _
          case measure => simp [intOf]; omega
        · go_wp2_with (first
            | (go_at_call 11
               refine (good_is HG.out hzk).mono ?_
               rintro e w3 ⟨rfl, rfl⟩))
          go_roundw
          case rel =>
            refine ⟨k + 1, by omega, by go_num, ?_, ?_⟩
            · rw [H.out.2.2, HBX.out]
              exact H2.out.1.six HZ.out (by have := H.out.1.lt; omega) _ _ _ _ _ _
            · exact below_six H2.out.2 H.out.2.1.size _ _ _ _ _ _
          case measure => simp [intOf]; omega
    · obtain rfl : k = n := by omega
      have htk : l.take k = l := List.take_of_length_le (by have := Hn.out; omega)
      rw [htk] at hd
      have H := Lib.hid (And.intro hd hbl)
      clear hd hbl htk
      go_wp2
      go_ret2
      exact ⟨rfl, H.out⟩
end Go.Proofs.Ytociadicjbkjcaa
