import Derived.Test.YtglmhpmjebjcgaaKe
import Derived.Deep.QuietTactic
import Derived.BigQuiet
import Derived.Deep.DeepCutAuto
namespace Go.Proofs.Ytglmhpmjebjcgaa
open Go.RowKit Go.Maps

set_option maxRecDepth 100000 in
set_option maxHeartbeats 8000000 in
theorem point_yes (d : Nat) (key : ByteArray) (off seg at_ : Int) (xs : List KE) (w : World) (h : DR w d xs) (hz : key.size ≤ maxLen) (hc : xs.length ≤ 800000000000000) (o : En) (hg : getL key xs = some o) (ho : o.off = off) :
    Calls Try.prog 15 #[.pointer (some ⟨d, 0, none⟩), .string key, .int .i64 off, .int .i64 seg, .int .i64 at_] w fun e w' => e = .returned (.bool true) ∧ DR w' d (putL key ⟨seg, at_, o.size, o.off, o.time, o.tomb⟩ xs) ∧ Dch d w w' := by
  obtain ⟨t, p, h1, h2, rfl, h4, h5⟩ := h
  have H := Lib.hid (And.intro h1 (And.intro h2 (And.intro h4 h5)))
  have HG := Lib.hid (show entV (getL key t.flat) = .tuple #[o.v, .bool true] by rw [hg]; rfl)
  have hkz := h5 _ ((get_mem h4).1 hg)
  have hcn : t.cnt ≤ 800000000000000 := hc
  subst ho
  clear hc hg
  clear h1 h2 h4 h5
  go_enter Try.func15, Try.ntmps15
  go_wp2_with (first
    | (go_at_call 17
       refine (get_any d key t.flat _ ⟨t, p, H.out.1, H.out.2.1, rfl, H.out.2.2.1, H.out.2.2.2⟩ hz).mono ?_
       rintro e w1 ⟨rfl, hb1⟩
       rw [HG.out]
       have hq3 := H.out.1.below hb1 H.out.1.lt
       have hc3 := hq3.cell
       have hf3 := hq3.free
       have hl3 := hq3.lt
       have H1 := Lib.hid (And.intro hb1 (And.intro hq3 (H.out.2.1.below hb1)))
       clear hb1 hq3))
  go_region_with (first
    | (go_at_call 41
       (with_reducible refine (with_any key ⟨seg, at_, o.size, o.off, o.time, o.tomb⟩ hkz t p _ ?_ ?_ ?_ ?_).mono ?_)
       · exact H1.out.2.2.below (bal w1 _).drew
       · exact H.out.2.2.1
       · exact H.out.2.2.2
       · exact hcn
       rintro e w2 ⟨t2, p2, rfl, f2, g2, b2⟩
       have b12 : Below w1.heap.size w1 w2 := ((bal w1 (.cells #[.int .i64 seg, .int .i64 at_, .int .i64 o.size, .int .i64 o.off, .int .i64 o.time, .bool o.tomb] 38)).drew).trans (b2.mono (by simp))
       have hq3 := H1.out.2.1.below b12 hl3
       have hc33 := hq3.cell
       have hf33 := hq3.free
       have hl33 := hq3.lt
       have H2 := Lib.hid (And.intro f2 (And.intro g2 (And.intro (H1.out.1.trans (b12.mono H1.out.1.size)) hq3)))
       clear f2 g2 b2 b12 hq3))
  all_goals
    go_wp2
    go_ret
    exact ⟨rfl, DR.root H2.out.2.2.2 H2.out.2.1 H2.out.1 (H.out.2.2.1.put _ _) (H.out.2.2.2.put hkz), (Chg.of_below H2.out.2.2.1 (fun k => k = d)).setCell (p := ⟨d, 0, none⟩) (.inl rfl) _⟩

set_option maxRecDepth 100000 in
set_option maxHeartbeats 8000000 in
theorem point_none (d : Nat) (key : ByteArray) (off seg at_ : Int) (xs : List KE) (w : World) (h : DR w d xs) (hz : key.size ≤ maxLen) (hg : getL key xs = none) :
    Calls Try.prog 15 #[.pointer (some ⟨d, 0, none⟩), .string key, .int .i64 off, .int .i64 seg, .int .i64 at_] w fun e w' => e = .returned (.bool false) ∧ Below w.heap.size w w' := by
  obtain ⟨t, p, h1, h2, rfl, h4, h5⟩ := h
  have H := Lib.hid (And.intro h1 (And.intro h2 (And.intro h4 h5)))
  have HG := Lib.hid (show entV (getL key t.flat) = .tuple #[En.zero.v, .bool false] by rw [hg]; rfl)
  clear hg
  generalize En.zero = o at HG
  clear h1 h2 h4 h5
  go_enter Try.func15, Try.ntmps15
  go_wp2_with (first
    | (go_at_call 17
       refine (get_any d key t.flat _ ⟨t, p, H.out.1, H.out.2.1, rfl, H.out.2.2.1, H.out.2.2.2⟩ hz).mono ?_
       rintro e w1 ⟨rfl, hb1⟩
       rw [HG.out]
       have hq3 := H.out.1.below hb1 H.out.1.lt
       have hc3 := hq3.cell
       have hf3 := hq3.free
       have hl3 := hq3.lt
       have H1 := Lib.hid (And.intro hb1 (And.intro hq3 (H.out.2.1.below hb1)))
       clear hb1 hq3))
  go_ret
  exact ⟨rfl, H1.out.1.alloc H1.out.1.size _⟩

set_option maxRecDepth 100000 in
set_option maxHeartbeats 8000000 in
theorem point_other (d : Nat) (key : ByteArray) (off seg at_ : Int) (xs : List KE) (w : World) (h : DR w d xs) (hz : key.size ≤ maxLen) (o : En) (hg : getL key xs = some o) (ho : ¬ o.off = off) :
    Calls Try.prog 15 #[.pointer (some ⟨d, 0, none⟩), .string key, .int .i64 off, .int .i64 seg, .int .i64 at_] w fun e w' => e = .returned (.bool false) ∧ Below w.heap.size w w' := by
  obtain ⟨t, p, h1, h2, rfl, h4, h5⟩ := h
  have H := Lib.hid (And.intro h1 (And.intro h2 (And.intro h4 h5)))
  have HG := Lib.hid (show entV (getL key t.flat) = .tuple #[o.v, .bool true] by rw [hg]; rfl)
  have hne : (o.off != off) = true := by simpa using ho
  clear hg
  clear h1 h2 h4 h5
  go_enter Try.func15, Try.ntmps15
  go_wp2_with (first
    | (go_at_call 17
       refine (get_any d key t.flat _ ⟨t, p, H.out.1, H.out.2.1, rfl, H.out.2.2.1, H.out.2.2.2⟩ hz).mono ?_
       rintro e w1 ⟨rfl, hb1⟩
       rw [HG.out]
       have hq3 := H.out.1.below hb1 H.out.1.lt
       have hc3 := hq3.cell
       have hf3 := hq3.free
       have hl3 := hq3.lt
       have H1 := Lib.hid (And.intro hb1 (And.intro hq3 (H.out.2.1.below hb1)))
       clear hb1 hq3))
  go_ret
  exact ⟨rfl, H1.out.1.alloc H1.out.1.size _⟩

def goodB (k : ByteArray) : Bool := decide (1 ≤ k.size ∧ k.size ≤ 64)
/-- Row of KeyEntries: the k-th. -/
theorem ke_get (l : List KE) (i : Nat) (hi : i < l.length) : ∀ j (u : Value), (keC l[i])[j]? = some u → (l.flatMap keC)[i * 7 + j]? = some u := by
  induction l generalizing i with
  | nil => simp at hi
  | cons p l ih =>
    intro j u hj
    cases i with
    | zero =>
      have hl := (List.getElem?_eq_some_iff.1 hj).1
      simp only [List.flatMap_cons, List.getElem_cons_zero, Nat.zero_mul, Nat.zero_add] at hj hl ⊢
      rw [List.getElem?_append_left hl]; exact hj
    | succ i =>
      simp only [List.flatMap_cons, List.getElem_cons_succ] at hj ⊢
      have hl : (keC p).length = 7 := rfl
      rw [List.getElem?_append_right (by omega), hl, show (i + 1) * 7 + j - 7 = i * 7 + j by omega]
      exact ih i (by simpa using hi) j u hj
/-- The cells of the i-th item of a row that reads as l. -/
theorem Rd.ke {w : World} {B : Nat} {A : Option Addr} {l : List KE} (h : Rd w B A (l.flatMap keC)) {i : Nat} (hi : i < l.length) : ∃ ad : Addr, A = some ad ∧ ad.block < B ∧ w.cell? (ad.add (i * 7)) = some (.string l[i].1) ∧
    w.cell? ⟨(ad.add (i * 7)).block, (ad.add (i * 7)).off + 1, none⟩ = some (.int .i64 l[i].2.seg) ∧ w.cell? ⟨(ad.add (i * 7)).block, (ad.add (i * 7)).off + 2, none⟩ = some (.int .i64 l[i].2.at_) ∧ w.cell? ⟨(ad.add (i * 7)).block, (ad.add (i * 7)).off + 3, none⟩ = some (.int .i64 l[i].2.size) ∧
    w.cell? ⟨(ad.add (i * 7)).block, (ad.add (i * 7)).off + 4, none⟩ = some (.int .i64 l[i].2.off) ∧ w.cell? ⟨(ad.add (i * 7)).block, (ad.add (i * 7)).off + 5, none⟩ = some (.int .i64 l[i].2.time) ∧ w.cell? ⟨(ad.add (i * 7)).block, (ad.add (i * 7)).off + 6, none⟩ = some (.bool l[i].2.tomb) := by
  have g := ke_get l i hi
  obtain ⟨ad, rfl, hb, c0⟩ := h _ _ (g 0 _ rfl)
  refine ⟨ad, rfl, hb, c0, ?_, ?_, ?_, ?_, ?_, ?_⟩
  · obtain ⟨a', e, _, c⟩ := h _ _ (g 1 _ rfl); cases e; rw [← add_add'] at c; exact c
  · obtain ⟨a', e, _, c⟩ := h _ _ (g 2 _ rfl); cases e; rw [← add_add'] at c; exact c
  · obtain ⟨a', e, _, c⟩ := h _ _ (g 3 _ rfl); cases e; rw [← add_add'] at c; exact c
  · obtain ⟨a', e, _, c⟩ := h _ _ (g 4 _ rfl); cases e; rw [← add_add'] at c; exact c
  · obtain ⟨a', e, _, c⟩ := h _ _ (g 5 _ rfl); cases e; rw [← add_add'] at c; exact c
  · obtain ⟨a', e, _, c⟩ := h _ _ (g 6 _ rfl); cases e; rw [← add_add'] at c; exact c
end Go.Proofs.Ytglmhpmjebjcgaa
namespace Go.Proofs.Ytglmhpmjebjcgaa
open Go.RowKit Go.Maps

set_option maxRecDepth 100000 in
set_option maxHeartbeats 4000000 in
theorem sameItems_eq (A B : Option Addr) (n c d : Nat) (l : List KE) (w : World) (hA : Rd w w.heap.size A (l.flatMap keC)) (hB : Rd w w.heap.size B (l.flatMap keC)) (hn : l.length = n) (hmx : n ≤ 140737488351232) :
    Calls Try.prog 28 #[.slice A n c, .slice B n d] w fun e w' => e = .returned (.bool true) ∧ Below w.heap.size w w' := by
  have Hn := Lib.hid hn
  clear hn
  go_enter Try.func28, Try.ntmps28
  go_wp2
  go_loopw [5] (fun i wr => ∃ (k : Nat), k ≤ n ∧ i = .int .i64 k ∧ Below w.heap.size w wr) (fun i _ => n - (intOf i).toNat)
  case atStart => exact ⟨0, Nat.zero_le _, rfl, Below.refl _ _⟩
  case round =>
    obtain ⟨k, hk, rfl, hbl⟩ := hrel
    by_cases hlt : k < n
    · have hk0 : (0 : Int) ≤ k := by omega
      have hk1 : (k : Int) < n := by omega
      have hkl : k < l.length := by rw [Hn.out]; exact hlt
      obtain ⟨ad, rfl, had, a0, a1, a2, a3, a4, a5, a6⟩ := (hA.below hbl).ke hkl
      obtain ⟨ad', rfl, had', b0, b1, b2, b3, b4, b5, b6⟩ := (hB.below hbl).ke hkl
      have H := Lib.hid hbl
      clear hbl
      generalize l[k] = x at a0 a1 a2 a3 a4 a5 a6 b0 b1 b2 b3 b4 b5 b6
      go_wp2
      go_quiet (fail)
      go_wp2
      go_roundw
      case rel => exact ⟨k + 1, by omega, by go_num, below_drewN H.out _⟩
      case measure => simp [intOf]; omega
    · have H := Lib.hid hbl
      clear hbl
      go_wp2
      go_ret
      exact ⟨rfl, H.out⟩

def bstep (xs : List KE) (it : KE) : List KE := if goodB it.1 = true then putL it.1 it.2 xs else xs
def build (l : List KE) : List KE := l.foldl bstep []
theorem build_snoc (l : List KE) (k : Nat) (h : k < l.length) : build (l.take (k + 1)) = bstep (build (l.take k)) l[k] := by
  unfold build
  rw [List.take_add_one, List.getElem?_eq_getElem h, Option.toList_some, List.foldl_append]; rfl
theorem bstep_len (xs : List KE) (it : KE) : (bstep xs it).length ≤ xs.length + 1 := by
  unfold bstep
  split
  · exact put_len _ _ _
  · omega
theorem build_len (l : List KE) : ∀ k, k ≤ l.length → (build (l.take k)).length ≤ k := by
  intro k
  induction k with
  | zero => intro _; simp [build]
  | succ k ih =>
    intro h
    rw [build_snoc l k (by omega)]
    have := bstep_len (build (l.take k)) (l[k]'(by omega))
    have := ih (by omega)
    omega

theorem dch_below {w wr Wb w2 : World} {d : Nat} (h : Below w.heap.size w wr) (hb : Below wr.heap.size wr Wb) (hc : Dch d Wb w2) (hd : w.heap.size ≤ d) : Below w.heap.size w w2 :=
  (h.trans (hb.mono h.size)).trans (Chg.below hc (Nat.le_trans h.size hb.size) fun k hk => by omega)
theorem bel3 {w wr Wb w2 : World} (h : Below w.heap.size w wr) (hb : Below wr.heap.size wr Wb) (hb3 : Below Wb.heap.size Wb w2) : Below w.heap.size w w2 :=
  (h.trans (hb.mono h.size)).trans (hb3.mono (Nat.le_trans h.size hb.size))
theorem DR.six {w : World} {d r : Nat} {xs : List KE} {ar : Array Value} (h : DR w d xs) (hr : Box w r 38 ar) (hne : d ≠ r) (b0 b1 b2 b3 b4 b5 : Value) :
    DR ((((((w.setCell ⟨r, 0, none⟩ b0).setCell ⟨r, 1, none⟩ b1).setCell ⟨r, 2, none⟩ b2).setCell ⟨r, 3, none⟩ b3).setCell ⟨r, 4, none⟩ b4).setCell ⟨r, 5, none⟩ b5) d xs :=
  h.chg (S := fun k => k = r) ((((((((Chg.refl (fun k => k = r) w).setCell (p := ⟨r, 0, none⟩) (.inl rfl) _).setCell (p := ⟨r, 1, none⟩) (.inl rfl) _).setCell (p := ⟨r, 2, none⟩) (.inl rfl) _).setCell (p := ⟨r, 3, none⟩) (.inl rfl) _).setCell (p := ⟨r, 4, none⟩) (.inl rfl) _).setCell (p := ⟨r, 5, none⟩) (.inl rfl) _))
    (fun k hk cs => by subst hk; exact box_not hr (by decide) cs) hne
theorem cell_six {w : World} {r : Nat} {a : Addr} (h : a.block ≠ r) (b0 b1 b2 b3 b4 b5 : Value) :
    ((((((w.setCell ⟨r, 0, none⟩ b0).setCell ⟨r, 1, none⟩ b1).setCell ⟨r, 2, none⟩ b2).setCell ⟨r, 3, none⟩ b3).setCell ⟨r, 4, none⟩ b4).setCell ⟨r, 5, none⟩ b5).cell? a = w.cell? a := by
  have hk : ∀ (W : World) (i : Nat) (u : Value), (W.setCell ⟨r, i, none⟩ u).heap[a.block]? = W.heap[a.block]? := fun W i u => Below.heap_setCell W _ u a.block h
  unfold World.cell?
  rw [hk, hk, hk, hk, hk, hk]
theorem below_six {w0 w : World} {r B : Nat} (h : Below B w0 w) (hr : B ≤ r) (b0 b1 b2 b3 b4 b5 : Value) :
    Below B w0 ((((((w.setCell ⟨r, 0, none⟩ b0).setCell ⟨r, 1, none⟩ b1).setCell ⟨r, 2, none⟩ b2).setCell ⟨r, 3, none⟩ b3).setCell ⟨r, 4, none⟩ b4).setCell ⟨r, 5, none⟩ b5) :=
  (((((h.setCell (p := ⟨r, 0, none⟩) hr _).setCell (p := ⟨r, 1, none⟩) hr _).setCell (p := ⟨r, 2, none⟩) hr _).setCell (p := ⟨r, 3, none⟩) hr _).setCell (p := ⟨r, 4, none⟩) hr _).setCell (p := ⟨r, 5, none⟩) hr _
end Go.Proofs.Ytglmhpmjebjcgaa
namespace Go.Proofs.Ytglmhpmjebjcgaa
open Go.RowKit Go.Maps

def keyA : ByteArray := ⟨#[97]⟩
def keyB : ByteArray := ⟨#[98]⟩
def ent1 : En := ⟨0, 0, 0, 1, 0, false⟩
def ent7 : En := ⟨0, 0, 0, 7, 0, false⟩
theorem hd0 : getL keyB [] = none := rfl
theorem hd1 : putL keyB ent1 [] = [(keyB, ent1)] := rfl
theorem hd2 : getL keyB [(keyB, ent1)] = some ent1 := by decide
theorem hd3 : putL keyB ent7 [(keyB, ent1)] = [(keyB, ent7)] := by decide
theorem hd4 : getL keyB [(keyB, ent7)] = some ent7 := by decide
theorem hd5 : getL keyA [(keyB, ent7)] = none := by decide
theorem hd6 : putL keyA En.zero [(keyB, ent7)] = [(keyA, En.zero), (keyB, ent7)] := by decide
theorem hd7 : (sel ⟨#[]⟩ ⟨#[]⟩ [(keyA, En.zero), (keyB, ent7)]).take 9 = [(keyA, En.zero), (keyB, ent7)] := by decide

theorem put1 (d : Nat) (w : World) (h : DR w d []) : Calls Try.prog 11 #[.pointer (some ⟨d, 0, none⟩), .string ⟨#[98]⟩, .agg #[.int .i64 0, .int .i64 0, .int .i64 0, .int .i64 1, .int .i64 0, .bool false]] w fun e w' =>
    e = .returned (.tuple #[.agg #[.int .i64 0, .int .i64 0, .int .i64 0, .int .i64 0, .int .i64 0, .bool false], .bool false, .int .i64 0]) ∧ DR w' d [(keyB, ent1)] ∧ Dch d w w' := put_ok d keyB ent1 [] w h (by decide) (by simp)
theorem put2 (d : Nat) (w : World) (h : DR w d [(keyB, ent1)]) : Calls Try.prog 11 #[.pointer (some ⟨d, 0, none⟩), .string ⟨#[98]⟩, .agg #[.int .i64 0, .int .i64 0, .int .i64 0, .int .i64 7, .int .i64 0, .bool false]] w fun e w' =>
    e = .returned (.tuple #[.agg #[.int .i64 0, .int .i64 0, .int .i64 0, .int .i64 1, .int .i64 0, .bool false], .bool true, .int .i64 0]) ∧ DR w' d [(keyB, ent7)] ∧ Dch d w w' := by
  have := put_ok d keyB ent7 [(keyB, ent1)] w h (by decide) (by simp)
  rwa [hd2, hd3] at this
theorem note1 (d : Nat) (w : World) (h : DR w d [(keyB, ent7)]) : Calls Try.prog 13 #[.pointer (some ⟨d, 0, none⟩), .string ⟨#[98]⟩, .agg #[.int .i64 0, .int .i64 0, .int .i64 0, .int .i64 7, .int .i64 0, .bool false]] w fun e w' =>
    e = .returned (.tuple #[.bool false, .int .i64 0]) ∧ Below w.heap.size w w' := note_less d keyB ent7 _ w h (by decide) ent7 hd4 (by decide)
theorem note2 (d : Nat) (w : World) (h : DR w d [(keyB, ent7)]) : Calls Try.prog 13 #[.pointer (some ⟨d, 0, none⟩), .string ⟨#[97]⟩, .agg #[.int .i64 0, .int .i64 0, .int .i64 0, .int .i64 0, .int .i64 0, .bool false]] w fun e w' =>
    e = .returned (.tuple #[.bool true, .int .i64 0]) ∧ DR w' d [(keyA, En.zero), (keyB, ent7)] ∧ Dch d w w' := by
  have := note_none d keyA En.zero _ w h (by decide) (by simp) hd5
  rwa [hd6] at this
theorem range9 (d : Nat) (w : World) (h : DR w d [(keyA, En.zero), (keyB, ent7)]) : Calls Try.prog 27 #[.pointer (some ⟨d, 0, none⟩), .string ⟨#[]⟩, .string ⟨#[]⟩, .int .i64 9] w (RV [(keyA, En.zero), (keyB, ent7)] w) := by
  have := range_dir d _ ⟨#[]⟩ ⟨#[]⟩ 9 w h (by decide) (by decide) (by simp) (by omega) (by omega)
  rwa [show (9 : Int).toNat = 9 from rfl, hd7] at this

end Go.Proofs.Ytglmhpmjebjcgaa
/- KeydirNone: the law of the program, walked (it takes nothing). -/
namespace Go.Proofs.Ytglmhpmjebjcgaa
open Go.RowKit Go.Maps Go.Shelf

def keyX : ByteArray := ⟨#[97]⟩
def entS : En := ⟨1, 0, 0, 0, 0, false⟩
set_option maxRecDepth 100000 in
set_option maxHeartbeats 4000000 in
theorem put_nild (w : World) : Calls Try.prog 11 #[.pointer none, .string ⟨#[97]⟩, .agg #[.int .i64 1, .int .i64 0, .int .i64 0, .int .i64 0, .int .i64 0, .bool false]] w fun e w' =>
    e = .returned (.tuple #[.agg #[.int .i64 0, .int .i64 0, .int .i64 0, .int .i64 0, .int .i64 0, .bool false], .bool false, .int .i64 1]) ∧ Below w.heap.size w w' := by
  have hb0 : Below w.heap.size w ((w.alloc (.cells #[.int .i64 1, .int .i64 0, .int .i64 0, .int .i64 0, .int .i64 0, .bool false] 38)).alloc (.cells #[.int .i64 0, .int .i64 0, .int .i64 0, .int .i64 0, .int .i64 0, .bool false] 38)) := ((Below.refl _ _).alloc (Nat.le_refl _) _).alloc (by simp) _
  have hX1 := Box.new (w.alloc (.cells #[.int .i64 1, .int .i64 0, .int .i64 0, .int .i64 0, .int .i64 0, .bool false] 38)) 38 #[.int .i64 0, .int .i64 0, .int .i64 0, .int .i64 0, .int .i64 0, .bool false]
  rw [World.size_alloc] at hX1
  have hc := hX1.cell
  have hf := hX1.free
  have HB := Lib.hid hb0
  clear hb0 hX1
  go_enter Try.func11, Try.ntmps11
  go_wp2_with (first
    | (go_at_call 40
       refine (refused_nil ⟨#[97]⟩ _).mono ?_
       rintro e w' ⟨rfl, rfl⟩))
  refine bodyPost_ret (v := .tuple #[En.zero.v, .bool false, .int .i64 1]) ?_ rfl ?_
  · simp [results, Try.results11, go_sem, hc, En.zero]
  refine ⟨rfl, ?_⟩
  repeat (first | with_reducible exact HB.out | refine Below.setCell ?_ (by simp) _)
set_option maxRecDepth 100000 in
theorem note_nil (w : World) : Calls Try.prog 13 #[.pointer none, .string ⟨#[97]⟩, .agg #[.int .i64 1, .int .i64 0, .int .i64 0, .int .i64 0, .int .i64 0, .bool false]] w fun e w' =>
    e = .returned (.tuple #[.bool false, .int .i64 1]) ∧ Below w.heap.size w w' := by
  have HB := Lib.hid (bal w (.cells #[.int .i64 1, .int .i64 0, .int .i64 0, .int .i64 0, .int .i64 0, .bool false] 38))
  go_enter Try.func13, Try.ntmps13
  go_wp2_with (first
    | (go_at_call 40
       refine (refused_nil ⟨#[97]⟩ _).mono ?_
       rintro e w' ⟨rfl, rfl⟩))
  go_ret2
  exact ⟨rfl, HB.out⟩
set_option maxRecDepth 100000 in
theorem freeze_nil (w : World) : Calls Try.prog 35 #[.pointer none] w fun e w' => e = .returned (.pointer none) ∧ w = w' := by
  go_enter Try.func35, Try.ntmps35
  go_wp2
  go_ret
  exact ⟨rfl, rfl⟩
theorem hn0 : getL keyX [] = none := rfl
theorem hn1 : putL keyX entS [] = [(keyX, entS)] := rfl
theorem hn2 : getL keyX [(keyX, entS)] = some entS := by decide
theorem put0 (d : Nat) (w : World) (h : DR w d []) : Calls Try.prog 11 #[.pointer (some ⟨d, 0, none⟩), .string ⟨#[97]⟩, .agg #[.int .i64 1, .int .i64 0, .int .i64 0, .int .i64 0, .int .i64 0, .bool false]] w fun e w' =>
    e = .returned (.tuple #[.agg #[.int .i64 0, .int .i64 0, .int .i64 0, .int .i64 0, .int .i64 0, .bool false], .bool false, .int .i64 0]) ∧ DR w' d [(keyX, entS)] ∧ Dch d w w' := put_ok d keyX entS [] w h (by decide) (by simp)
theorem get0 (d : Nat) (w : World) (h : DR w d [(keyX, entS)]) : Calls Try.prog 17 #[.pointer (some ⟨d, 0, none⟩), .string ⟨#[97]⟩] w fun e w' =>
    e = .returned (.tuple #[.agg #[.int .i64 1, .int .i64 0, .int .i64 0, .int .i64 0, .int .i64 0, .bool false], .bool true]) ∧ Below w.heap.size w w' := by
  have := get_any d keyX [(keyX, entS)] w h (by decide)
  rwa [hn2] at this
theorem DTop.nil (w : World) : DTop w none none := .inl ⟨rfl, rfl⟩
theorem DR.dt {w : World} {d : Nat} (h : DR w d []) : DTop w (some ⟨d, 0, none⟩) none := by
  obtain ⟨t, p, h1, h2, h3, _, _⟩ := h
  cases t with
  | leaf => obtain rfl : p = none := h2
            exact .inr ⟨d, rfl, h1⟩
  | node k e l r => simp [Tn.flat] at h3

end Go.Proofs.Ytglmhpmjebjcgaa
/- Rank and Nth. -/
namespace Go.Proofs.Ytglmhpmjebjcgaa
open Go.RowKit Go.Maps

theorem rank_less {key k0 : ByteArray} {e0 : En} {l r : List KE} (h : Sorted (l ++ (k0, e0) :: r)) (hk : kc k0 key = -1) : (lo key (l ++ (k0, e0) :: r)).length = l.length + 1 + (lo key r).length := by
  have hs := kc_swap k0 key
  rw [(lo_more h (show kc key k0 = 1 by omega)).1]
  simp; omega
theorem rank_same {key : ByteArray} {e0 : En} {l r : List KE} (h : Sorted (l ++ (key, e0) :: r)) : (lo key (l ++ (key, e0) :: r)).length = (lo key l).length := by
  rw [(lo_same h).1]
  have := (h.parts).2.2.1
  rw [show lo key l = l from filter_all fun x hx => by simp [this x hx]]
theorem rank_more {key k0 : ByteArray} {e0 : En} {l r : List KE} (h : Sorted (l ++ (k0, e0) :: r)) (hk : kc k0 key = 1) : (lo key (l ++ (k0, e0) :: r)).length = (lo key l).length := by
  have hs := kc_swap k0 key
  rw [(lo_less h (show kc key k0 = -1 by omega)).1]
theorem lo_le (key : ByteArray) (xs : List KE) : (lo key xs).length ≤ xs.length := List.length_filter_le _ _

set_option maxRecDepth 100000 in
set_option maxHeartbeats 4000000 in
theorem rank_any (d : Nat) (key : ByteArray) (xs : List KE) (w : World) (h : DR w d xs) (hz : key.size ≤ maxLen) (hc : xs.length ≤ 800000000000000) :
    Calls Try.prog 21 #[.pointer (some ⟨d, 0, none⟩), .string key] w fun e w' => e = .returned (.int .i64 (lo key xs).length) ∧ ∃ n, w' = w.drewN n := by
  obtain ⟨t, p, h1, h2, rfl, h4, h5⟩ := h
  have H := Lib.hid (And.intro h1 (And.intro h2 (And.intro h4 h5)))
  clear h1 h2 h4 h5
  go_enter Try.func21, Try.ntmps21
  go_wp2_with (first
    | (go_at_call 44; refine (top_any d p _ H.out.1).mono ?_; rintro e w' ⟨rfl, rfl⟩))
  go_loopw [5, 6] (fun s v wr => ∃ (u : Tn) (q : Option Addr) (n a : Nat), s = .int .i64 a ∧ v = .pointer q ∧ wr = w.drewN n ∧ Tr w w.heap.size u q ∧ Sorted u.flat ∧ KeysOk u.flat ∧ (lo key t.flat).length = a + (lo key u.flat).length)
    (fun _ v wr => szOf wr v)
  case atStart => exact ⟨t, p, 0, 0, rfl, rfl, rfl, H.out.2.1, H.out.2.2.1, H.out.2.2.2, by omega⟩
  case round =>
    obtain ⟨u, q, n, a, rfl, rfl, rfl, hT, hS, hK, hG⟩ := hrel
    cases u with
    | leaf =>
      obtain rfl : q = none := hT
      have HG := Lib.hid hG
      clear hG hS hK
      go_wp2
      go_ret
      exact ⟨by rw [HG.out]; simp [Tn.flat, lo], n, rfl⟩
    | node k0 e0 l r =>
      have Hsz := Lib.hid (szOf_tr (hT.dr (n := n)))
      obtain ⟨b, p1, p2, rfl, hb, h1, h2, hx⟩ := hT.cells
      have hN := NC.of hx
      have hS2 : Sorted (l.flat ++ (k0, e0) :: r.flat) := hS
      have hK2 : KeysOk (l.flat ++ (k0, e0) :: r.flat) := hK
      obtain ⟨s1, s2, _⟩ := hS2.parts
      obtain ⟨o1, o2, o3, o4⟩ := hK2.parts
      have hG2 : (lo key t.flat).length = a + (lo key (l.flat ++ (k0, e0) :: r.flat)).length := hG
      have hle := lo_le key t.flat
      have HH := Lib.hid (And.intro h1 (And.intro h2 (And.intro s1 (And.intro s2 (And.intro o1 (And.intro o2 (And.intro hS2 (And.intro hG2 hN))))))))
      obtain ⟨n0, n1, n2, n3, n4, n5, n6, n8, n9⟩ := hN
      have hcn := Tn.cnt_node k0 e0 l r
      have HCN := Lib.hid hcn
      have o4' := Lib.hid o4
      clear hT hx hS hK hG hS2 hK2 s1 s2 o1 o2 hcn o3 o4 h1 h2
      rcases kc_range k0 key with hk | hk | hk
      · have hr := rank_less HH.out.2.2.2.2.2.2.1 hk
        have hlc : l.flat.length = l.cnt := rfl
        have hab : a + l.cnt + 1 ≤ 800000000000000 := by have := HH.out.2.2.2.2.2.2.2.1; omega
        have HR := Lib.hid hr
        clear hr hG2 hlc
        go_wp2_with (first
          | (go_at_call 46; (with_reducible refine (cmp_is (sz64 o4'.out) hz hk).mono ?_); rintro e w' ⟨rfl, nq, rfl⟩)
          | (go_at_call 47
             (with_reducible refine (count_any l p1 w.heap.size _ ?_).mono ?_)
             · first | exact HH.out.1.dr | exact (HH.out.1.dr).dr
             rintro e w' ⟨rfl, hw'⟩
             subst hw'))
        go_roundw
        case rel => exact ⟨r, p2, _, a + l.cnt + 1, by go_num, rfl, by first | rfl | exact World.drewN_drewN .., HH.out.2.1, HH.out.2.2.2.1, HH.out.2.2.2.2.2.1, by rw [HH.out.2.2.2.2.2.2.2.1, HR.out]; have hlc : l.flat.length = l.cnt := rfl; omega⟩
        case measure =>
          have e1 := Hsz.out
          have e2 := HCN.out
          have e3 := szOf_tr (HH.out.2.1.dr (n := n + nq))
          simp only [szOf_dr] at *
          omega
      · obtain rfl := kc_eq hk
        have hr := rank_same HH.out.2.2.2.2.2.2.1
        have HR := Lib.hid hr
        clear hr hG2
        go_wp2_with (first
          | (go_at_call 46; (with_reducible refine (cmp_is (sz64 o4'.out) hz hk).mono ?_); rintro e w' ⟨rfl, nq, rfl⟩))
        go_roundw
        case rel => exact ⟨l, p1, _, a, rfl, rfl, by first | rfl | exact World.drewN_drewN .., HH.out.1, HH.out.2.2.1, HH.out.2.2.2.2.1, by rw [HH.out.2.2.2.2.2.2.2.1, HR.out]⟩
        case measure =>
          have e1 := Hsz.out
          have e2 := HCN.out
          have e3 := szOf_tr (HH.out.1.dr (n := n + nq))
          simp only [szOf_dr] at *
          omega
      · have hr := rank_more HH.out.2.2.2.2.2.2.1 hk
        have HR := Lib.hid hr
        clear hr hG2
        go_wp2_with (first
          | (go_at_call 46; (with_reducible refine (cmp_is (sz64 o4'.out) hz hk).mono ?_); rintro e w' ⟨rfl, nq, rfl⟩))
        go_roundw
        case rel => exact ⟨l, p1, _, a, rfl, rfl, by first | rfl | exact World.drewN_drewN .., HH.out.1, HH.out.2.2.1, HH.out.2.2.2.2.1, by rw [HH.out.2.2.2.2.2.2.2.1, HR.out]⟩
        case measure =>
          have e1 := Hsz.out
          have e2 := HCN.out
          have e3 := szOf_tr (HH.out.1.dr (n := n + nq))
          simp only [szOf_dr] at *
          omega

/-- What Nth answers. -/
abbrev keV (x : KE) : Value := .agg #[.string x.1, .int .i64 x.2.seg, .int .i64 x.2.at_, .int .i64 x.2.size, .int .i64 x.2.off, .int .i64 x.2.time, .bool x.2.tomb]
theorem at_left {l r : List KE} {x : KE} {a : Nat} (h : a < l.length) : (l ++ x :: r)[a]? = l[a]? := List.getElem?_append_left h
theorem at_mid {l r : List KE} {x : KE} : (l ++ x :: r)[l.length]? = some x := by simp
theorem at_right {l r : List KE} {x : KE} {a : Nat} (h : l.length < a) : (l ++ x :: r)[a]? = r[a - (l.length + 1)]? := by
  rw [List.getElem?_append_right (by omega), show a - l.length = (a - (l.length + 1)) + 1 by omega, List.getElem?_cons_succ]
set_option maxRecDepth 100000 in
set_option maxHeartbeats 4000000 in
theorem nth_none (d k : Nat) (xs : List KE) (w : World) (h : DR w d xs) (hc : xs.length ≤ 800000000000000) (hx : xs[k]? = none) (hk : k ≤ 4611686018427387904) :
    Calls Try.prog 25 #[.pointer (some ⟨d, 0, none⟩), .int .i64 k] w fun e w' => e = .returned (.tuple #[.agg #[.string ⟨#[]⟩, .int .i64 0, .int .i64 0, .int .i64 0, .int .i64 0, .int .i64 0, .bool false], .bool false]) ∧ Below w.heap.size w w' := by
  obtain ⟨t, p, h1, h2, rfl, h4, h5⟩ := h
  have hb0 := bal w (.cells #[.string ⟨#[]⟩, .int .i64 0, .int .i64 0, .int .i64 0, .int .i64 0, .int .i64 0, .bool false] 58)
  have hX0 := Box.new w 58 #[.string ⟨#[]⟩, .int .i64 0, .int .i64 0, .int .i64 0, .int .i64 0, .int .i64 0, .bool false]
  have H := Lib.hid (And.intro (h1.below hb0 h1.lt) (And.intro (h2.below hb0) (And.intro h4 (And.intro h5 (And.intro hb0 (And.intro hX0 hx))))))
  clear h1 h2 h4 h5 hb0 hX0 hx
  go_enter Try.func25, Try.ntmps25
  have hk0 : (0 : Int) ≤ k := by omega
  go_wp2_with (first
    | (go_at_call 44; refine (top_any d p _ H.out.1).mono ?_; rintro e w' ⟨rfl, hw'⟩; subst hw'))
  generalize hW1 : w.alloc (.cells #[.string ⟨#[]⟩, .int .i64 0, .int .i64 0, .int .i64 0, .int .i64 0, .int .i64 0, .bool false] 58) = W1 at H ⊢
  clear hW1
  go_loopw [1, 6] (fun s v wr => ∃ (u : Tn) (q : Option Addr) (a : Nat), s = .int .i64 a ∧ a ≤ k ∧ v = .pointer q ∧ wr = W1 ∧ Tr wr wr.heap.size u q ∧ t.flat[k]? = u.flat[a]? ∧ u.cnt ≤ t.cnt)
    (fun _ v wr => szOf wr v)
  case atStart => exact ⟨t, p, k, rfl, Nat.le_refl _, rfl, rfl, H.out.2.1, rfl, Nat.le_refl _⟩
  case round =>
    obtain ⟨u, q, a, rfl, hak, rfl, rfl, hT, hG, hcu⟩ := hrel
    have hxc := H.out.2.2.2.2.2.1.cell
    have hxf := H.out.2.2.2.2.2.1.free
    have hxl := H.out.2.2.2.2.2.1.lt
    have HL := Lib.hid H.out.2.2.2.2.1
    cases u with
    | leaf =>
      obtain rfl : q = none := hT
      have hx0 := H.out.2.2.2.2.2.2
      clear hG
      go_wp2
      refine bodyPost_ret (v := .tuple #[.agg #[.string ⟨#[]⟩, .int .i64 0, .int .i64 0, .int .i64 0, .int .i64 0, .int .i64 0, .bool false], .bool false]) ?_ rfl ?_
      · simp [results, Try.results25, go_sem, hxc]
      refine ⟨rfl, ?_⟩
      repeat (first | with_reducible exact HL.out | refine Below.setCell ?_ (by simp) _)
    | node k0 e0 l r =>
      have hct : t.cnt ≤ 800000000000000 := hc
      have Hsz := Lib.hid (szOf_tr hT)
      obtain ⟨b, p1, p2, rfl, hb, h1, h2, hx⟩ := hT.cells
      have hN := NC.of hx
      have hG2 : t.flat[k]? = (l.flat ++ (k0, e0) :: r.flat)[a]? := hG
      have hcn := Tn.cnt_node k0 e0 l r
      have HH := Lib.hid (And.intro h1 (And.intro h2 hG2))
      obtain ⟨n0, n1, n2, n3, n4, n5, n6, n8, n9⟩ := hN
      have HCN := Lib.hid hcn
      have hlc : l.cnt ≤ 800000000000000 := by omega
      have hll := Lib.hid (show l.flat.length = l.cnt from rfl)
      clear hT hx hG hG2 hcn h1 h2
      rcases Nat.lt_trichotomy a l.cnt with hal | hal | hal
      · have hal' : (a : Int) < l.cnt := by omega
        have hne : ¬ (a : Int) = l.cnt := by omega
        go_wp2_with (first
          | (go_at_call 47
             (with_reducible refine (count_any l p1 _ _ HH.out.1).mono ?_)
             rintro e w' ⟨rfl, hw'⟩
             subst hw'))
        go_roundw
        case rel => exact ⟨l, p1, a, rfl, hak, rfl, (by first | rfl | trivial), HH.out.1, by rw [HH.out.2.2]; exact at_left (by rw [hll.out]; exact hal), by have := HCN.out; omega⟩
        case measure =>
          have e1 := Hsz.out
          have e2 := HCN.out
          have e3 := szOf_tr HH.out.1
          omega
      · have heq : (a : Int) = l.cnt := by omega
        have hx0 := H.out.2.2.2.2.2.2
        rw [HH.out.2.2, show a = l.flat.length by rw [hll.out]; exact hal, at_mid] at hx0
        cases hx0
      · have hal' : ¬ (a : Int) < l.cnt := by omega
        have hne : ¬ (a : Int) = l.cnt := by omega
        go_wp2_with (first
          | (go_at_call 47
             (with_reducible refine (count_any l p1 _ _ HH.out.1).mono ?_)
             rintro e w' ⟨rfl, hw'⟩
             subst hw'))
        go_roundw
        case rel => exact ⟨r, p2, a - (l.cnt + 1), by go_num, by omega, rfl, (by first | rfl | trivial), HH.out.2.1, by rw [HH.out.2.2, ← hll.out]; exact at_right (by rw [hll.out]; exact hal), by have := HCN.out; omega⟩
        case measure =>
          have e1 := Hsz.out
          have e2 := HCN.out
          have e3 := szOf_tr HH.out.2.1
          omega
set_option maxRecDepth 100000 in
set_option maxHeartbeats 4000000 in
theorem nth_some (d k : Nat) (xs : List KE) (w : World) (h : DR w d xs) (hc : xs.length ≤ 800000000000000) (x : KE) (hx : xs[k]? = some x) (hk : k ≤ 4611686018427387904) :
    Calls Try.prog 25 #[.pointer (some ⟨d, 0, none⟩), .int .i64 k] w fun e w' => e = .returned (.tuple #[keV x, .bool true]) ∧ Below w.heap.size w w' := by
  obtain ⟨t, p, h1, h2, rfl, h4, h5⟩ := h
  have hb0 := bal w (.cells #[.string ⟨#[]⟩, .int .i64 0, .int .i64 0, .int .i64 0, .int .i64 0, .int .i64 0, .bool false] 58)
  have hX0 := Box.new w 58 #[.string ⟨#[]⟩, .int .i64 0, .int .i64 0, .int .i64 0, .int .i64 0, .int .i64 0, .bool false]
  have H := Lib.hid (And.intro (h1.below hb0 h1.lt) (And.intro (h2.below hb0) (And.intro h4 (And.intro h5 (And.intro hb0 (And.intro hX0 hx))))))
  clear h1 h2 h4 h5 hb0 hX0 hx
  go_enter Try.func25, Try.ntmps25
  have hk0 : (0 : Int) ≤ k := by omega
  go_wp2_with (first
    | (go_at_call 44; refine (top_any d p _ H.out.1).mono ?_; rintro e w' ⟨rfl, hw'⟩; subst hw'))
  generalize hW1 : w.alloc (.cells #[.string ⟨#[]⟩, .int .i64 0, .int .i64 0, .int .i64 0, .int .i64 0, .int .i64 0, .bool false] 58) = W1 at H ⊢
  clear hW1
  go_loopw [1, 6] (fun s v wr => ∃ (u : Tn) (q : Option Addr) (a : Nat), s = .int .i64 a ∧ a ≤ k ∧ v = .pointer q ∧ wr = W1 ∧ Tr wr wr.heap.size u q ∧ t.flat[k]? = u.flat[a]? ∧ u.cnt ≤ t.cnt)
    (fun _ v wr => szOf wr v)
  case atStart => exact ⟨t, p, k, rfl, Nat.le_refl _, rfl, rfl, H.out.2.1, rfl, Nat.le_refl _⟩
  case round =>
    obtain ⟨u, q, a, rfl, hak, rfl, rfl, hT, hG, hcu⟩ := hrel
    have hxc := H.out.2.2.2.2.2.1.cell
    have hxf := H.out.2.2.2.2.2.1.free
    have hxl := H.out.2.2.2.2.2.1.lt
    have HL := Lib.hid H.out.2.2.2.2.1
    cases u with
    | leaf =>
      obtain rfl : q = none := hT
      have hx0 := H.out.2.2.2.2.2.2
      rw [hG] at hx0
      cases hx0
    | node k0 e0 l r =>
      have hct : t.cnt ≤ 800000000000000 := hc
      have Hsz := Lib.hid (szOf_tr hT)
      obtain ⟨b, p1, p2, rfl, hb, h1, h2, hx⟩ := hT.cells
      have hN := NC.of hx
      have hG2 : t.flat[k]? = (l.flat ++ (k0, e0) :: r.flat)[a]? := hG
      have hcn := Tn.cnt_node k0 e0 l r
      have HH := Lib.hid (And.intro h1 (And.intro h2 hG2))
      obtain ⟨n0, n1, n2, n3, n4, n5, n6, n8, n9⟩ := hN
      have HCN := Lib.hid hcn
      have hlc : l.cnt ≤ 800000000000000 := by omega
      have hll := Lib.hid (show l.flat.length = l.cnt from rfl)
      clear hT hx hG hG2 hcn h1 h2
      rcases Nat.lt_trichotomy a l.cnt with hal | hal | hal
      · have hal' : (a : Int) < l.cnt := by omega
        have hne : ¬ (a : Int) = l.cnt := by omega
        go_wp2_with (first
          | (go_at_call 47
             (with_reducible refine (count_any l p1 _ _ HH.out.1).mono ?_)
             rintro e w' ⟨rfl, hw'⟩
             subst hw'))
        go_roundw
        case rel => exact ⟨l, p1, a, rfl, hak, rfl, (by first | rfl | trivial), HH.out.1, by rw [HH.out.2.2]; exact at_left (by rw [hll.out]; exact hal), by have := HCN.out; omega⟩
        case measure =>
          have e1 := Hsz.out
          have e2 := HCN.out
          have e3 := szOf_tr HH.out.1
          omega
      · have heq : (a : Int) = l.cnt := by omega
        have hx0 := H.out.2.2.2.2.2.2
        rw [HH.out.2.2, show a = l.flat.length by rw [hll.out]; exact hal, at_mid] at hx0
        obtain rfl : (k0, e0) = x := by injection hx0
        clear hx0
        go_wp2_with (first
          | (go_at_call 47
             (with_reducible refine (count_any l p1 _ _ HH.out.1).mono ?_)
             rintro e w' ⟨rfl, hw'⟩
             subst hw'))
        go_still_tail 9, (by kernel_rfl)
        have hx2 := H.out.2.2.2.2.2.1.drew
        have hb2 := HL.out.drew
        show wpList _ _ _ _ _ wr.drew
        generalize wr.drew = W2 at hx2 hb2 ⊢
        have hxc2 := hx2.cell
        have hxf2 := hx2.free
        have HB2 := Lib.hid hb2
        clear hxc hxf hx2 hb2 n0 n1 n2 n3 n4 n5 n6 n8 n9
        go_wp2
        refine bodyPost_ret (v := .tuple #[keV (k0, e0), .bool true]) ?_ rfl ?_
        · simp [results, Try.results25, go_sem, hxc2]
        refine ⟨rfl, ?_⟩
        repeat (first | with_reducible exact HB2.out | refine Below.setCell ?_ (by simp) _)
      · have hal' : ¬ (a : Int) < l.cnt := by omega
        have hne : ¬ (a : Int) = l.cnt := by omega
        go_wp2_with (first
          | (go_at_call 47
             (with_reducible refine (count_any l p1 _ _ HH.out.1).mono ?_)
             rintro e w' ⟨rfl, hw'⟩
             subst hw'))
        go_roundw
        case rel => exact ⟨r, p2, a - (l.cnt + 1), by go_num, by omega, rfl, (by first | rfl | trivial), HH.out.2.1, by rw [HH.out.2.2, ← hll.out]; exact at_right (by rw [hll.out]; exact hal), by have := HCN.out; omega⟩
        case measure =>
          have e1 := Hsz.out
          have e2 := HCN.out
          have e3 := szOf_tr HH.out.2.1
          omega
end Go.Proofs.Ytglmhpmjebjcgaa
namespace Go.Proofs.Ytglmhpmjebjcgaa
open Go.RowKit Go.Maps

theorem put_un (d : Nat) (key : ByteArray) (en : En) (xs : List KE) (w : World) (h : DR w d xs) (hz : key.size ≤ maxLen) (hc : xs.length ≤ 800000000000000) :
    Calls Try.prog 11 #[.pointer (some ⟨d, 0, none⟩), .string key, en.v] w fun e w' => (∃ v, e = .returned v) ∧ DR w' d (bstep xs (key, en)) ∧ Dch d w w' := by
  unfold bstep
  by_cases hg : goodB key = true
  · rw [if_pos hg]
    exact (put_ok d key en xs w h (by simpa [goodB] using hg) hc).mono fun e w' ⟨h1, h2, h3⟩ => ⟨⟨_, h1⟩, h2, h3⟩
  · rw [if_neg hg]
    exact (put_bad d key en w (by simpa [goodB] using hg) hz).mono fun e w' ⟨h1, h2⟩ => ⟨⟨_, h1⟩, h.next h2, Chg.of_below h2 _⟩
def rstep (xs : List KE) (key : ByteArray) : List KE := if getL key xs = none then xs else delL key xs
theorem rstep_len (xs : List KE) (key : ByteArray) : (rstep xs key).length ≤ xs.length := by
  unfold rstep
  split
  · exact Nat.le_refl _
  · exact del_len _ _
theorem rem_un (d : Nat) (key : ByteArray) (xs : List KE) (w : World) (h : DR w d xs) (hz : key.size ≤ maxLen) (hc : xs.length ≤ 800000000000000) :
    Calls Try.prog 19 #[.pointer (some ⟨d, 0, none⟩), .string key] w fun e w' => (∃ v, e = .returned v) ∧ DR w' d (rstep xs key) ∧ Dch d w w' := by
  unfold rstep
  cases hg : getL key xs with
  | none =>
    rw [if_pos rfl]
    exact (rem_no d key xs w h hz hg).mono fun e w' ⟨h1, h2⟩ => ⟨⟨_, h1⟩, h.next h2, Chg.of_below h2 _⟩
  | some o =>
    rw [if_neg (by simp)]
    exact (rem_yes d key xs w h hz hc o hg).mono fun e w' ⟨h1, h2, h3⟩ => ⟨⟨_, h1⟩, h2, h3⟩
def pstep (xs : List KE) (key : ByteArray) (off seg at_ : Int) : List KE := match getL key xs with
  | none => xs
  | some o => if o.off = off then putL key ⟨seg, at_, o.size, o.off, o.time, o.tomb⟩ xs else xs
theorem pstep_len (xs : List KE) (key : ByteArray) (off seg at_ : Int) : (pstep xs key off seg at_).length ≤ xs.length + 1 := by
  unfold pstep
  split
  · omega
  · split
    · exact put_len _ _ _
    · omega
theorem point_un (d : Nat) (key : ByteArray) (off seg at_ : Int) (xs : List KE) (w : World) (h : DR w d xs) (hz : key.size ≤ maxLen) (hc : xs.length ≤ 800000000000000) :
    Calls Try.prog 15 #[.pointer (some ⟨d, 0, none⟩), .string key, .int .i64 off, .int .i64 seg, .int .i64 at_] w fun e w' => (∃ v, e = .returned v) ∧ DR w' d (pstep xs key off seg at_) ∧ Dch d w w' := by
  unfold pstep
  cases hg : getL key xs with
  | none => exact (point_none d key off seg at_ xs w h hz hg).mono fun e w' ⟨h1, h2⟩ => ⟨⟨_, h1⟩, h.next h2, Chg.of_below h2 _⟩
  | some o =>
    simp only
    by_cases ho : o.off = off
    · rw [if_pos ho]
      exact (point_yes d key off seg at_ xs w h hz hc o hg ho).mono fun e w' ⟨h1, h2, h3⟩ => ⟨⟨_, h1⟩, h2, h3⟩
    · rw [if_neg ho]
      exact (point_other d key off seg at_ xs w h hz o hg ho).mono fun e w' ⟨h1, h2⟩ => ⟨⟨_, h1⟩, h.next h2, Chg.of_below h2 _⟩

/-- Four dirs of the law's own. -/
structure FS (w : World) (d x y f : Nat) (A B C D : List KE) (W : World) : Prop where
  rd : DR W d A
  rx : DR W x B
  ry : DR W y C
  rf : DR W f D
  below : Below w.heap.size w W
  low : w.heap.size ≤ d ∧ w.heap.size ≤ x ∧ w.heap.size ≤ y ∧ w.heap.size ≤ f
  far : d ≠ x ∧ d ≠ y ∧ d ≠ f ∧ x ≠ y ∧ x ≠ f ∧ y ≠ f
section
variable {w W W' : World} {d x y f : Nat} {A B C D A' : List KE}
theorem FS.next (s : FS w d x y f A B C D W) (hb : Below W.heap.size W W') : FS w d x y f A B C D W' :=
  ⟨s.rd.next hb, s.rx.next hb, s.ry.next hb, s.rf.next hb, s.below.trans (hb.mono s.below.size), s.low, s.far⟩
theorem DR.dch {W W' : World} {k d : Nat} {A B : List KE} (h : DR W k B) (hk : DR W d A) (hc : Dch d W W') (hne : k ≠ d) : DR W' k B := h.chg hc (fun j hj cs => by subst hj; exact hk.not cs) hne
theorem FS.upd {k : Nat} (s : FS w d x y f A B C D W) (hk : w.heap.size ≤ k) (hc : Dch k W W') : Below w.heap.size w W' := dch_below s.below (Below.refl _ _) hc hk
theorem FS.ud (s : FS w d x y f A B C D W) (hc : Dch d W W') (h : DR W' d A') : FS w d x y f A' B C D W' :=
  ⟨h, s.rx.dch s.rd hc s.far.1.symm, s.ry.dch s.rd hc s.far.2.1.symm, s.rf.dch s.rd hc s.far.2.2.1.symm, s.upd s.low.1 hc, s.low, s.far⟩
theorem FS.ux (s : FS w d x y f A B C D W) (hc : Dch x W W') (h : DR W' x A') : FS w d x y f A A' C D W' :=
  ⟨s.rd.dch s.rx hc s.far.1, h, s.ry.dch s.rx hc s.far.2.2.2.1.symm, s.rf.dch s.rx hc s.far.2.2.2.2.1.symm, s.upd s.low.2.1 hc, s.low, s.far⟩
theorem FS.uy (s : FS w d x y f A B C D W) (hc : Dch y W W') (h : DR W' y A') : FS w d x y f A B A' D W' :=
  ⟨s.rd.dch s.ry hc s.far.2.1, s.rx.dch s.ry hc s.far.2.2.2.1, h, s.rf.dch s.ry hc s.far.2.2.2.2.2.symm, s.upd s.low.2.2.1 hc, s.low, s.far⟩
theorem FS.uf (s : FS w d x y f A B C D W) (hc : Dch f W W') (h : DR W' f A') : FS w d x y f A B C A' W' :=
  ⟨s.rd.dch s.rf hc s.far.2.2.1, s.rx.dch s.rf hc s.far.2.2.2.2.1, s.ry.dch s.rf hc s.far.2.2.2.2.2, h, s.upd s.low.2.2.2 hc, s.low, s.far⟩
end
theorem row_rd {w : World} {B : Nat} {e : TypeId} {size n : Nat} {v : Value} {xs : List Value} (h : w.ownsRow B e size v n xs) : ∃ (A : Option Addr) (c : Nat), v = .slice A n c ∧ Rd w w.heap.size A xs := by
  rcases Nat.eq_zero_or_pos n with hn | hn
  · subst hn
    have hx : xs = [] := List.length_eq_zero_iff.1 (by have := h.1; omega)
    rcases h.2 with ⟨rfl, _⟩ | ⟨g, cap, cur, rfl, _⟩
    · exact ⟨none, 0, rfl, by rw [hx]; exact Rd.nil _ _ _⟩
    · exact ⟨_, cap, rfl, by rw [hx]; exact Rd.nil _ _ _⟩
  · obtain ⟨g, cap, hv, _, _, ho⟩ := Own.of_row h hn
    exact ⟨_, cap, hv, ho.rd ho.lt fun _ _ h => h⟩
/-- The i-th text of a row of texts. -/
theorem Rd.str {w : World} {B : Nat} {A : Option Addr} {l : List ByteArray} (h : Rd w B A (l.map Value.string)) {i : Nat} (hi : i < l.length) : ∃ ad : Addr, A = some ad ∧ ad.block < B ∧ w.cell? (ad.add i) = some (.string l[i]) := by
  obtain ⟨ad, rfl, hb, hc⟩ := h i (.string l[i]) (by simp [hi])
  exact ⟨ad, rfl, hb, hc⟩
end Go.Proofs.Ytglmhpmjebjcgaa
/- 'last': what a key was last given in a list of items; and that a directory laid from the items answers just that. -/
namespace Go.Proofs.Ytglmhpmjebjcgaa
open Go.RowKit Go.Maps

def lastL (key : ByteArray) (l : List KE) : Option En := (l.reverse.find? fun x => decide (x.1 = key)).map (·.2)
def lastB (key : ByteArray) (l : List KE) : Option En := if goodB key = true then lastL key l else none
theorem lastL_snoc (key : ByteArray) (a : List KE) (x : KE) : lastL key (a ++ [x]) = if x.1 = key then some x.2 else lastL key a := by
  unfold lastL
  rw [List.reverse_append, List.reverse_cons, List.reverse_nil, List.nil_append, List.cons_append, List.nil_append, List.find?_cons]
  by_cases h : x.1 = key
  · simp [h]
  · simp [h]
theorem take_snoc (l : List KE) (k : Nat) (h : k < l.length) : l.take (k + 1) = l.take k ++ [l[k]] := by
  rw [List.take_add_one, List.getElem?_eq_getElem h, Option.toList_some]
theorem build_get (key : ByteArray) (l : List KE) : ∀ k, k ≤ l.length → Sorted (build (l.take k)) ∧ getL key (build (l.take k)) = lastB key (l.take k) := by
  intro k
  induction k with
  | zero => intro _; exact ⟨List.Pairwise.nil, by simp [build, getL, lastB, lastL]⟩
  | succ k ih =>
    intro h
    obtain ⟨i1, i2⟩ := ih (by omega)
    rw [build_snoc l k (by omega), take_snoc l k (by omega)]
    unfold bstep
    generalize l[k]'(by omega) = x
    unfold lastB at i2 ⊢
    rw [lastL_snoc]
    by_cases hg : goodB x.1 = true
    · rw [if_pos hg]
      refine ⟨i1.put _ _, ?_⟩
      rw [get_put i1]
      by_cases hk : key = x.1
      · subst hk; rw [if_pos rfl, if_pos hg, if_pos rfl]
      · have hk' : ¬ x.1 = key := fun e => hk e.symm
        rw [if_neg hk, i2, if_neg hk']
    · rw [if_neg hg]
      refine ⟨i1, ?_⟩
      by_cases hk : x.1 = key
      · subst hk; rw [i2, if_neg hg, if_neg hg]
      · rw [i2, if_neg hk]
theorem getL_build (key : ByteArray) (l : List KE) : getL key (build l) = lastB key l := by
  have := (build_get key l l.length (Nat.le_refl _)).2
  rwa [List.take_length] at this

theorem key_ne {a b : ByteArray} (h : ¬ a = b) : (a.toList == b.toList) = false := by
  rw [beq_eq_false_iff_ne]
  intro e
  rw [ByteArray.toList_eq, ByteArray.toList_eq] at e
  exact h (WideShapes.bytes_inj e)
end Go.Proofs.Ytglmhpmjebjcgaa
/- The law's helper below: is a text below another, byte by byte; Nth of a place below 0. -/
namespace Go.Proofs.Ytglmhpmjebjcgaa
open Go.RowKit Go.Maps

set_option maxRecDepth 100000 in
set_option maxHeartbeats 4000000 in
theorem nth_neg (d : Nat) (xs : List KE) (w : World) (h : DR w d xs) :
    Calls Try.prog 25 #[.pointer (some ⟨d, 0, none⟩), .int .i64 (-1)] w fun e w' => e = .returned (.tuple #[.agg #[.string ⟨#[]⟩, .int .i64 0, .int .i64 0, .int .i64 0, .int .i64 0, .int .i64 0, .bool false], .bool false]) ∧ Below w.heap.size w w' := by
  obtain ⟨t, p, h1, h2, rfl, h4, h5⟩ := h
  have hb0 := bal w (.cells #[.string ⟨#[]⟩, .int .i64 0, .int .i64 0, .int .i64 0, .int .i64 0, .int .i64 0, .bool false] 58)
  have hX0 := Box.new w 58 #[.string ⟨#[]⟩, .int .i64 0, .int .i64 0, .int .i64 0, .int .i64 0, .int .i64 0, .bool false]
  have hxc := hX0.cell
  have hxf := hX0.free
  have H := Lib.hid (And.intro (h1.below hb0 h1.lt) hb0)
  clear h1 h2 h4 h5 hb0 hX0
  go_enter Try.func25, Try.ntmps25
  go_wp2_with (first
    | (go_at_call 44; refine (top_any d p _ H.out.1).mono ?_; rintro e w' ⟨rfl, hw'⟩; subst hw'))
  refine bodyPost_ret (v := .tuple #[.agg #[.string ⟨#[]⟩, .int .i64 0, .int .i64 0, .int .i64 0, .int .i64 0, .int .i64 0, .bool false], .bool false]) ?_ rfl ?_
  · simp [results, Try.results25, go_sem, hxc]
  refine ⟨rfl, ?_⟩
  repeat (first | with_reducible exact H.out.2 | refine Below.setCell ?_ (by simp) _)
end Go.Proofs.Ytglmhpmjebjcgaa
/- Get, last and Remove answered by one form (oe, ob); what stays when the keys of a row are removed one after the other. -/
namespace Go.Proofs.Ytglmhpmjebjcgaa
open Go.RowKit Go.Maps

def oe (o : Option En) : En := o.getD En.zero
def ob (o : Option En) : Bool := o.isSome
theorem entV_one (o : Option En) : entV o = .tuple #[(oe o).v, .bool (ob o)] := by cases o <;> rfl
theorem ob_none {o : Option En} (h : ob o = false) : oe o = En.zero := by cases o with
  | none => rfl
  | some e => cases h
theorem get_one (d : Nat) (key : ByteArray) (xs : List KE) (w : World) (h : DR w d xs) (hz : key.size ≤ maxLen) :
    Calls Try.prog 17 #[.pointer (some ⟨d, 0, none⟩), .string key] w fun e w' => e = .returned (.tuple #[(oe (getL key xs)).v, .bool (ob (getL key xs))]) ∧ Below w.heap.size w w' :=
  (get_any d key xs w h hz).mono fun e w' ⟨h1, h2⟩ => ⟨by rw [h1, entV_one], h2⟩
theorem rem_one (d : Nat) (key : ByteArray) (xs : List KE) (w : World) (h : DR w d xs) (hz : key.size ≤ maxLen) (hc : xs.length ≤ 800000000000000) :
    Calls Try.prog 19 #[.pointer (some ⟨d, 0, none⟩), .string key] w fun e w' => e = .returned (.tuple #[(oe (getL key xs)).v, .bool (ob (getL key xs))]) ∧ DR w' d (rstep xs key) ∧ Dch d w w' := by
  unfold rstep
  cases hg : getL key xs with
  | none =>
    rw [if_pos rfl]
    exact (rem_no d key xs w h hz hg).mono fun e w' ⟨h1, h2⟩ => ⟨h1, h.next h2, Chg.of_below h2 _⟩
  | some o =>
    rw [if_neg (by simp)]
    exact (rem_yes d key xs w h hz hc o hg).mono fun e w' ⟨h1, h2, h3⟩ => ⟨h1, h2, h3⟩

theorem rstep_sorted {xs : List KE} (h : Sorted xs) (key : ByteArray) : Sorted (rstep xs key) := by
  unfold rstep
  split
  · exact h
  · exact h.del _
theorem rstep_get {xs : List KE} (h : Sorted xs) (k key : ByteArray) : getL key (rstep xs k) = if key = k then none else getL key xs := by
  unfold rstep
  split
  · rename_i hn
    split
    · rename_i e; rw [e]; exact hn
    · rfl
  · exact get_del h key
def hasB (key : ByteArray) (g : List ByteArray) : Bool := g.any fun y => decide (y = key)
theorem hasB_snoc (key : ByteArray) (g : List ByteArray) (x : ByteArray) : hasB key (g ++ [x]) = (hasB key g || decide (x = key)) := by unfold hasB; simp
/-- What is left of the list when the keys of a row were removed. -/
def remd (xs : List KE) (g : List ByteArray) : List KE := g.foldl rstep xs
theorem remd_snoc (xs : List KE) (g : List ByteArray) (k : Nat) (h : k < g.length) : remd xs (g.take (k + 1)) = rstep (remd xs (g.take k)) g[k] := by
  unfold remd
  rw [List.take_add_one, List.getElem?_eq_getElem h, Option.toList_some, List.foldl_append]; rfl
theorem remd_get (key : ByteArray) {xs : List KE} (h : Sorted xs) (g : List ByteArray) : ∀ k, k ≤ g.length → Sorted (remd xs (g.take k)) ∧ (remd xs (g.take k)).length ≤ xs.length ∧ getL key (remd xs (g.take k)) = if hasB key (g.take k) = true then none else getL key xs := by
  intro k
  induction k with
  | zero => intro _; exact ⟨h, Nat.le_refl _, by simp [remd, hasB]⟩
  | succ k ih =>
    intro hk
    obtain ⟨i1, i2, i3⟩ := ih (by omega)
    rw [remd_snoc xs g k (by omega), List.take_add_one, List.getElem?_eq_getElem (by omega : k < g.length), Option.toList_some]
    refine ⟨rstep_sorted i1 _, Nat.le_trans (rstep_len _ _) i2, ?_⟩
    rw [rstep_get i1, i3, hasB_snoc]
    generalize g[k]'(by omega) = x
    by_cases hx : key = x
    · subst hx; simp
    · have hx' : ¬ x = key := fun e => hx e.symm
      simp [hx, hx']
end Go.Proofs.Ytglmhpmjebjcgaa
/- Noting: what a dir holds when entries are noted in some order; the order does not matter. -/
namespace Go.Proofs.Ytglmhpmjebjcgaa
open Go.RowKit Go.Maps

def noteS (xs : List KE) (it : KE) : List KE :=
  if goodB it.1 = true then (match getL it.1 xs with
    | none => putL it.1 it.2 xs
    | some o => if o.off < it.2.off then putL it.1 it.2 xs else xs) else xs
def noteAll (l : List KE) : List KE := l.foldl noteS []
theorem noteAll_snoc (l : List KE) (x : KE) : noteAll (l ++ [x]) = noteS (noteAll l) x := by
  unfold noteAll; rw [List.foldl_append]; rfl
theorem noteS_len (xs : List KE) (it : KE) : (noteS xs it).length ≤ xs.length + 1 := by
  unfold noteS
  split
  · split
    · exact put_len _ _ _
    · split
      · exact put_len _ _ _
      · omega
  · omega
theorem noteS_sorted {xs : List KE} (h : Sorted xs) (it : KE) : Sorted (noteS xs it) := by
  unfold noteS
  split
  · split
    · exact h.put _ _
    · split
      · exact h.put _ _
      · exact h
  · exact h
def NG (l xs : List KE) : Prop := Sorted xs ∧ ∀ key, (getL key xs = none → goodB key = true → ∀ x ∈ l, x.1 ≠ key) ∧
  ∀ e, getL key xs = some e → goodB key = true ∧ (key, e) ∈ l ∧ ∀ e', (key, e') ∈ l → e'.off ≤ e.off
theorem NG.snoc {l xs : List KE} (h : NG l xs) (x : KE) : NG (l ++ [x]) (noteS xs x) := by
  obtain ⟨hs, h⟩ := h
  refine ⟨noteS_sorted hs x, fun key => ?_⟩
  obtain ⟨hn, he⟩ := h key
  by_cases hg : goodB x.1 = true
  · by_cases hk : key = x.1
    · subst hk
      cases hgx : getL x.1 xs with
      | none =>
        have hp : noteS xs x = putL x.1 x.2 xs := by unfold noteS; rw [if_pos hg]; simp only [hgx]
        rw [hp, get_put hs, if_pos rfl]
        refine ⟨fun h => (by cases h), fun e h => ?_⟩
        cases h
        refine ⟨hg, by simp, fun e' h' => ?_⟩
        rcases List.mem_append.1 h' with h' | h'
        · exact absurd rfl (hn hgx hg (x.1, e') h')
        · rw [List.mem_singleton] at h'
          rw [← h']
          exact Int.le_refl _
      | some o =>
        obtain ⟨h1, h2, h3⟩ := he o hgx
        by_cases ho : o.off < x.2.off
        · have hp : noteS xs x = putL x.1 x.2 xs := by unfold noteS; rw [if_pos hg]; simp only [hgx]; rw [if_pos ho]
          rw [hp, get_put hs, if_pos rfl]
          refine ⟨fun h => (by cases h), fun e h => ?_⟩
          cases h
          refine ⟨hg, by simp, fun e' h' => ?_⟩
          rcases List.mem_append.1 h' with h' | h'
          · have := h3 e' h'; omega
          · rw [List.mem_singleton] at h'
            rw [← h']
            exact Int.le_refl _
        · have hp : noteS xs x = xs := by unfold noteS; rw [if_pos hg]; simp only [hgx]; rw [if_neg ho]
          rw [hp, hgx]
          refine ⟨fun h => (by cases h), fun e h => ?_⟩
          cases h
          refine ⟨hg, List.mem_append_left _ h2, fun e' h' => ?_⟩
          rcases List.mem_append.1 h' with h' | h'
          · exact h3 e' h'
          · rw [List.mem_singleton] at h'
            have : e' = x.2 := by rw [← h']
            rw [this]; omega
    · have hx : ¬ x.1 = key := fun e => hk e.symm
      have hgk : getL key (noteS xs x) = getL key xs := by
        unfold noteS
        rw [if_pos hg]
        split
        · rw [get_put hs, if_neg hk]
        · split
          · rw [get_put hs, if_neg hk]
          · rfl
      rw [hgk]
      refine ⟨fun h1 h2 y hy => ?_, fun e h1 => ?_⟩
      · rcases List.mem_append.1 hy with hy | hy
        · exact hn h1 h2 y hy
        · rw [List.mem_singleton] at hy; subst hy; exact hx
      · obtain ⟨a, b, c⟩ := he e h1
        refine ⟨a, List.mem_append_left _ b, fun e' h' => ?_⟩
        rcases List.mem_append.1 h' with h' | h'
        · exact c e' h'
        · rw [List.mem_singleton] at h'
          exact absurd (by rw [← h']) hx
  · have hp : noteS xs x = xs := by unfold noteS; rw [if_neg hg]
    rw [hp]
    have hx : goodB key = true → ¬ x.1 = key := fun h e => hg (by rw [e]; exact h)
    refine ⟨fun h1 h2 y hy => ?_, fun e h1 => ?_⟩
    · rcases List.mem_append.1 hy with hy | hy
      · exact hn h1 h2 y hy
      · rw [List.mem_singleton] at hy; subst hy; exact hx h2
    · obtain ⟨a, b, c⟩ := he e h1
      refine ⟨a, List.mem_append_left _ b, fun e' h' => ?_⟩
      rcases List.mem_append.1 h' with h' | h'
      · exact c e' h'
      · rw [List.mem_singleton] at h'
        exact absurd (by rw [← h']) (hx a)
theorem NG.fold (l : List KE) : ∀ (l0 xs : List KE), NG l0 xs → NG (l0 ++ l) (l.foldl noteS xs) := by
  induction l with
  | nil => intro l0 xs h; simpa using h
  | cons x r ih =>
    intro l0 xs h
    have := ih (l0 ++ [x]) (noteS xs x) (h.snoc x)
    rwa [List.append_assoc] at this
theorem noteAll_ng (l : List KE) : NG l (noteAll l) := by
  have := NG.fold l [] [] ⟨List.Pairwise.nil, fun key => ⟨fun _ _ x hx => (by cases hx), fun e h => by cases h⟩⟩
  rwa [List.nil_append] at this
/-- Entries of unlike offsets: whoever holds the same ones. -/
theorem NG.same {l m xs ys : List KE} (h : NG l xs) (k : NG m ys) (hm : ∀ x, x ∈ l ↔ x ∈ m) (hu : ∀ x ∈ l, ∀ y ∈ l, x.2.off = y.2.off → x = y) : xs = ys := by
  refine Sorted.ext_get h.1 k.1 fun key => ?_
  obtain ⟨h1, h2⟩ := h.2 key
  obtain ⟨k1, k2⟩ := k.2 key
  cases hx : getL key xs with
  | none =>
    cases hy : getL key ys with
    | none => rfl
    | some e =>
      obtain ⟨a, b, _⟩ := k2 e hy
      exact absurd rfl (h1 hx a _ ((hm _).2 b))
  | some e =>
    obtain ⟨a, b, c⟩ := h2 e hx
    cases hy : getL key ys with
    | none => exact absurd rfl (k1 hy a _ ((hm _).1 b))
    | some e' =>
      obtain ⟨a', b', c'⟩ := k2 e' hy
      have e1 := c e' ((hm _).2 b')
      have e2 := c' e ((hm _).1 b)
      have := hu _ b _ ((hm _).2 b') (by show e.off = e'.off; omega)
      injection this with _ this
      rw [this]

def ni (i : Nat) (k : ByteArray) : KE := (k, ⟨(i : Int) * 3, 0, 0, i, 0, false⟩)
def nItems (l : List ByteArray) : List KE := l.mapIdx ni
theorem nItems_len (l : List ByteArray) : (nItems l).length = l.length := by simp [nItems]
theorem nItems_get (l : List ByteArray) (i : Nat) (h : i < l.length) : (nItems l)[i]'(by rw [nItems_len]; exact h) = ni i l[i] := by simp [nItems]
theorem nItems_mem {l : List ByteArray} {x : KE} (h : x ∈ nItems l) : ∃ (i : Nat) (hi : i < l.length), x = ni i l[i] := by
  obtain ⟨i, hi, he⟩ := List.getElem_of_mem h
  rw [nItems_len] at hi
  exact ⟨i, hi, by rw [← he, nItems_get l i hi]⟩
theorem nItems_off {l : List ByteArray} : ∀ x ∈ nItems l, ∀ y ∈ nItems l, x.2.off = y.2.off → x = y := by
  intro x hx y hy h
  obtain ⟨i, hi, rfl⟩ := nItems_mem hx
  obtain ⟨j, hj, rfl⟩ := nItems_mem hy
  have h' : (i : Int) = (j : Int) := h
  have : i = j := by omega
  subst this
  rfl
theorem nItems_take_mem {l : List ByteArray} {k : Nat} {x : KE} (h : x ∈ (nItems l).take k) : x.2.off < (k : Int) := by
  obtain ⟨i, hi, he⟩ := List.getElem_of_mem h
  rw [List.getElem_take] at he
  have hi' : i < k ∧ i < l.length := by rw [List.length_take, nItems_len] at hi; omega
  rw [nItems_get l i hi'.2] at he
  rw [← he]
  show (i : Int) < k
  omega
theorem lastL_mem {key : ByteArray} {l : List KE} {e : En} (h : lastL key l = some e) : (key, e) ∈ l := by
  unfold lastL at h
  cases hf : l.reverse.find? (fun x => decide (x.1 = key)) with
  | none => rw [hf] at h; cases h
  | some y =>
    rw [hf] at h
    have h1 := List.mem_of_find?_eq_some hf
    have h2 := List.find?_some hf
    simp at h h1 h2
    subst h h2
    exact h1
/-- What the dir holds of a key ahead of the k-th item has a smaller offset. -/
theorem build_off (l : List ByteArray) (key : ByteArray) (k : Nat) (hk : k ≤ l.length) (o : En) (h : getL key (build ((nItems l).take k)) = some o) : o.off < (k : Int) := by
  rw [(build_get key (nItems l) k (by rw [nItems_len]; exact hk)).2] at h
  unfold lastB at h
  split at h
  · exact nItems_take_mem (lastL_mem h)
  · cases h
theorem noteS_build (l : List ByteArray) (k : Nat) (hk : k < l.length) : noteS (build ((nItems l).take k)) (ni k l[k]) = bstep (build ((nItems l).take k)) (ni k l[k]) := by
  unfold noteS bstep
  split
  · split
    · rfl
    · rename_i o ho
      exact if_pos (build_off l _ k (by omega) o ho)
  · rfl
theorem noteAll_build (l : List ByteArray) : ∀ k, k ≤ l.length → noteAll ((nItems l).take k) = build ((nItems l).take k) := by
  intro k
  induction k with
  | zero => intro _; simp [noteAll, build]
  | succ k ih =>
    intro h
    rw [take_snoc (nItems l) k (by rw [nItems_len]; omega), noteAll_snoc, ih (by omega), ← take_snoc (nItems l) k (by rw [nItems_len]; omega), build_snoc (nItems l) k (by rw [nItems_len]; omega), nItems_get l k (by omega), noteS_build l k (by omega)]
theorem note_same (l : List ByteArray) (m : List KE) (hm : ∀ x, x ∈ m ↔ x ∈ nItems l) : noteAll m = build (nItems l) := by
  have h := noteAll_build l l.length (Nat.le_refl _)
  rw [List.take_of_length_le (by rw [nItems_len]; exact Nat.le_refl _)] at h
  rw [← h]
  exact NG.same (noteAll_ng m) (noteAll_ng (nItems l)) hm (fun x hx y hy e => nItems_off x ((hm x).1 hx) y ((hm y).1 hy) e)

theorem note_un (d : Nat) (key : ByteArray) (en : En) (xs : List KE) (w : World) (h : DR w d xs) (hz : key.size ≤ maxLen) (hc : xs.length ≤ 800000000000000) :
    Calls Try.prog 13 #[.pointer (some ⟨d, 0, none⟩), .string key, en.v] w fun e w' => (∃ v, e = .returned v) ∧ DR w' d (noteS xs (key, en)) ∧ Dch d w w' := by
  unfold noteS
  by_cases hg : goodB key = true
  · rw [if_pos hg]
    have hk : 1 ≤ key.size ∧ key.size ≤ 64 := by simpa [goodB] using hg
    cases ho : getL key xs with
    | none =>
      exact (note_none d key en xs w h hk hc ho).mono fun e w' ⟨h1, h2, h3⟩ => ⟨⟨_, h1⟩, h2, h3⟩
    | some o =>
      show Calls _ _ _ _ fun e w' => (∃ v, e = .returned v) ∧ DR w' d (if o.off < en.off then putL key en xs else xs) ∧ Dch d w w'
      by_cases hlt : o.off < en.off
      · rw [if_pos hlt]
        exact (note_more d key en xs w h hk hc o ho hlt).mono fun e w' ⟨h1, h2, h3⟩ => ⟨⟨_, h1⟩, h2, h3⟩
      · rw [if_neg hlt]
        exact (note_less d key en xs w h hk o ho (by omega)).mono fun e w' ⟨h1, h2⟩ => ⟨⟨_, h1⟩, h.next h2, Chg.of_below h2 _⟩
  · rw [if_neg hg]
    exact (note_bad d key en w (by simpa [goodB] using hg) hz).mono fun e w' ⟨h1, h2⟩ => ⟨⟨_, h1⟩, h.next h2, Chg.of_below h2 _⟩
/-- Noting what is later than all that is there. -/
theorem note_up (b : Bool) (c : Int) (d : Nat) (key : ByteArray) (en : En) (xs : List KE) (w : World) (hg : goodB key = b) (hcd : c = if b = true then 0 else 42) (h : DR w d xs) (hz : key.size ≤ maxLen) (hc : xs.length ≤ 800000000000000) (hup : ∀ o, getL key xs = some o → o.off < en.off) :
    Calls Try.prog 13 #[.pointer (some ⟨d, 0, none⟩), .string key, en.v] w fun e w' => e = .returned (.tuple #[.bool b, .int .i64 c]) ∧ DR w' d (bstep xs (key, en)) ∧ Dch d w w' := by
  unfold bstep
  subst hcd
  cases b with
  | true =>
    rw [if_pos hg, if_pos rfl]
    have hk : 1 ≤ key.size ∧ key.size ≤ 64 := by simpa [goodB] using hg
    cases ho : getL key xs with
    | none => exact (note_none d key en xs w h hk hc ho).mono fun e w' ⟨h1, h2, h3⟩ => ⟨h1, h2, h3⟩
    | some o => exact (note_more d key en xs w h hk hc o ho (hup o ho)).mono fun e w' ⟨h1, h2, h3⟩ => ⟨h1, h2, h3⟩
  | false =>
    rw [if_neg (by decide : ¬ (false = true)), if_neg (by show ¬ goodB key = true; rw [hg]; decide)]
    exact (note_bad d key en w (by simpa [goodB] using hg) hz).mono fun e w' ⟨h1, h2⟩ => ⟨h1, h.next h2, Chg.of_below h2 _⟩

set_option maxRecDepth 100000 in
theorem mod_any (x : Int) (n : Nat) (hn : 0 < n) (hmx : n ≤ 4611686018427387904) (w : World) :
    Calls Try.prog 10 #[.int .i64 x, .int .i64 n] w fun e w' => (∃ r : Nat, r < n ∧ e = .returned (.int .i64 r)) ∧ w = w' := by
  go_enter Try.func10, Try.ntmps10
  have h1 := Int.tmod_add_mul_tdiv x n
  have hn' : (0 : Int) < n := by omega
  have h2 : x.tmod n < n := Int.tmod_lt_of_pos x hn'
  have h3 : -(n : Int) < x.tmod n := by
    have := Int.tmod_lt_of_pos (-x) hn'
    rw [Int.neg_tmod] at this
    omega
  clear h1
  go_wp2
  · go_ret
    refine ⟨⟨(x.tmod n + n).toNat, ?_, ?_⟩, rfl⟩
    · generalize x.tmod n = r at *
      omega
    · generalize x.tmod n = r at *
      go_num
  · go_ret
    refine ⟨⟨(x.tmod n).toNat, ?_, ?_⟩, rfl⟩
    · generalize x.tmod n = r at *
      omega
    · generalize x.tmod n = r at *
      go_num
end Go.Proofs.Ytglmhpmjebjcgaa
/- KeydirNoted: the law of the program, walked. -/
namespace Go.Proofs.Ytglmhpmjebjcgaa
open Go.RowKit Go.Maps

theorem row_cap {w : World} {B : Nat} {e : TypeId} {size n c : Nat} {b : Option Addr} {xs : List Value} (h : w.ownsRow B e size (.slice b n c) n xs) : n ≤ c := by
  by_cases h0 : n = 0
  · omega
  · obtain ⟨g, cap, hv, h1, _⟩ := Own.of_row h (by omega)
    injection hv with _ _ h2
    omega
theorem row_low {w : World} {B : Nat} {e : TypeId} {size n c : Nat} {b : Option Addr} {xs : List Value} (h : w.ownsRow B e size (.slice b n c) n xs) : ∀ ad, b = some ad → B ≤ ad.block := by
  intro ad e
  subst e
  rcases h.2 with ⟨h1, _⟩ | ⟨g, cap, cur, h1, h2, _⟩
  · cases h1
  · injection h1 with h1
    injection h1 with h1
    subst h1
    exact h2
theorem row_at {w : World} {B : Nat} {e : TypeId} {size n c : Nat} {b : Option Addr} {xs : List Value} (h : w.ownsRow B e size (.slice b n c) n xs) : ∀ ad, b = some ad → ad.block < w.heap.size := by
  intro ad e
  subst e
  exact (h.lt ad.block (by simp [Value.ownBlock])).2
theorem Rd.chg {S : Nat → Prop} {w w' : World} {B : Nat} {A : Option Addr} {xs : List Value} (h : Rd w B A xs) (hB : B ≤ w.heap.size) (hc : Chg S w w') (hn : ∀ ad, A = some ad → ¬ S ad.block) : Rd w' B A xs := by
  intro j u hu
  obtain ⟨ad, e, h1, h2⟩ := h j u hu
  refine ⟨ad, e, h1, ?_⟩
  rw [← h2]
  exact World.cell?_of_block (w := w) (by rw [add_block]; exact hc.block ad.block (by omega) (hn ad e))
theorem row_slice {w : World} {base : Nat} {e : TypeId} {size n : Nat} {v : Value} {xs : List Value} (h : w.ownsRow base e size v n xs) : ∃ b cap, v = .slice b n cap := by
  rcases h.2 with ⟨rfl, e⟩ | ⟨g, cap, _, rfl, _⟩
  · exact ⟨none, 0, by rw [e]⟩
  · exact ⟨_, _, rfl⟩
theorem row_rd' {w : World} {B : Nat} {e : TypeId} {size n c : Nat} {b : Option Addr} {xs : List Value} (h : w.ownsRow B e size (.slice b n c) n xs) : Rd w w.heap.size b xs := by
  obtain ⟨A, d, he, hr⟩ := row_rd h
  cases he
  exact hr
theorem addr_two (ad : Addr) (a b : Nat) : (ad.add a).add b = ad.add (a + b) := by
  by_cases ha : a = 0
  · subst ha; simp [Addr.add]
  · by_cases hb : b = 0
    · subst hb; simp [Addr.add, ha]
    · simp [Addr.add, ha, hb, Nat.add_assoc]
theorem nItems_size {l : List ByteArray} (h : ∀ x ∈ l, x.size ≤ maxLen) : ∀ x ∈ nItems l, x.1.size ≤ maxLen := by
  intro x hx
  obtain ⟨i, hi, rfl⟩ := nItems_mem hx
  exact h _ (List.getElem_mem hi)
theorem part_iff {bs m : List KE} {l : List KE} (r : Nat) (hr : r < m.length) (h : ∀ x, x ∈ bs ++ m ↔ x ∈ l) : ∀ x, x ∈ (bs ++ [m[r]]) ++ (m.take r ++ m.drop (r + 1)) ↔ x ∈ l := by
  intro x
  rw [← h x]
  have e : m = m.take r ++ m[r] :: m.drop (r + 1) := by rw [← List.drop_eq_getElem_cons hr, List.take_append_drop]
  conv => rhs; rw [e]
  simp only [List.mem_append, List.mem_cons, List.not_mem_nil, or_false]
  constructor
  · rintro ((h | h) | h | h) <;> simp [h]
  · rintro (h | h | h | h) <;> simp [h]
theorem one_ni (i : Nat) (k : ByteArray) : ∀ u ∈ keC (ni i k), u.oneCell' = true := by
  intro u hu
  exact one_ke [ni i k] u (by simpa using hu)
theorem Rd.part {w : World} {B : Nat} {A : Option Addr} {l : List KE} (h : Rd w B A (l.flatMap keC)) (r : Nat) : Rd w B A ((l.take r).flatMap keC) := by
  intro j u hu
  refine h j u ?_
  have e : l.flatMap keC = (l.take r).flatMap keC ++ (l.drop r).flatMap keC := by rw [← List.flatMap_append, List.take_append_drop]
  rw [e, List.getElem?_append_left (List.getElem?_eq_some_iff.1 hu).1]
  exact hu
theorem Rd.rest {w : World} {B : Nat} {ad : Addr} {l : List KE} (h : Rd w B (some ad) (l.flatMap keC)) (r : Nat) (hr : r ≤ l.length) : Rd w B (some (ad.add (r * 7))) ((l.drop r).flatMap keC) := by
  intro j u hu
  have e : l.flatMap keC = (l.take r).flatMap keC ++ (l.drop r).flatMap keC := by rw [← List.flatMap_append, List.take_append_drop]
  obtain ⟨ad', e1, h1, h2⟩ := h (r * 7 + j) u (by
    rw [e, List.getElem?_append_right (by rw [keC_len, List.length_take]; omega), keC_len, List.length_take, Nat.min_eq_left hr, Nat.add_sub_cancel_left]
    exact hu)
  cases e1
  refine ⟨_, rfl, by rw [add_block]; exact h1, ?_⟩
  rw [← h2, addr_two]

end Go.Proofs.Ytglmhpmjebjcgaa
