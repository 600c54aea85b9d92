import Derived.Test.YtociadicjbkjcaaKd12
import Derived.Test.YtociadicjbkjcaaKd14
/- A dir without keys, there or not: what it answers. -/
namespace Go.Proofs.Ytociadicjbkjcaa
open Go.RowKit Go.Maps

theorem flat0 : Tn.leaf.flat = [] := rfl
theorem sorted0 : Sorted [] := List.Pairwise.nil
theorem keys0 : KeysOk [] := fun x hx => by cases hx
theorem tr0 (w : World) : Tr w w.heap.size .leaf none := rfl

set_option maxRecDepth 100000 in
set_option maxHeartbeats 4000000 in
theorem get_dt (dp : Option Addr) (key : ByteArray) (w : World) (h : DTop w dp none) (hz : key.size ≤ maxLen) :
    Calls Try.prog 14 #[.pointer dp, .string key] w fun e w' => e = .returned (.tuple #[En.zero.v, .bool false]) ∧ Below w.heap.size w w' := by
  have hb0 : Below w.heap.size w (w.alloc (.cells #[.int .i64 0, .int .i64 0, .int .i64 0, .int .i64 0, .int .i64 0, .bool false] 26)) := (Below.refl _ _).alloc (Nat.le_refl _) _
  have HX := Lib.hid (Box.new w 26 #[.int .i64 0, .int .i64 0, .int .i64 0, .int .i64 0, .int .i64 0, .bool false])
  have HB := Lib.hid hb0
  have H := Lib.hid (h.below hb0)
  clear h hb0
  go_enter Try.func14, Try.ntmps14
  go_wp2_with (first
    | (go_at_call 38; refine (top_dt H.out).mono ?_; rintro e w' ⟨rfl, rfl⟩)
    | (go_at_call 37; refine (find_any .leaf none key _ (tr0 _) sorted0 keys0 hz).mono ?_; rintro e w1 ⟨hf, nq, rfl⟩; obtain rfl := hf.none_ rfl; clear hf; generalize hW1 : World.drewN _ _ = W1; have hb1 : Below w.heap.size w W1 := (by rw [← hW1]; exact below_drewN HB.out _); have hX1 : Box W1 w.heap.size 26 #[.int .i64 0, .int .i64 0, .int .i64 0, .int .i64 0, .int .i64 0, .bool false] := (by rw [← hW1]; exact HX.out); have hxc := hX1.cell; have hxf := hX1.free; have HB1 := Lib.hid hb1; clear hb1 hX1 hW1))
  refine bodyPost_ret (v := .tuple #[En.zero.v, .bool false]) ?_ rfl ?_
  · simp [results, Try.results14, go_sem, hxc, En.zero]
  refine ⟨rfl, ?_⟩
  repeat (first | with_reducible exact HB1.out | refine Below.setCell ?_ (by simp) _)

set_option maxRecDepth 100000 in
set_option maxHeartbeats 4000000 in
theorem rem_dt (dp : Option Addr) (key : ByteArray) (w : World) (h : DTop w dp none) (hz : key.size ≤ maxLen) :
    Calls Try.prog 19 #[.pointer dp, .string key] w fun e w' => e = .returned (.tuple #[En.zero.v, .bool false]) ∧ Below w.heap.size w w' := by
  have hb0 : Below w.heap.size w (w.alloc (.cells #[.int .i64 0, .int .i64 0, .int .i64 0, .int .i64 0, .int .i64 0, .bool false] 26)) := (Below.refl _ _).alloc (Nat.le_refl _) _
  have hX0 := Box.new w 26 #[.int .i64 0, .int .i64 0, .int .i64 0, .int .i64 0, .int .i64 0, .bool false]
  have H := Lib.hid (And.intro hb0 (And.intro hX0 (h.below hb0)))
  clear h hb0 hX0
  generalize hoz : En.zero = o
  have HOZ := Lib.hid hoz
  clear hoz
  go_enter Try.func19, Try.ntmps19
  go_wp2_with (first
    | (go_at_call 14
       refine (get_dt dp key _ H.out.2.2 hz).mono ?_
       rintro e w1 ⟨rfl, hb1⟩
       rw [HOZ.out]
       have hq1 := H.out.2.1.below hb1 H.out.2.1.lt
       have hc1 := hq1.cell
       have hf1 := hq1.free
       have hl1 := hq1.lt
       have H1 := Lib.hid (And.intro (H.out.1.trans (hb1.mono H.out.1.size)) hq1)
       clear hb1 hq1))
  have hbx := (box6 H1.out.2 (.int .i64 o.seg) (.int .i64 o.at_) (.int .i64 o.size) (.int .i64 o.off) (.int .i64 o.time) (.bool o.tomb)).alloc (.cells #[.int .i64 o.seg, .int .i64 o.at_, .int .i64 o.size, .int .i64 o.off, .int .i64 o.time, .bool o.tomb] 26)
  have hbl : Below w.heap.size w (((((((w1.setCell ⟨w.heap.size, 0, none⟩ (.int .i64 o.seg)).setCell ⟨w.heap.size, 1, none⟩ (.int .i64 o.at_)).setCell ⟨w.heap.size, 2, none⟩ (.int .i64 o.size)).setCell ⟨w.heap.size, 3, none⟩ (.int .i64 o.off)).setCell ⟨w.heap.size, 4, none⟩ (.int .i64 o.time)).setCell ⟨w.heap.size, 5, none⟩ (.bool o.tomb)).alloc (.cells #[.int .i64 o.seg, .int .i64 o.at_, .int .i64 o.size, .int .i64 o.off, .int .i64 o.time, .bool o.tomb] 26)) :=
    ((((((H1.out.1.setCell (p := ⟨w.heap.size, 0, none⟩) (Nat.le_refl _) _).setCell (p := ⟨w.heap.size, 1, none⟩) (Nat.le_refl _) _).setCell (p := ⟨w.heap.size, 2, none⟩) (Nat.le_refl _) _).setCell (p := ⟨w.heap.size, 3, none⟩) (Nat.le_refl _) _).setCell (p := ⟨w.heap.size, 4, none⟩) (Nat.le_refl _) _).setCell (p := ⟨w.heap.size, 5, none⟩) (Nat.le_refl _) _).alloc (by simp; omega) _
  generalize hWx : ((((((w1.setCell ⟨w.heap.size, 0, none⟩ (.int .i64 o.seg)).setCell ⟨w.heap.size, 1, none⟩ (.int .i64 o.at_)).setCell ⟨w.heap.size, 2, none⟩ (.int .i64 o.size)).setCell ⟨w.heap.size, 3, none⟩ (.int .i64 o.off)).setCell ⟨w.heap.size, 4, none⟩ (.int .i64 o.time)).setCell ⟨w.heap.size, 5, none⟩ (.bool o.tomb)).alloc (.cells #[.int .i64 o.seg, .int .i64 o.at_, .int .i64 o.size, .int .i64 o.off, .int .i64 o.time, .bool o.tomb] 26) = Wx at hbx hbl ⊢
  have hbc := hbx.cell
  clear hWx hbx hc1 hf1
  refine bodyPost_ret (v := .tuple #[o.v, .bool false]) ?_ rfl ⟨rfl, hbl⟩
  simp [results, Try.results19, go_sem, hbc]

set_option maxRecDepth 100000 in
set_option maxHeartbeats 4000000 in
theorem point_dt (dp : Option Addr) (key : ByteArray) (off seg at_ : Int) (w : World) (h : DTop w dp none) (hz : key.size ≤ maxLen) :
    Calls Try.prog 22 #[.pointer dp, .string key, .int .i64 off, .int .i64 seg, .int .i64 at_] w fun e w' => e = .returned (.bool false) ∧ Below w.heap.size w w' := by
  have H := Lib.hid h
  clear h
  go_enter Try.func22, Try.ntmps22
  go_wp2_with (first
    | (go_at_call 14
       refine (get_dt dp key _ H.out hz).mono ?_
       rintro e w1 ⟨rfl, hb1⟩
       have H1 := Lib.hid hb1
       clear hb1))
  go_ret
  exact ⟨rfl, H1.out.alloc H1.out.size _⟩

set_option maxRecDepth 100000 in
theorem count0 (w : World) : Calls Try.prog 40 #[.pointer none] w fun e w' => e = .returned (.int .i64 0) ∧ w = w' := by
  go_enter Try.func40, Try.ntmps40
  go_wp2
  go_ret
  exact ⟨rfl, rfl⟩
set_option maxRecDepth 100000 in
set_option maxHeartbeats 4000000 in
theorem len_dt (dp : Option Addr) (w : World) (h : DTop w dp none) :
    Calls Try.prog 23 #[.pointer dp] w fun e w' => e = .returned (.int .i64 0) ∧ w = w' := by
  go_enter Try.func23, Try.ntmps23
  go_wp2_with (first
    | (go_at_call 38; refine (top_dt h).mono ?_; rintro e w' ⟨rfl, rfl⟩)
    | (go_at_call 40; refine (count0 _).mono ?_; rintro e w' ⟨rfl, rfl⟩))
  go_ret
  exact ⟨rfl, rfl⟩
set_option maxRecDepth 100000 in
set_option maxHeartbeats 4000000 in
theorem rank_dt (dp : Option Addr) (key : ByteArray) (w : World) (h : DTop w dp none) :
    Calls Try.prog 26 #[.pointer dp, .string key] w fun e w' => e = .returned (.int .i64 0) ∧ w = w' := by
  go_enter Try.func26, Try.ntmps26
  go_wp2_with (first
    | (go_at_call 38; refine (top_dt h).mono ?_; rintro e w' ⟨rfl, rfl⟩))
  go_loopw [5, 6] (fun s v wr => s = .int .i64 0 ∧ v = .pointer none ∧ wr = w') (fun _ _ _ => 0)
  case atStart => exact ⟨rfl, rfl, rfl⟩
  case round =>
    obtain ⟨rfl, rfl, rfl⟩ := hrel
    go_wp2
    go_ret
    exact ⟨rfl, rfl⟩
set_option maxRecDepth 100000 in
set_option maxHeartbeats 4000000 in
theorem nth_dt (dp : Option Addr) (at_ : Int) (w : World) (h : DTop w dp none) (h0 : 0 ≤ at_) :
    Calls Try.prog 25 #[.pointer dp, .int .i64 at_] w fun e w' => e = .returned (.tuple #[.agg #[.string ⟨#[]⟩, .int .i64 0, .int .i64 0, .int .i64 0, .int .i64 0, .int .i64 0, .bool false], .bool false]) ∧ Below w.heap.size w w' := by
  have hb0 : Below w.heap.size w (w.alloc (.cells #[.string ⟨#[]⟩, .int .i64 0, .int .i64 0, .int .i64 0, .int .i64 0, .int .i64 0, .bool false] 28)) := (Below.refl _ _).alloc (Nat.le_refl _) _
  have hX0 := Box.new w 28 #[.string ⟨#[]⟩, .int .i64 0, .int .i64 0, .int .i64 0, .int .i64 0, .int .i64 0, .bool false]
  have H := Lib.hid (And.intro hb0 (And.intro hX0 (h.below hb0)))
  clear h hb0 hX0
  go_enter Try.func25, Try.ntmps25
  go_wp2_with (first
    | (go_at_call 38; refine (top_dt H.out.2.2).mono ?_; rintro e w' ⟨rfl, rfl⟩))
  go_loopw [6] (fun v wr => v = .pointer none ∧ Below w.heap.size w wr ∧ Box wr w.heap.size 28 #[.string ⟨#[]⟩, .int .i64 0, .int .i64 0, .int .i64 0, .int .i64 0, .int .i64 0, .bool false]) (fun _ _ => 0)
  case atStart => exact ⟨rfl, H.out.1, H.out.2.1⟩
  case round =>
    obtain ⟨rfl, hb, hx⟩ := hrel
    have hxc := hx.cell
    have hxf := hx.free
    have hxl := hx.lt
    have H1 := Lib.hid hb
    clear hb hx H
    go_wp2
    refine bodyPost_ret (v := .tuple #[.agg #[.string ⟨#[]⟩, .int .i64 0, .int .i64 0, .int .i64 0, .int .i64 0, .int .i64 0, .bool false], .bool false]) ?_ rfl ?_
    · simp [results, Try.results25, go_sem, hxc]
    refine ⟨rfl, ?_⟩
    repeat (first | with_reducible exact H1.out | refine Below.setCell ?_ (by simp) _)
theorem row_rd0 {w : World} {B : Nat} {e : TypeId} {size n : Nat} {v : Value} {xs : List Value} (h : w.ownsRow B e size v n xs) : ∃ (A : Option Addr) (c : Nat), v = .slice A n c ∧ True := by
  rcases h.2 with ⟨rfl, e⟩ | ⟨g, cap, _, rfl, _⟩
  · exact ⟨none, 0, by rw [e], trivial⟩
  · exact ⟨_, _, rfl, trivial⟩
theorem range_dt (dp : Option Addr) (w : World) (h : DTop w dp none) :
    Calls Try.prog 16 #[.pointer dp, .string ⟨#[]⟩, .string ⟨#[]⟩, .int .i64 9] w fun e w' => (∃ A c, e = .returned (.slice A 0 c)) ∧ Below w.heap.size w w' :=
  (range_any dp none .leaf ⟨#[]⟩ ⟨#[]⟩ 9 w (Nat.zero_le _) (Nat.zero_le _) sorted0 keys0 (tr0 _) h (Nat.zero_le _) (by omega) (by omega)).mono fun e w' ⟨v, h1, h2, h3⟩ => by
    obtain ⟨A, c, rfl, _⟩ := row_rd0 h2
    exact ⟨⟨A, c, h1⟩, h3⟩
end Go.Proofs.Ytociadicjbkjcaa
