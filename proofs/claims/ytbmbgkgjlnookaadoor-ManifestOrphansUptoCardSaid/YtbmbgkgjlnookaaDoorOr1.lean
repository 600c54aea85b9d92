import Derived.Test.YtbmbgkgjlnookaaDoorNq12
import Derived.Test.YtbmbgkgjlnookaaDoorNq14
import Derived.Test.YtbmbgkgjlnookaaDoorOMan14
/- ManifestOrphans: which files belong to nothing, as plain functions; the two closures. -/
namespace Go.Proofs.YtbmbgkgjlnookaaDoor
open Go.RowKit Go.Maps

/-- What the program's map of a topic's segments tells: 2 for the last, 1 for another, 0 for none. -/
def markG (l : List Int) (k : Nat) (x : Int) : Int := if k = l.length ∧ l.getLast? = some x then 2 else if x ∈ l.take k then 1 else 0
def markP (l : List Int) (x : Int) : Int := markG l l.length x
/-- What the program's map of a catalogue's topics tells. -/
def knowG (l : List Int) (x : Int) : Int := if x ∈ l then 1 else 0
def orphP (id : Int) (segs : List Int) (n : FN) : Bool :=
  if n.k = 0 ∨ n.k = 4 ∨ n.id ≠ id then false
  else if n.t then true
  else if n.k = 1 then (markP segs n.seg == 0)
  else if n.k = 2 then (markP segs n.seg != 1)
  else false
def strP (ids : List Int) (n : FN) : Bool :=
  if n.k = 0 then false else if n.k = 4 then n.t else (knowG ids n.id == 0) && decide (0 < n.id)
/-- Numbers as a parsed name has them. -/
structure FN.Ok (n : FN) : Prop where
  k0 : 0 ≤ n.k
  k4 : n.k ≤ 4
  i0 : 0 ≤ n.id
  i1 : n.id < 1073741824
  s0 : 0 ≤ n.seg
  s1 : n.seg < 1073741824
theorem parse_ok (s : List UInt8) : (parseP s).Ok := by
  rcases parseP_says s with h | ⟨h0, h1⟩
  · rw [h]; exact ⟨by decide, by decide, by decide, by decide, by decide, by decide⟩
  · obtain ⟨_, _, h⟩ := name_cases h1 h0
    rcases h with ⟨k, i, g, _⟩ | ⟨k, i, g, _⟩ | ⟨k, i, g, _⟩ | ⟨k, i, g, _⟩
    · have := i.1; have := i.2; have := g.1; have := g.2; exact ⟨by omega, by omega, by omega, by omega, by omega, by omega⟩
    · have := i.1; have := i.2; have := g.1; have := g.2; exact ⟨by omega, by omega, by omega, by omega, by omega, by omega⟩
    · have := i.1; have := i.2; exact ⟨by omega, by omega, by omega, by omega, by omega, by omega⟩
    · exact ⟨by omega, by omega, by omega, by omega, by omega, by omega⟩
theorem wf_small {x : Int} (h0 : 0 ≤ x) (h1 : x < 1073741824) : (Lit.int .i64 x).wf = true := by
  simp [Lit.wf, IntKind.min, IntKind.max, IntKind.signed, IntKind.bits]
  omega
set_option maxRecDepth 100000 in
set_option maxHeartbeats 2000000 in
theorem orph_ask (n : FN) (hn : n.Ok) (id a b c d : Int) (p q : Value) (segs : List Int) (bm bn mb N : Nat) (f : Int → Int) (W : World)
    (hm : Box W bm 31 #[.int .i64 id, .int .i64 a, .int .i64 b, .int .i64 c, .int .i64 d, p, q]) (hc : Box W bn 63 #[.map (some mb)])
    (hI : IMap Tryd.prog 3 3 W mb N f) (hf : ∀ x, f x = markP segs x) :
    Calls Tryd.prog 33 #[FN.v n, .pointer (some ⟨bm, 0, none⟩), .pointer (some ⟨bn, 0, none⟩)] W fun e w' => e = .returned (.bool (orphP id segs n)) ∧ Below W.heap.size W w' := by
  obtain ⟨k, i, s, t⟩ := n
  have hk0 := hn.k0
  have hk4 := hn.k4
  have hl := (hI.below (Below.al W (.cells #[.int .i64 k, .int .i64 i, .int .i64 s, .bool t] 23))).look Tryd.underlying3 Tryd.underlying3 (T := 63) Tryd.underlying63 (zero_int _) s (wf_small hn.s0 hn.s1)
  rw [hf] at hl
  have hm1 := hm.alloc (.cells #[.int .i64 k, .int .i64 i, .int .i64 s, .bool t] 23)
  have hc1 := hc.alloc (.cells #[.int .i64 k, .int .i64 i, .int .i64 s, .bool t] 23)
  have x1 := hm1.cell
  have x2 := hc1.cell
  have y1 := hm.lt
  have y2 := hc.lt
  simp only at hk0 hk4
  unfold FN.v
  have HN := Lib.hid hn
  clear hm hc hI hf hm1 hc1 hn
  generalize hmk : markP segs s = mk at hl
  have HM := Lib.hid hmk
  clear hmk
  by_cases h0 : k = 0
  · subst h0
    have R := Lib.hid (show (false : Bool) = orphP id segs ⟨0, i, s, t⟩ by unfold orphP; simp)
    clear hk0 hk4
    go_enter Tryd.func33, Tryd.ntmps33
    go_wp2
    all_goals go_ret
    all_goals exact ⟨ret_bool R.out, Below.al _ _⟩
  by_cases h4 : k = 4
  · subst h4
    have R := Lib.hid (show (false : Bool) = orphP id segs ⟨4, i, s, t⟩ by unfold orphP; simp)
    clear hk0 hk4 h0
    go_enter Tryd.func33, Tryd.ntmps33
    go_wp2
    all_goals go_ret
    all_goals exact ⟨ret_bool R.out, Below.al _ _⟩
  by_cases hi : i = id
  case neg =>
    have R := Lib.hid (show (false : Bool) = orphP id segs ⟨k, i, s, t⟩ by unfold orphP; simp [hi])
    clear hk0 hk4
    have b0 : (k == 0) = false := by simpa using h0
    have b4 : (k == 4) = false := by simpa using h4
    have bi : (i != id) = true := by simpa using hi
    go_enter Tryd.func33, Tryd.ntmps33
    go_wp2
    all_goals go_ret
    all_goals exact ⟨ret_bool R.out, Below.al _ _⟩
  subst hi
  cases t with
  | true =>
    have R := Lib.hid (show (true : Bool) = orphP i segs ⟨k, i, s, true⟩ by unfold orphP; simp [h0, h4])
    clear hk0 hk4
    have b0 : (k == 0) = false := by simpa using h0
    have b4 : (k == 4) = false := by simpa using h4
    have bi : (i != i) = false := by simp
    go_enter Tryd.func33, Tryd.ntmps33
    go_wp2
    all_goals go_ret
    all_goals exact ⟨ret_bool R.out, Below.al _ _⟩
  | false =>
    rcases (show k = 1 ∨ k = 2 ∨ k = 3 by omega) with rfl | rfl | rfl
    · have R := Lib.hid (show (mk == 0) = orphP i segs ⟨1, i, s, false⟩ by rw [← HM.out]; unfold orphP; simp)
      clear hk0 hk4 h0 h4
      have bi : (i != i) = false := by simp
      go_enter Tryd.func33, Tryd.ntmps33
      go_wp2
      all_goals go_ret
      all_goals exact ⟨ret_bool R.out, Below.al _ _⟩
    · have R := Lib.hid (show (mk != 1) = orphP i segs ⟨2, i, s, false⟩ by rw [← HM.out]; unfold orphP; simp)
      clear hk0 hk4 h0 h4
      have bi : (i != i) = false := by simp
      go_enter Tryd.func33, Tryd.ntmps33
      go_wp2
      all_goals go_ret
      all_goals exact ⟨ret_bool R.out, Below.al _ _⟩
    · have R := Lib.hid (show (false : Bool) = orphP i segs ⟨3, i, s, false⟩ by unfold orphP; simp)
      clear hk0 hk4 h0 h4
      have bi : (i != i) = false := by simp
      go_enter Tryd.func33, Tryd.ntmps33
      go_wp2
      all_goals go_ret
      all_goals exact ⟨ret_bool R.out, Below.al _ _⟩
set_option maxRecDepth 100000 in
set_option maxHeartbeats 2000000 in
theorem str_ask (n : FN) (hn : n.Ok) (ids : List Int) (bn mb N : Nat) (f : Int → Int) (W : World)
    (hc : Box W bn 63 #[.map (some mb)])
    (hI : IMap Tryd.prog 3 3 W mb N f) (hf : ∀ x, f x = knowG ids x) :
    Calls Tryd.prog 34 #[FN.v n, .pointer (some ⟨bn, 0, none⟩)] W fun e w' => e = .returned (.bool (strP ids n)) ∧ Below W.heap.size W w' := by
  obtain ⟨k, i, s, t⟩ := n
  have hl := (hI.below (Below.al W (.cells #[.int .i64 k, .int .i64 i, .int .i64 s, .bool t] 23))).look Tryd.underlying3 Tryd.underlying3 (T := 63) Tryd.underlying63 (zero_int _) i (wf_small hn.i0 hn.i1)
  rw [hf] at hl
  have hc1 := hc.alloc (.cells #[.int .i64 k, .int .i64 i, .int .i64 s, .bool t] 23)
  have x2 := hc1.cell
  have y2 := hc.lt
  unfold FN.v
  clear hc hI hf hc1 hn
  generalize hmk : knowG ids i = mk at hl
  have HM := Lib.hid hmk
  clear hmk
  by_cases h0 : k = 0
  · subst h0
    have R := Lib.hid (show (false : Bool) = strP ids ⟨0, i, s, t⟩ by unfold strP; simp)
    go_enter Tryd.func34, Tryd.ntmps34
    go_wp2
    all_goals go_ret
    all_goals exact ⟨ret_bool R.out, Below.al _ _⟩
  by_cases h4 : k = 4
  · subst h4
    have R := Lib.hid (show t = strP ids ⟨4, i, s, t⟩ by unfold strP; simp)
    clear h0
    go_enter Tryd.func34, Tryd.ntmps34
    go_wp2
    all_goals go_ret
    all_goals exact ⟨ret_bool R.out, Below.al _ _⟩
  have R := Lib.hid (show ((mk == 0) && decide (0 < i)) = strP ids ⟨k, i, s, t⟩ by rw [← HM.out]; unfold strP; simp [h0, h4])
  by_cases hz : mk = 0
  · have hz2 : (mk == 0) = true := by simpa using hz
    rw [hz2, Bool.true_and] at R
    go_enter Tryd.func34, Tryd.ntmps34
    go_wp2
    all_goals go_ret
    all_goals exact ⟨ret_bool R.out, Below.al _ _⟩
  · have hz2 : (mk == 0) = false := by simpa using hz
    rw [hz2, Bool.false_and] at R
    go_enter Tryd.func34, Tryd.ntmps34
    go_wp2
    all_goals go_ret
    all_goals exact ⟨ret_bool R.out, Below.al _ _⟩
end Go.Proofs.YtbmbgkgjlnookaaDoor
