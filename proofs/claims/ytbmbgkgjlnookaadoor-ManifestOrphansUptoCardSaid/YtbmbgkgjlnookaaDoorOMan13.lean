import Derived.Test.YtbmbgkgjlnookaaDoorOMan12
namespace Go.Proofs.YtbmbgkgjlnookaaDoor
open Go.RowKit Go.Maps

set_option maxRecDepth 100000 in
set_option maxHeartbeats 4000000 in
theorem sameMan_eq (id ns nx mk cl : Int) (A A' B B' : Option Addr) (c c' d d' : Nat) (segs : List Int) (prods : List P3) (w : World) (hA : Rd w w.heap.size A (segs.map (.int .i64))) (hA' : Rd w w.heap.size A' (segs.map (.int .i64)))
    (hB : Rd w w.heap.size B (prods.flatMap tri)) (hB' : Rd w w.heap.size B' (prods.flatMap tri)) (hmx : segs.length ≤ maxLen) (hmy : prods.length ≤ maxLen) :
    Calls Tryd.prog 36 #[manV id ns nx mk cl (.slice A segs.length c) (.slice B prods.length d), manV id ns nx mk cl (.slice A' segs.length c') (.slice B' prods.length d')] w fun e w' =>
      e = .returned (.bool true) ∧ Below w.heap.size w w' := by
  unfold maxLen at hmx hmy
  go_enter Tryd.func36, Tryd.ntmps36
  go_wp2
  go_loopw [5] (fun i wr => ∃ (k : Nat), k ≤ segs.length ∧ i = .int .i64 k ∧ Below w.heap.size w wr ∧
      Box wr w.heap.size 31 #[.int .i64 id, .int .i64 ns, .int .i64 nx, .int .i64 mk, .int .i64 cl, .slice A segs.length c, .slice B prods.length d] ∧
      Box wr (w.heap.size + 1) 31 #[.int .i64 id, .int .i64 ns, .int .i64 nx, .int .i64 mk, .int .i64 cl, .slice A' segs.length c', .slice B' prods.length d'])
    (fun i _ => segs.length - (intOf i).toNat)
  case atStart =>
    refine ⟨0, Nat.zero_le _, rfl, ((Below.refl _ _).alloc (Nat.le_refl _) _).alloc (by simp) _, (Box.new w _ _).alloc _, ?_⟩
    simpa using Box.new (w.alloc (.cells #[.int .i64 id, .int .i64 ns, .int .i64 nx, .int .i64 mk, .int .i64 cl, .slice A segs.length c, .slice B prods.length d] 31)) 31 #[.int .i64 id, .int .i64 ns, .int .i64 nx, .int .i64 mk, .int .i64 cl, .slice A' segs.length c', .slice B' prods.length d']
  case round =>
    obtain ⟨k, hk, rfl, hb, hX, hY⟩ := hrel
    have hcx := hX.cell
    have hcy := hY.cell
    by_cases hlt : k < segs.length
    · have hk0 : (0 : Int) ≤ k := by omega
      have hk1 : (k : Int) < segs.length := by omega
      obtain ⟨ad, rfl, had, hca⟩ := (hA.below hb).int hlt
      obtain ⟨ad', rfl, had', hca'⟩ := (hA'.below hb).int hlt
      have H := Lib.hid (And.intro hb (And.intro hX hY))
      clear hb hX hY
      go_wp2
      go_quiet (fail)
      go_wp2
      go_roundw
      case rel => exact ⟨k + 1, by omega, by go_num, below_drewN H.out.1 _, H.out.2.1.drewN _, H.out.2.2.drewN _⟩
      case measure => simp [intOf]; omega
    · go_wp2
      go_loopw [6] (fun i wr => ∃ (k : Nat), k ≤ prods.length ∧ i = .int .i64 k ∧ Below w.heap.size w wr ∧
          Box wr w.heap.size 31 #[.int .i64 id, .int .i64 ns, .int .i64 nx, .int .i64 mk, .int .i64 cl, .slice A segs.length c, .slice B prods.length d] ∧
          Box wr (w.heap.size + 1) 31 #[.int .i64 id, .int .i64 ns, .int .i64 nx, .int .i64 mk, .int .i64 cl, .slice A' segs.length c', .slice B' prods.length d'])
        (fun i _ => prods.length - (intOf i).toNat)
      case atStart => exact ⟨0, Nat.zero_le _, rfl, hb, hX, hY⟩
      case round =>
        obtain ⟨m, hm, rfl, hb, hX, hY⟩ := hrel
        have hcx := hX.cell
        have hcy := hY.cell
        by_cases hlt : m < prods.length
        · have hk0 : (0 : Int) ≤ m := by omega
          have hk1 : (m : Int) < prods.length := by omega
          obtain ⟨ad, rfl, had, hca, hca2, hca3⟩ := (hB.below hb).tri_ hlt
          obtain ⟨ad', rfl, had', hcb, hcb2, hcb3⟩ := (hB'.below hb).tri_ hlt
          have H := Lib.hid (And.intro hb (And.intro hX hY))
          clear hb hX hY
          go_wp2
          go_quiet (fail)
          go_wp2
          go_roundw
          case rel => exact ⟨m + 1, by omega, by go_num, below_drewN H.out.1 _, H.out.2.1.drewN _, H.out.2.2.drewN _⟩
          case measure => simp [intOf]; omega
        · go_wp2
          go_ret
          exact ⟨rfl, hb⟩

set_option maxRecDepth 100000 in
set_option maxHeartbeats 4000000 in
theorem sameCat_eq (nid : Int) (A A' : Option Addr) (c c' : Nat) (l : List T4) (w : World) (hA : Rd w w.heap.size A (l.flatMap quad)) (hA' : Rd w w.heap.size A' (l.flatMap quad)) (hmx : l.length ≤ maxLen) :
    Calls Tryd.prog 37 #[catV nid (.slice A l.length c), catV nid (.slice A' l.length c')] w fun e w' =>
      e = .returned (.bool true) ∧ Below w.heap.size w w' := by
  unfold maxLen at hmx
  go_enter Tryd.func37, Tryd.ntmps37
  go_wp2
  go_loopw [5] (fun i wr => ∃ (k : Nat), k ≤ l.length ∧ i = .int .i64 k ∧ Below w.heap.size w wr ∧
      Box wr w.heap.size 34 #[.int .i64 nid, .slice A l.length c] ∧ Box wr (w.heap.size + 1) 34 #[.int .i64 nid, .slice A' l.length c'])
    (fun i _ => l.length - (intOf i).toNat)
  case atStart =>
    refine ⟨0, Nat.zero_le _, rfl, ((Below.refl _ _).alloc (Nat.le_refl _) _).alloc (by simp) _, (Box.new w _ _).alloc _, ?_⟩
    simpa using Box.new (w.alloc (.cells #[.int .i64 nid, .slice A l.length c] 34)) 34 #[.int .i64 nid, .slice A' l.length c']
  case round =>
    obtain ⟨k, hk, rfl, hb, hX, hY⟩ := hrel
    have hcx := hX.cell
    have hcy := hY.cell
    by_cases hlt : k < l.length
    · have hk0 : (0 : Int) ≤ k := by omega
      have hk1 : (k : Int) < l.length := by omega
      obtain ⟨ad, rfl, had, hca, hca2, hca3, hca4⟩ := (hA.below hb).quad_ hlt
      obtain ⟨ad', rfl, had', hcb, hcb2, hcb3, hcb4⟩ := (hA'.below hb).quad_ hlt
      have H := Lib.hid (And.intro hb (And.intro hX hY))
      clear hb hX hY
      go_wp2
      go_quiet (fail)
      go_wp2
      go_roundw
      case rel => exact ⟨k + 1, by omega, by go_num, below_drewN H.out.1 _, H.out.2.1.drewN _, H.out.2.2.drewN _⟩
      case measure => simp [intOf]; omega
    · go_wp2
      go_ret
      exact ⟨rfl, hb⟩
end Go.Proofs.YtbmbgkgjlnookaaDoor
