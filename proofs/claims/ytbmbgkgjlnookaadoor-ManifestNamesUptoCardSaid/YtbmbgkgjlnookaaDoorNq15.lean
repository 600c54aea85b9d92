import Derived.Test.YtbmbgkgjlnookaaDoorNq14
/- ManifestNames: the law, walked. -/
namespace Go.Proofs.YtbmbgkgjlnookaaDoor
open Go.Shelf Go.RowKit

set_option maxRecDepth 100000 in
set_option maxHeartbeats 4000000 in
theorem names_law (k id seg : Int) (t : Bool) (s : List UInt8) (w : World) (E : Env w) (hs : s.length ≤ 1048576) :
    Calls Tryd.prog 3 #[.agg #[.int .i64 k, .int .i64 id, .int .i64 seg, .bool t], .string ⟨s.toArray⟩] w fun e w' => e = .returned (.bool true) ∧ Below w.heap.size w w' := by
  have C1 := Lib.hid (nameM_any k id seg t)
  have C2 := Lib.hid (nameR_any k id seg t)
  have C3 := Lib.hid (fun W E => parseM_any s W E hs)
  have C4 := Lib.hid (fun W => parseR_any s hs W)
  rw [← parse_same] at C4
  generalize nameN ⟨k, id, seg, t⟩ = nm at C1 C2
  generalize hpv : parseP s = pv at C3 C4
  obtain ⟨k2, id2, seg2, t2⟩ := pv
  simp only [FN.v] at C3 C4
  obtain ⟨NM, hNM⟩ : ∃ S : ByteArray, (⟨nm.toArray⟩ : ByteArray) = S := ⟨_, rfl⟩
  obtain ⟨S, hS⟩ : ∃ S : ByteArray, (⟨s.toArray⟩ : ByteArray) = S := ⟨_, rfl⟩
  rw [hNM] at C1 C2
  rw [hS] at C3 C4
  rw [hS]
  clear hS hNM hpv hs
  have EE := Lib.hid E
  clear E
  go_enter Tryd.func3, Tryd.ntmps3
  go_upto_region 1 with go_in
  have hb0 := Below.al w (.cells #[.int .i64 k, .int .i64 id, .int .i64 seg, .bool t] 23)
  have hx0 := Box.new w 23 #[.int .i64 k, .int .i64 id, .int .i64 seg, .bool t]
  have hs : Below w.heap.size w (w.alloc (.cells #[.int .i64 k, .int .i64 id, .int .i64 seg, .bool t] 23)).drew ∧ (w.alloc (.cells #[.int .i64 k, .int .i64 id, .int .i64 seg, .bool t] 23)).drew.cell? ⟨w.heap.size, 0, none⟩ = some (.int .i64 k) ∧ (w.alloc (.cells #[.int .i64 k, .int .i64 id, .int .i64 seg, .bool t] 23)).drew.cell? ⟨w.heap.size, 1, none⟩ = some (.int .i64 id) ∧ (w.alloc (.cells #[.int .i64 k, .int .i64 id, .int .i64 seg, .bool t] 23)).drew.cell? ⟨w.heap.size, 2, none⟩ = some (.int .i64 seg) ∧ (w.alloc (.cells #[.int .i64 k, .int .i64 id, .int .i64 seg, .bool t] 23)).drew.cell? ⟨w.heap.size, 3, none⟩ = some (.bool t) := ⟨⟨hb0.os, hb0.tape, hb0.output, hb0.size, hb0.block⟩, hx0.cell 0, hx0.cell 1, hx0.cell 2, hx0.cell 3⟩
  have hlt : w.heap.size < (w.alloc (.cells #[.int .i64 k, .int .i64 id, .int .i64 seg, .bool t] 23)).drew.heap.size := hx0.lt
  have hs : w.heap.size < (w.alloc (.cells #[.int .i64 k, .int .i64 id, .int .i64 seg, .bool t] 23)).drew.heap.size ∧ Below w.heap.size w (w.alloc (.cells #[.int .i64 k, .int .i64 id, .int .i64 seg, .bool t] 23)).drew ∧ (w.alloc (.cells #[.int .i64 k, .int .i64 id, .int .i64 seg, .bool t] 23)).drew.cell? ⟨w.heap.size, 0, none⟩ = some (.int .i64 k) ∧ (w.alloc (.cells #[.int .i64 k, .int .i64 id, .int .i64 seg, .bool t] 23)).drew.cell? ⟨w.heap.size, 1, none⟩ = some (.int .i64 id) ∧ (w.alloc (.cells #[.int .i64 k, .int .i64 id, .int .i64 seg, .bool t] 23)).drew.cell? ⟨w.heap.size, 2, none⟩ = some (.int .i64 seg) ∧ (w.alloc (.cells #[.int .i64 k, .int .i64 id, .int .i64 seg, .bool t] 23)).drew.cell? ⟨w.heap.size, 3, none⟩ = some (.bool t) := ⟨hlt, hs⟩
  clear hb0 hx0 hlt
  have T1 := Lib.hid True.intro
  have keep : ∀ {W W' : World}, (w.heap.size < W.heap.size ∧ Below w.heap.size w W ∧ W.cell? ⟨w.heap.size, 0, none⟩ = some (.int .i64 k) ∧ W.cell? ⟨w.heap.size, 1, none⟩ = some (.int .i64 id) ∧ W.cell? ⟨w.heap.size, 2, none⟩ = some (.int .i64 seg) ∧ W.cell? ⟨w.heap.size, 3, none⟩ = some (.bool t)) → Below W.heap.size W W' → (w.heap.size < W'.heap.size ∧ Below w.heap.size w W' ∧ W'.cell? ⟨w.heap.size, 0, none⟩ = some (.int .i64 k) ∧ W'.cell? ⟨w.heap.size, 1, none⟩ = some (.int .i64 id) ∧ W'.cell? ⟨w.heap.size, 2, none⟩ = some (.int .i64 seg) ∧ W'.cell? ⟨w.heap.size, 3, none⟩ = some (.bool t)) := by
    rintro W W' ⟨hl, hb, h0, h1, h2, h3⟩ hb1
    exact ⟨Nat.lt_of_lt_of_le hl hb1.size, hb.trans (hb1.mono hb.size), (hb1.cell (p := ⟨_, 0, none⟩) hl).trans h0, (hb1.cell (p := ⟨_, 1, none⟩) hl).trans h1, (hb1.cell (p := ⟨_, 2, none⟩) hl).trans h2, (hb1.cell (p := ⟨_, 3, none⟩) hl).trans h3⟩
  go_region_held3 (fun w' => w.heap.size < w'.heap.size ∧ Below w.heap.size w w' ∧ w'.cell? ⟨w.heap.size, 0, none⟩ = some (.int .i64 k) ∧ w'.cell? ⟨w.heap.size, 1, none⟩ = some (.int .i64 id) ∧ w'.cell? ⟨w.heap.size, 2, none⟩ = some (.int .i64 seg) ∧ w'.cell? ⟨w.heap.size, 3, none⟩ = some (.bool t))
    (first | with_reducible exact hs)
    (first
      | (go_at_call 5
         have z0 := T1
         clear z0
         refine (C1.out _ (EE.out.below hs.2.1).tab).mono ?_
         rintro e w1 ⟨rfl, hb⟩
         have hn := keep hs hb
         clear hs
         have hs := hn
         have T2 := T1
         clear T1 hn hb)
      | (go_at_call 6
         have z0 := T2
         clear z0
         refine (C2.out _).mono ?_
         rintro e w2 ⟨rfl, hb⟩
         have hn := keep hs hb
         clear hs
         have hs := hn
         have T3 := T2
         clear T2 hn hb)
      | (go_at_call 7
         have z0 := T3
         clear z0
         refine (C3.out _ (EE.out.below hs.2.1)).mono ?_
         rintro e w3 ⟨rfl, hb⟩
         have hn := keep hs hb
         clear hs
         have hs := hn
         have T4 := T3
         clear T3 hn hb)
      | (go_at_call 8
         have z0 := T4
         clear z0
         refine (C4.out _).mono ?_
         rintro e w4 ⟨rfl, hb⟩
         have hn := keep hs hb
         clear hs
         have hs := hn
         have T5 := T4
         clear T4 hn hb))
  have hbe := hs.2.1
  clear hs keep
  go_wp2
  go_ret
  exact ⟨rfl, hbe⟩
end Go.Proofs.YtbmbgkgjlnookaaDoor
