import Derived.Test.YtebeefkibbbkdaaSm17
import Derived.Test.YtebeefkibbbkdaaLayT
import Derived.Shelf.Sort.Plain
import Derived.Shelf.Slices.In.SortNone
import Derived.Maps.RangeWalk
import Derived.Sort.OwnSorted
/- The names of a directory, rising. -/
namespace Go.Proofs.Ytebeefkibbbkdaa
open Go.RowKit Go.Maps Go.Sort
open Go.Proofs (encStr)

theorem info_str : (Try.prog.info? 9).map (fun i => (i.zero, i.size, i.bytes)) = some (some (.string ByteArray.empty), 1, 16) := by kernel_rfl
/-- slices.Sort of a row of names of the call's own. -/
theorem sortStr {base : Nat} {v : Value} {ss : List (List UInt8)} {w : World} (h : w.ownsRow base 9 1 v ss.length (ss.map encStr)) (hz : ss.length < 4611686018427387904) :
    Calls Try.prog 83 #[v] w fun e w' => e = .returned (.tuple #[]) ∧ w'.ownsRow base 9 1 v ss.length ((ss.mergeSort fun x y => decide (x ≤ y)).map encStr) ∧ w.grownBy w' v.ownBlock := by
  by_cases h0 : ss = []
  · subst h0
    obtain ⟨b, c, rfl⟩ := row_slice h
    refine (Any.slices_Sort_string_none lays190 b c w).mono ?_
    rintro e w' ⟨rfl, rfl⟩
    exact ⟨rfl, by rw [List.mergeSort_nil]; exact h, World.grownBy.refl _ _⟩
  · rcases h.2 with ⟨_, hn⟩ | ⟨g, cap, cur, rfl, hbase, hb, h1, h2, h3, h4⟩
    · exact absurd (List.eq_nil_of_length_eq_zero hn) h0
    have hH : Holds encStr w g 0 ss.toArray := holds_of_block hb (by simpa using h4)
    refine (Any.slices_Sort_string lays190 g 0 cap ss w hH (Array.getElem?_eq_some_iff.1 hb).1 hz).mono ?_
    rintro e w' ⟨rfl, nn, os, rfl⟩
    exact ⟨rfl, ownsRow_sorted (by simp) hbase hb h1 h2 h3, grownBy_sorted _⟩
/-- The names that have come up. -/
def CollN (D : DataW Nat) (left : Lit → Bool) (ss : List (List UInt8)) : Prop := ss.Nodup ∧ (∀ kl, left kl = true → Maps.has D kl = true) ∧ ∀ x, x ∈ ss ↔ Maps.has D (.string x) = true ∧ left (.string x) = false
theorem CollN.start (D : DataW Nat) : CollN D (Maps.has D) [] := ⟨List.nodup_nil, fun _ h => h, fun x => ⟨fun h => (by cases h), fun ⟨h1, h2⟩ => by rw [h1] at h2; cases h2⟩⟩
theorem CollN.step {D : DataW Nat} {left : Lit → Bool} {ss : List (List UInt8)} (h : CollN D left ss) {x : List UInt8} (hl : left (.string x) = true) : CollN D (fun z => left z && !z.sameKey (.string x)) (ss ++ [x]) := by
  obtain ⟨h1, h2, h3⟩ := h
  have hn : x ∉ ss := fun hm => by
    have := ((h3 x).1 hm).2
    rw [hl] at this; cases this
  refine ⟨List.nodup_append.2 ⟨h1, by simp, fun a ha b hb => by simp at hb; subst hb; exact fun e => hn (e ▸ ha)⟩, fun kl hkl => ?_, fun y => ?_⟩
  · simp at hkl; exact h2 kl hkl.1
  · rw [List.mem_append, List.mem_singleton, h3 y]
    by_cases hy : y = x
    · subst hy
      simp [h2 _ hl, Lit.sameKey]
    · simp [hy, Lit.sameKey]
theorem CollN.done {w : World} {b : Nat} {D : DataW Nat} {l : List KE} {left : Lit → Bool} {ss : List (List UInt8)} (h : CollN D left ss) (hF : FD w b D l) (hs : Sorted l) (hl : ∀ kl, left kl = false) : ss.mergeSort (fun x y => decide (x ≤ y)) = l.map fun p => p.1.data.toList := by
  refine hF.keys hs (((List.perm_ext_iff_of_nodup h.1 ?_).2 fun x => ?_).trans (hF.perm hs))
  · exact (sorted_lt hs).imp fun h e => by rw [e] at h; exact absurd h (List.lt_irrefl _)
  · rw [h.2.2 x, hl, hF.has_, List.mem_map]
    simp
def mkP : Option Nat → Value
  | none => .pointer none
  | some b => .pointer (some ⟨b, 0, none⟩)
theorem ptrR_shape (v : Value) (y : DataW Nat × List MemPlace) (h : ptrR v = some y) : ∃ c, v = mkP c := by
  unfold ptrR at h
  split at h
  · exact ⟨some _, rfl⟩
  · exact ⟨none, rfl⟩
  · cases h
theorem enc_key (k : ByteArray) : encStr k.data.toList = .string k := by simp [encStr]

set_option maxRecDepth 100000 in
set_option maxHeartbeats 8000000 in
theorem rising_any (b : Nat) (l : List KE) (w : World) (h : MD w b l) (hl : l.length ≤ 999999999999) :
    Calls Try.prog 40 #[.map (some b)] w fun e w' => ∃ bb cap, e = .returned (.slice bb l.length cap) ∧ w'.ownsRow w.heap.size 9 1 (.slice bb l.length cap) l.length (l.map fun p => .string p.1) ∧ Below w.heap.size w w' := by
  obtain ⟨i1, hi1, hz1, hs1, hy1⟩ := info_parts info_str
  obtain ⟨hso, hsm, D, hF⟩ := id h
  have hbl := h.lt
  have HF := Lib.hid (And.intro hF (And.intro hso h))
  have HZ := Lib.hid (hF.size hso)
  clear h hso hsm hF
  obtain ⟨n, hn⟩ : ∃ n, l.length = n := ⟨_, rfl⟩
  have HN := Lib.hid hn
  rw [hn] at hl
  clear hn
  go_enter Try.func40, Try.ntmps40
  go_wp2_with (first
    | (at_range; refine wpList_range_own _ rfl _ 67 rfl 9 81 kstr Try.underlying67 ptrR b (Maps.size D) D rfl HF.out.1.own ?_; intro w0 hrg0 hg0 hs0))
  go_frame
  obtain ⟨w9, hw9⟩ : ∃ w9, w9 = w := ⟨w, rfl⟩
  subst hw9
  clear hs0
  go_loopw [3] (fun v w2 => ∃ (left : Lit → Bool) (cnt : Nat) (ss : List (List UInt8)), w2.ranges Try.prog 9 ptrR b w9.heap.size (Maps.size D) D left cnt ∧ ss.length + cnt ≤ n ∧
      w2.ownsRow (w9.heap.size + 1) 9 1 v ss.length (ss.map encStr) ∧ CollN D left ss ∧ Below w9.heap.size w9 w2)
    (fun _ w2 => w2.rangeLeft b w9.heap.size)
  case atStart => exact ⟨_, _, [], hrg0, by simpa [HZ.out] using Nat.le_of_eq HN.out, nil_own _ _ _ _, CollN.start D, (Below.refl _ _).grown hg0 (by omega) (fun j e => by cases e)⟩
  case round =>
    clear hrg0 hg0
    obtain ⟨left, cnt, ss, hrg, hcs, hrow, hC, hb2⟩ := hrel
    obtain ⟨pb, pc, rfl⟩ := row_slice hrow
    have hzw := hrg.lt
    have hgs : w9.heap.size + 1 ≤ wr.heap.size := by omega
    have HH := Lib.hid (And.intro hrow (And.intro hC hb2))
    obtain ⟨m, hm⟩ : ∃ m, ss.length = m := ⟨_, rfl⟩
    have HM := Lib.hid hm
    rw [hm] at hcs
    clear hrow hC hb2 hm
    go_wp2_with (first
      | (at_next; refine wpList_next_ranges _ rfl _ rfl 9 kstr ptrR encStr mkP (fun key kl hk => by obtain ⟨x, hx, _⟩ := Maps.keyOf_str Try.underlying9 hk; exact ⟨x, hx⟩) ptrR_shape b w9.heap.size (Maps.size D) _ _ _ rfl hrg ?_ ?_))
    · intro hc0 hl0
      have hdn := HH.out.2.1.done HF.out.1 HF.out.2.1 hl0
      have hmn : ss.length = l.length := by
        have h1 := congrArg List.length hdn
        rw [List.length_mergeSort] at h1
        rw [h1]; simp
      have HD := Lib.hid (And.intro hdn hmn)
      have hm62 : Hid (ss.length < 4611686018427387904) := by show _ < _; rw [hmn, HN.out]; omega
      clear hdn hmn hrg hc0 hl0 hcs
      go_wp2_with (first
        | (go_at_call 83
           refine (sortStr (ss := ss) (by exact HH.out.1) hm62.out).mono ?_
           rintro e w5 ⟨rfl, hrow5, hg5⟩
           have H5 := Lib.hid (And.intro hrow5 (HH.out.2.2.grown hg5 (by omega) (fun j e => by have := (HH.out.1.lt j e).1; omega)))
           clear hrow5 hg5))
      go_ret
      have hr := H5.out.1
      rw [HD.out.1] at hr
      refine ⟨pb, pc, by rw [← HD.out.2]; rfl, ?_, H5.out.2⟩
      rw [← HD.out.2]
      have e1 : (l.map fun p => p.1.data.toList).map encStr = l.map fun p => .string p.1 := by
        rw [List.map_map]
        exact List.map_congr_left fun p _ => enc_key p.1
      rw [e1] at hr
      exact row_le hr (by omega)
    · intro x c kl yd yp w3 cnt3 hkey hlk hv hat hrg3 hlt3 hg3 hs3 hen
      obtain ⟨x', ex, rfl, _⟩ := Maps.keyOf_str Try.underlying9 hkey
      obtain rfl : x = x' := encStr_inj ex
      have hrow3 := row_block HH.out.1 fun q hq => hg3.block q (HH.out.1.lt q hq).2 (by intro e; have := (HH.out.1.lt q hq).1; injection e with e; omega)
      have hsz3 := hg3.size
      have HC2 := Lib.hid (HH.out.2.1.step hlk)
      clear hs3
      generalize mkP c = pv at hen hv
      have hro : Hid (w3.ownsRow (w9.heap.size + 1) 9 1 (.slice pb ss.length pc) ss.length (ss.map encStr)) := hrow3
      clear hrow3 hv
      go_wp2_with (at_builtin
                   refine wpList_app _ rfl (.tmp 11) (.tmp 13) _ rfl (w9.heap.size + 1) 9 i1 _ 1 16 Try.underlying84 hi1 hz1 hs1 hy1 rfl (by decide) (.slice pb ss.length pc) ss.length _ rfl (hro.out.alloc _) _ _ 1 1 [encStr x] rfl rfl (rd_new _ _ _) (by simp [encStr, Value.oneCell']) (by rw [HM.out]; unfold maxLen; omega) (by rw [HM.out]; omega) (by simp; omega) ?_
                   intro v' w4 hown hg4 hor
                   have HG := Lib.hid (And.intro hown hg4)
                   clear hown hg4 hor)
      have hg4 := HG.out.2
      have hrg4 := (hrg3.alloc _).kept hg4 (fun e => by have := (HH.out.1.lt _ e.symm).1; omega) (fun e => by have := (HH.out.1.lt _ e.symm).1; omega)
      go_roundw
      case rel =>
        refine ⟨_, cnt3, ss ++ [x], hrg4, by rw [List.length_append, HM.out]; simp; omega, by have := HG.out.1; rw [List.map_append, List.length_append]; simpa using this, HC2.out, ?_⟩
        exact ((HH.out.2.2.grown hg3 (by omega) (fun j e => by cases e; omega)).alloc (by omega) _).grown hg4 (by simp; omega) (fun j e => by have := (HH.out.1.lt j e).1; omega)
      case measure => rw [hrg4.left_eq, hrg.left_eq]; exact hlt3
end Go.Proofs.Ytebeefkibbbkdaa
