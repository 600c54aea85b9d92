import Derived.Test.YtbmbgkgjlnookaaDoorOr2
/- ManifestOrphans: manifest.Orphans and manifest.Strangers. -/
namespace Go.Proofs.YtbmbgkgjlnookaaDoor
open Go.RowKit Go.Maps

theorem SRow.base {w W W' : World} {v : Value} {l : List ByteArray} (h : SRow W W' v l) (hb : Below w.heap.size w W) : SRow w W' v l := by
  refine ⟨⟨h.1.1, ?_⟩, hb.trans (h.2.mono hb.size)⟩
  rcases h.1.2 with h1 | ⟨g, c, cur, hv, h1, h2⟩
  · exact .inl h1
  · exact .inr ⟨g, c, cur, hv, Nat.le_trans hb.size h1, h2⟩
theorem mark_zero (l : List Int) (x : Int) : markG l 0 x = 0 := by
  unfold markG
  rw [if_neg, if_neg (by simp)]
  rintro ⟨h, h2⟩
  have : l = [] := List.eq_nil_of_length_eq_zero h.symm
  subst this
  simp at h2
theorem take_mem {l : List Int} {k : Nat} (hk : k < l.length) (x : Int) : x ∈ l.take (k + 1) ↔ x = l[k] ∨ x ∈ l.take k := by
  rw [List.take_succ_eq_append_getElem hk, List.mem_append]
  simp only [List.mem_singleton]
  exact or_comm
theorem mark_mid {l : List Int} {k : Nat} {f : Int → Int} (hk : k < l.length) (hf : ∀ x, f x = markG l k x) (h : k + 1 ≠ l.length) : ∀ x, (if x = l[k] then 1 else f x) = markG l (k + 1) x := by
  intro x
  rw [hf]
  unfold markG
  rw [if_neg (show ¬ (k = l.length ∧ _) from fun e => by have := e.1; omega), if_neg (show ¬ (k + 1 = l.length ∧ _) from fun e => h e.1)]
  by_cases hx : x = l[k]
  · rw [if_pos hx, if_pos ((take_mem hk x).2 (.inl hx))]
  · rw [if_neg hx]
    by_cases hm : x ∈ l.take k
    · rw [if_pos hm, if_pos ((take_mem hk x).2 (.inr hm))]
    · rw [if_neg hm, if_neg (fun e => ((take_mem hk x).1 e).elim hx hm)]
theorem mark_end {l : List Int} {k : Nat} {f : Int → Int} (hk : k < l.length) (hf : ∀ x, f x = markG l k x) (h : k + 1 = l.length) : ∀ x, (if x = l[k] then 2 else if x = l[k] then 1 else f x) = markG l (k + 1) x := by
  intro x
  have hlast : l.getLast? = some l[k] := by
    rw [List.getLast?_eq_getElem?]
    rw [show l.length - 1 = k by omega, List.getElem?_eq_getElem hk]
  unfold markG
  by_cases hx : x = l[k]
  · rw [if_pos hx, if_pos ⟨h, by rw [hlast, hx]⟩]
  · rw [if_neg hx, if_neg hx, if_neg (show ¬ (k + 1 = l.length ∧ _) from fun e => hx (by have h2 := e.2; rw [hlast] at h2; injection h2 with h2; exact h2.symm)), hf]
    unfold markG
    rw [if_neg (show ¬ (k = l.length ∧ _) from fun e => by have := e.1; omega)]
    by_cases hm : x ∈ l.take k
    · rw [if_pos hm, if_pos ((take_mem hk x).2 (.inr hm))]
    · rw [if_neg hm, if_neg (fun e => ((take_mem hk x).1 e).elim hx hm)]
theorem know_step {l : List Int} {k : Nat} {f : Int → Int} (hk : k < l.length) (hf : ∀ x, f x = knowG (l.take k) x) : ∀ x, (if x = l[k] then 1 else f x) = knowG (l.take (k + 1)) x := by
  intro x
  rw [hf]
  unfold knowG
  by_cases hx : x = l[k]
  · rw [if_pos hx, if_pos ((take_mem hk x).2 (.inl hx))]
  · rw [if_neg hx]
    by_cases hm : x ∈ l.take k
    · rw [if_pos hm, if_pos ((take_mem hk x).2 (.inr hm))]
    · rw [if_neg hm, if_neg (fun e => ((take_mem hk x).1 e).elim hx hm)]
/-- What the two functions hold while they note numbers in a map. -/
structure NW (w W : World) (t : TypeId) (ar : Array Value) (N : Nat) (f : Int → Int) : Prop where
  below : Below w.heap.size w W
  box : Box W w.heap.size t ar
  map : IMap Tryd.prog 3 3 W (w.heap.size + 1) N f
  cell : Box W (w.heap.size + 2) 63 #[.map (some (w.heap.size + 1))]
theorem NW.grown {w W W' : World} {t : TypeId} {ar : Array Value} {N N' : Nat} {f f' : Int → Int} (h : NW w W t ar N f) (hg : W.grownBy W' (some (w.heap.size + 1))) (hm : IMap Tryd.prog 3 3 W' (w.heap.size + 1) N' f') : NW w W' t ar N' f' :=
  ⟨h.below.grown hg h.below.size (fun j hj => by cases hj; omega), h.box.grown hg (by simp), hm, h.cell.grown hg (by simp)⟩
theorem NW.alloc {w W : World} {t : TypeId} {ar : Array Value} {N : Nat} {f : Int → Int} (h : NW w W t ar N f) (o : Obj) : NW w (W.alloc o) t ar N f :=
  ⟨h.below.alloc h.below.size _, h.box.alloc _, h.map.below (Below.al _ _), h.cell.alloc _⟩
set_option maxRecDepth 100000 in
set_option maxHeartbeats 4000000 in
theorem orphans_any (A : Option Addr) (n cc : Nat) (names : List ByteArray) (id ns nx mk cl : Int) (A2 : Option Addr) (c2 : Nat) (segs : List Int) (pv : Value) (w : World) (E : Env w)
    (hA : Rd w w.heap.size A (names.map Value.string)) (hn : names.length = n) (hmx : n ≤ 1048576) (hz : ∀ s ∈ names, s.size ≤ 1048576)
    (hS : Rd w w.heap.size A2 (segs.map (.int .i64))) (hws : ∀ s ∈ segs, (Lit.int .i64 s).wf = true) (hsl : segs.length ≤ 1048576) :
    Calls Tryd.prog 11 #[.slice A n cc, manV id ns nx mk cl (.slice A2 segs.length c2) pv] w fun e w' => ∃ v, e = .returned v ∧ SRow w w' v (names.filter fun s => orphP id segs (parseB s)) := by
  have hmm := @run_makeMap Tryd.prog
  have hmf : ∀ (fn : Fn) (first cap : Array Value) (w : World), (Instr.makeFunc fn first cap).run Tryd.prog w = .ok (.func fn first cap) w := fun _ _ _ _ => rfl
  have HA := Lib.hid (And.intro hA (And.intro hn hz))
  have HS := Lib.hid (And.intro hS hws)
  have EE := Lib.hid E
  clear hA hn hz hS hws E
  have h0 : NW w (((w.alloc (.cells #[.int .i64 id, .int .i64 ns, .int .i64 nx, .int .i64 mk, .int .i64 cl, .slice A2 segs.length c2, pv] 31)).alloc (.map #[] 0)).alloc (.cells #[.map (some (w.heap.size + 1))] 63)) 31 #[.int .i64 id, .int .i64 ns, .int .i64 nx, .int .i64 mk, .int .i64 cl, .slice A2 segs.length c2, pv] 0 (fun _ => 0) := by
    refine ⟨((Below.al _ _).alloc (by simp) _).alloc (by simp; omega) _, ((Box.new _ _ _).alloc _).alloc _, ?_, ?_⟩
    · have := IMap.made (P := Tryd.prog) (K := 3) (E := 3) (w.alloc (.cells #[.int .i64 id, .int .i64 ns, .int .i64 nx, .int .i64 mk, .int .i64 cl, .slice A2 segs.length c2, pv] 31))
      simpa using this.below (Below.al _ (.cells #[.map (some (w.heap.size + 1))] 63))
    · simpa using Box.new ((w.alloc (.cells #[.int .i64 id, .int .i64 ns, .int .i64 nx, .int .i64 mk, .int .i64 cl, .slice A2 segs.length c2, pv] 31)).alloc (.map #[] 0)) 63 #[.map (some (w.heap.size + 1))]
  have H0 := Lib.hid h0
  clear h0
  go_enter Tryd.func11, Tryd.ntmps11
  go_wp2
  go_loopw [12] (fun i wr => ∃ (k N : Nat) (f : Int → Int), k ≤ segs.length ∧ N ≤ 2 * k ∧ i = .int .i64 k ∧ NW w wr 31 #[.int .i64 id, .int .i64 ns, .int .i64 nx, .int .i64 mk, .int .i64 cl, .slice A2 segs.length c2, pv] N f ∧ ∀ x, f x = markG segs k x) (fun i _ => segs.length - (intOf i).toNat)
  case atStart => exact ⟨0, 0, _, Nat.zero_le _, Nat.le_refl _, rfl, H0.out, fun x => (mark_zero _ _).symm⟩
  case round =>
    clear H0
    obtain ⟨k, N, f, hk, hN, rfl, hw, hf⟩ := hrel
    have x1 := hw.box.cell
    have x2 := hw.cell.cell
    by_cases hlt : k < segs.length
    · obtain ⟨ad, rfl, hadb, hcell⟩ := (HS.out.1.below hw.below).int hlt
      have hsw := HS.out.2 _ (List.getElem_mem hlt)
      have hmap := hw.map
      have hmx1 : N < maxLen := by unfold maxLen; omega
      have hk0 : (0 : Int) ≤ k := by omega
      have hk1 : (k : Int) < segs.length := by omega
      have HW := Lib.hid hw
      clear hw
      by_cases he : k + 1 = segs.length
      · have HF := Lib.hid (mark_end hlt hf he)
        have hi : (k : Int) = (segs.length : Int) - 1 := by omega
        have hii : ((k : Int) == (segs.length : Int) - 1) = true := by simpa using hi
        have hmx2 : N + 1 < maxLen := by unfold maxLen; omega
        have HEq := Lib.hid he
        clear hf hi he
        generalize segs[k] = s at hcell hsw HF
        go_wp2_with (first
          | (at_mapUpdate
             have z0 := hmx1
             clear hmx1
             refine wpList_mapStore _ rfl (.tmp 17) (.tmp 18) (.const (.int .i64 1)) _ rfl Tryd.underlying3 Tryd.underlying3 Tryd.underlying63 _ N _ rfl hmap z0 s 1 rfl rfl hsw (by decide) ?_
             intro w1 hmap1 hg1
             have hw1 := HW.out.grown hg1 hmap1
             clear hmap hg1 x1 x2
             have x1 := hw1.box.cell
             have x2 := hw1.cell.cell
             have HW1 := Lib.hid hw1
             clear hw1)
          | (at_mapUpdate
             refine wpList_mapStore _ rfl (.tmp 25) (.tmp 26) (.const (.int .i64 2)) _ rfl Tryd.underlying3 Tryd.underlying3 Tryd.underlying63 _ (N + 1) _ rfl hmap1 hmx2 s 2 rfl rfl hsw (by decide) ?_
             intro w2 hmap2 hg2
             have hw2 := HW1.out.grown hg2 hmap2
             clear hmap1 hg2 x1 x2
             have x1 := hw2.box.cell
             have x2 := hw2.cell.cell
             have HW2 := Lib.hid hw2
             clear hw2))
        go_roundw
        case rel => exact ⟨k + 1, N + 1 + 1, _, by have := HEq.out; omega, by omega, by go_num, HW2.out, HF.out⟩
        case measure => simp [intOf]; omega
      · have HF := Lib.hid (mark_mid hlt hf he)
        have hi : ¬ (k : Int) = (segs.length : Int) - 1 := by omega
        have hii : ((k : Int) == (segs.length : Int) - 1) = false := by simpa using hi
        clear hf
        generalize segs[k] = s at hcell hsw HF
        go_wp2_with (at_mapUpdate
                     refine wpList_mapStore _ rfl (.tmp 17) (.tmp 18) (.const (.int .i64 1)) _ rfl Tryd.underlying3 Tryd.underlying3 Tryd.underlying63 _ N _ rfl hmap hmx1 s 1 rfl rfl hsw (by decide) ?_
                     intro w1 hmap1 hg1
                     have hw1 := HW.out.grown hg1 hmap1
                     clear hmap hg1 x1 x2
                     have x1 := hw1.box.cell
                     have x2 := hw1.cell.cell
                     have HW1 := Lib.hid hw1
                     clear hw1)
        go_roundw
        case rel => exact ⟨k + 1, N + 1, _, by omega, by omega, by go_num, HW1.out, HF.out⟩
        case measure => simp [intOf]; omega
    · have hkl : k = segs.length := by omega
      have hf2 : ∀ x, f x = markP segs x := fun x => by rw [hf x, hkl]; rfl
      have HW := Lib.hid hw
      have HF := Lib.hid hf2
      clear hw hf hf2 hkl
      go_wp2_with (go_at_call 32
                   refine (choose_orph A n cc names id ns nx mk cl _ _ segs w.heap.size (w.heap.size + 2) (w.heap.size + 1) N f wr (EE.out.below HW.out.below) ((HA.out.1.below HW.out.below).mono HW.out.below.size) HA.out.2.1 hmx HA.out.2.2 HW.out.box HW.out.cell HW.out.map HF.out).mono ?_
                   rintro e w3 ⟨v3, rfl, h3⟩
                   have H3 := Lib.hid (h3.base HW.out.below)
                   clear h3)
      go_ret
      exact ⟨_, rfl, H3.out⟩
set_option maxRecDepth 100000 in
set_option maxHeartbeats 4000000 in
theorem strangers_any (A : Option Addr) (n cc : Nat) (names : List ByteArray) (nid : Int) (A2 : Option Addr) (c2 : Nat) (tl : List T4) (w : World) (E : Env w)
    (hA : Rd w w.heap.size A (names.map Value.string)) (hn : names.length = n) (hmx : n ≤ 1048576) (hz : ∀ s ∈ names, s.size ≤ 1048576)
    (hS : Rd w w.heap.size A2 (tl.flatMap quad)) (hws : ∀ t ∈ tl, (Lit.int .i64 t.id).wf = true) (hsl : tl.length ≤ 1048576) :
    Calls Tryd.prog 12 #[.slice A n cc, catV nid (.slice A2 tl.length c2)] w fun e w' => ∃ v, e = .returned v ∧ SRow w w' v (names.filter fun s => strP (tl.map T4.id) (parseB s)) := by
  have hmm := @run_makeMap Tryd.prog
  have hmf : ∀ (fn : Fn) (first cap : Array Value) (w : World), (Instr.makeFunc fn first cap).run Tryd.prog w = .ok (.func fn first cap) w := fun _ _ _ _ => rfl
  have HA := Lib.hid (And.intro hA (And.intro hn hz))
  have HS := Lib.hid (And.intro hS hws)
  have EE := Lib.hid E
  clear hA hn hz hS hws E
  have h0 : NW w (((w.alloc (.cells #[.int .i64 nid, .slice A2 tl.length c2] 34)).alloc (.map #[] 0)).alloc (.cells #[.map (some (w.heap.size + 1))] 63)) 34 #[.int .i64 nid, .slice A2 tl.length c2] 0 (fun _ => 0) := by
    refine ⟨((Below.al _ _).alloc (by simp) _).alloc (by simp; omega) _, ((Box.new _ _ _).alloc _).alloc _, ?_, ?_⟩
    · have := IMap.made (P := Tryd.prog) (K := 3) (E := 3) (w.alloc (.cells #[.int .i64 nid, .slice A2 tl.length c2] 34))
      simpa using this.below (Below.al _ (.cells #[.map (some (w.heap.size + 1))] 63))
    · simpa using Box.new ((w.alloc (.cells #[.int .i64 nid, .slice A2 tl.length c2] 34)).alloc (.map #[] 0)) 63 #[.map (some (w.heap.size + 1))]
  have H0 := Lib.hid h0
  clear h0
  go_enter Tryd.func12, Tryd.ntmps12
  go_wp2
  go_loopw [12] (fun i wr => ∃ (k N : Nat) (f : Int → Int), k ≤ tl.length ∧ N ≤ k ∧ i = .int .i64 k ∧ NW w wr 34 #[.int .i64 nid, .slice A2 tl.length c2] N f ∧ ∀ x, f x = knowG ((tl.map T4.id).take k) x) (fun i _ => tl.length - (intOf i).toNat)
  case atStart => exact ⟨0, 0, _, Nat.zero_le _, Nat.le_refl _, rfl, H0.out, fun x => by simp [knowG]⟩
  case round =>
    clear H0
    obtain ⟨k, N, f, hk, hN, rfl, hw, hf⟩ := hrel
    have x1 := hw.box.cell
    have x2 := hw.cell.cell
    by_cases hlt : k < tl.length
    · obtain ⟨ad, rfl, hadb, c1, c2', c3, c4⟩ := (HS.out.1.below hw.below).quad_ hlt
      have hsw := HS.out.2 _ (List.getElem_mem hlt)
      have hmx1 : N < maxLen := by unfold maxLen; omega
      have hk0 : (0 : Int) ≤ k := by omega
      have hk1 : (k : Int) < tl.length := by omega
      have hkm : k < (tl.map T4.id).length := by simpa using hlt
      have HF := Lib.hid (know_step hkm hf)
      have hget : (tl.map T4.id)[k] = tl[k].id := by simp
      rw [hget] at HF
      clear hf hget hkm
      generalize tl[k] = t at c1 c2' c3 c4 hsw HF
      have hw0 := hw.alloc (.cells #[.int .i64 t.id, .string t.name, .int .i64 t.limit, .int .i64 t.hor] 62)
      clear x1 x2
      have x1 := hw.box.cell
      have x2 := hw0.cell.cell
      have y2 := hw.cell.lt
      have hmap := hw0.map
      have HW := Lib.hid hw0
      clear hw hw0
      go_wp2_with (at_mapUpdate
                   refine wpList_mapStore _ rfl (.tmp 16) (.tmp 18) (.const (.int .i64 1)) _ rfl Tryd.underlying3 Tryd.underlying3 Tryd.underlying63 _ N _ rfl hmap hmx1 t.id 1 rfl rfl hsw (by decide) ?_
                   intro w1 hmap1 hg1
                   have hw1 := HW.out.grown hg1 hmap1
                   clear hmap hg1 x1 x2
                   have x1 := hw1.box.cell
                   have x2 := hw1.cell.cell
                   have HW1 := Lib.hid hw1
                   clear hw1)
      go_roundw
      case rel => exact ⟨k + 1, N + 1, _, by omega, by omega, by go_num, HW1.out, HF.out⟩
      case measure => simp [intOf]; omega
    · have hkl : k = tl.length := by omega
      have hf2 : ∀ x, f x = knowG (tl.map T4.id) x := fun x => by rw [hf x, hkl, List.take_of_length_le (by simp)]
      have HW := Lib.hid hw
      have HF := Lib.hid hf2
      clear hw hf hf2 hkl
      go_wp2_with (go_at_call 32
                   refine (choose_str A n cc names (tl.map T4.id) (w.heap.size + 2) (w.heap.size + 1) N f wr (EE.out.below HW.out.below) ((HA.out.1.below HW.out.below).mono HW.out.below.size) HA.out.2.1 hmx HA.out.2.2 HW.out.cell HW.out.map HF.out).mono ?_
                   rintro e w3 ⟨v3, rfl, h3⟩
                   have H3 := Lib.hid (h3.base HW.out.below)
                   clear h3)
      go_ret
      exact ⟨_, rfl, H3.out⟩
end Go.Proofs.YtbmbgkgjlnookaaDoor
