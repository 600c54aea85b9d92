import Derived.Test.YtbmbgkgjlnookaaDoorOMan13
namespace Go.Proofs.YtbmbgkgjlnookaaDoor
open Go.RowKit Go.Maps

theorem Own.rd_pre {w : World} {B g : Nat} {t : TypeId} {xs ts : List Value} (h : Own w B g t (xs ++ ts)) : Rd w w.heap.size (some ⟨g, 0, none⟩) xs :=
  h.rd h.lt fun j u hj => by rw [List.getElem?_append_left (List.getElem?_eq_some_iff.1 hj).1]; exact hj
theorem Own.tail {w : World} {B g : Nat} {t : TypeId} {xs ts : List Value} (h : Own w B g t (xs ++ ts)) {n : Nat} (hn : xs.length = n) {u : Value} (hu : ts[0]? = some u) : w.cell? ⟨g, n, none⟩ = some u :=
  h.get (by rw [List.getElem?_append_right (by omega), hn, Nat.sub_self]; exact hu)

set_option maxRecDepth 100000 in
set_option maxHeartbeats 4000000 in
theorem kept_any (id ns nx mk cl : Int) (g h c d : Nat) (A A' : Option Addr) (c' d' : Nat) (segs : List Int) (prods : List P3) (B B2 : Nat) (w : World)
    (hO : Own w B g 3 (segs.map (.int .i64) ++ [.int .i64 (-77)])) (hP : Own w B2 h 60 (prods.flatMap tri ++ [.int .i64 (-77), .int .i64 0, .int .i64 0]))
    (hA : Rd w w.heap.size A (segs.map (.int .i64))) (hA' : Rd w w.heap.size A' (prods.flatMap tri)) (hc : segs.length < c) (hd : prods.length < d) (hcm : segs.length < maxLen) (hdm : prods.length < maxLen) :
    Calls Tryd.prog 21 #[manV id ns nx mk cl (.slice (some ⟨g, 0, none⟩) segs.length c) (.slice (some ⟨h, 0, none⟩) prods.length d), manV id ns nx mk cl (.slice A segs.length c') (.slice A' prods.length d')] w fun e w' =>
      e = .returned (.bool true) ∧ Below w.heap.size w w' := by
  have hgl := hO.lt
  have hhl := hP.lt
  unfold maxLen at hcm hdm
  have hb0 : ∀ o1 o2, Below w.heap.size w ((w.alloc o1).alloc o2) := fun o1 o2 => ((Below.refl _ _).alloc (Nat.le_refl _) _).alloc (by simp) _
  have Hb0 := Lib.hid hb0
  have HA := Lib.hid hA
  have HA' := Lib.hid hA'
  have HO := Lib.hid hO
  have HP := Lib.hid hP
  clear hb0 hA hA' hO hP
  go_enter Tryd.func21, Tryd.ntmps21
  go_wp2_with (go_at_call 36
               refine (sameMan_eq id ns nx mk cl _ _ _ _ c c' d d' segs prods _ ((HO.out.alloc _).alloc _).rd_pre ((HA.out.below (Hb0.out _ _)).mono (by simp <;> omega)) ((HP.out.alloc _).alloc _).rd_pre ((HA'.out.below (Hb0.out _ _)).mono (by simp <;> omega)) (by unfold maxLen; omega) (by unfold maxLen; omega)).mono ?_
               rintro e w1 ⟨rfl, hb1⟩
               have z1 : w1.cell? ⟨g, segs.length, none⟩ = some (.int .i64 (-77)) := (hb1.cell (by simp; omega)).trans (((HO.out.alloc _).alloc _).tail (by simp) rfl)
               have z2 : w1.cell? ⟨h, prods.length * 3, none⟩ = some (.int .i64 (-77)) := (hb1.cell (by simp; omega)).trans (((HP.out.alloc _).alloc _).tail (tri_len _) rfl)
               have z3 : w1.cell? ⟨w.heap.size, 5, none⟩ = some (.slice (some ⟨g, 0, none⟩) segs.length c) := (hb1.cell (by simp; omega)).trans (by go_simp)
               have z4 : w1.cell? ⟨w.heap.size, 6, none⟩ = some (.slice (some ⟨h, 0, none⟩) prods.length d) := (hb1.cell (by simp; omega)).trans (by go_simp)
               have Hb1 := Lib.hid ((Hb0.out _ _).trans (hb1.mono (by simp <;> omega)))
               clear hb1)
  go_ret
  exact ⟨rfl, Hb1.out⟩

set_option maxRecDepth 100000 in
set_option maxHeartbeats 4000000 in
theorem keptCat_any (nid : Int) (g c : Nat) (A : Option Addr) (c' : Nat) (l : List T4) (B : Nat) (w : World)
    (hO : Own w B g 62 (l.flatMap quad ++ [.int .i64 (-77), .string ByteArray.empty, .int .i64 0, .int .i64 0])) (hA : Rd w w.heap.size A (l.flatMap quad)) (hc : l.length < c) (hcm : l.length < maxLen) :
    Calls Tryd.prog 22 #[catV nid (.slice (some ⟨g, 0, none⟩) l.length c), catV nid (.slice A l.length c')] w fun e w' =>
      e = .returned (.bool true) ∧ Below w.heap.size w w' := by
  have hgl := hO.lt
  unfold maxLen at hcm
  have hb0 : ∀ o1 o2, Below w.heap.size w ((w.alloc o1).alloc o2) := fun o1 o2 => ((Below.refl _ _).alloc (Nat.le_refl _) _).alloc (by simp) _
  have Hb0 := Lib.hid hb0
  have HA := Lib.hid hA
  have HO := Lib.hid hO
  clear hb0 hA hO
  go_enter Tryd.func22, Tryd.ntmps22
  go_wp2_with (go_at_call 37
               refine (sameCat_eq nid _ _ c c' l _ ((HO.out.alloc _).alloc _).rd_pre ((HA.out.below (Hb0.out _ _)).mono (by simp <;> omega)) (by unfold maxLen; omega)).mono ?_
               rintro e w1 ⟨rfl, hb1⟩
               have z1 : w1.cell? ⟨g, l.length * 4, none⟩ = some (.int .i64 (-77)) := (hb1.cell (by simp; omega)).trans (((HO.out.alloc _).alloc _).tail (quad_len _) rfl)
               have z3 : w1.cell? ⟨w.heap.size, 1, none⟩ = some (.slice (some ⟨g, 0, none⟩) l.length c) := (hb1.cell (by simp; omega)).trans (by go_simp)
               have Hb1 := Lib.hid ((Hb0.out _ _).trans (hb1.mono (by simp <;> omega)))
               clear hb1)
  go_ret
  exact ⟨rfl, Hb1.out⟩
end Go.Proofs.YtbmbgkgjlnookaaDoor
