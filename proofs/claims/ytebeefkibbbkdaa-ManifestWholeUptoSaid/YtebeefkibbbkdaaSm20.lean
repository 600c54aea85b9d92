import Derived.Test.YtebeefkibbbkdaaSm19
/- The picks of a crash, one by one. -/
namespace Go.Proofs.Ytebeefkibbbkdaa
open Go.RowKit Go.Maps

def modn (x : Int) (n : Nat) : Nat := (x % (n : Int)).toNat
theorem modn_lt (x : Int) {n : Nat} (h : 0 < n) : modn x n < n := by
  unfold modn
  have h1 := Int.emod_nonneg x (show (n : Int) ≠ 0 by omega)
  have h2 := Int.emod_lt_of_pos x (show (0 : Int) < n by omega)
  omega
theorem modn_cast (x : Int) {n : Nat} (h : 0 < n) : ((modn x n : Nat) : Int) = x % (n : Int) := by
  unfold modn
  have h1 := Int.emod_nonneg x (show (n : Int) ≠ 0 by omega)
  omega
theorem tmod_mod (x : Int) {n : Nat} (h : 0 < n) : (0 ≤ x.tmod n ∧ x.tmod n = x % (n : Int)) ∨ (x.tmod n < 0 ∧ x.tmod n + n = x % (n : Int) ∧ -(n : Int) < x.tmod n) := by
  have h1 := Int.emod_nonneg x (show (n : Int) ≠ 0 by omega)
  have h2 := Int.emod_lt_of_pos x (show (0 : Int) < n by omega)
  have h3 := Int.emod_eq_tmod (a := x) (b := n)
  by_cases h0 : 0 ≤ x ∨ (n : Int) ∣ x
  · rw [if_pos h0] at h3
    left; omega
  · rw [if_neg h0] at h3
    have hn : ((Int.natAbs (n : Int) : Nat) : Int) = n := by omega
    rw [hn] at h3
    right; omega
set_option maxRecDepth 100000 in
set_option maxHeartbeats 1000000 in
theorem mod_any (x nn : Int) (n : Nat) (w : World) (hnn : nn = n) (hn : 0 < n) (hx : (Lit.int .i64 x).wf = true) (hm : n ≤ 1000000000000000) : Calls Try.prog 39 #[.int .i64 x, .int .i64 nn] w fun e w' => e = .returned (.int .i64 (modn x n)) ∧ w' = w := by
  subst hnn
  have hxr : -9223372036854775808 ≤ x ∧ x ≤ 9223372036854775807 := by simp [Lit.wf, IntKind.min, IntKind.max, IntKind.signed, IntKind.bits] at hx; omega
  have HC := Lib.hid (modn_cast x hn)
  have HT := Lib.hid (tmod_mod x hn)
  have hn1 : (1 : Int) ≤ n := by omega
  have HX := Lib.hid hxr
  clear hx hxr
  by_cases hx0 : 0 ≤ x
  · have hr : ¬ x % (n : Int) < 0 := by have := Int.emod_nonneg x (show (n : Int) ≠ 0 by omega); omega
    have hr0 : 0 ≤ x % (n : Int) := by omega
    go_enter Try.func39, Try.ntmps39
    go_wp2
    go_ret
    exact ⟨ret_int HC.out.symm, rfl⟩
  · rcases HT.out with ⟨h1, h2⟩ | ⟨h1, h2, h3⟩
    · have hge : decide (0 ≤ x.tmod n) = true := decide_eq_true h1
      have H2 := Lib.hid h2
      clear h2
      go_enter Try.func39, Try.ntmps39
      go_wp2
      go_ret
      exact ⟨ret_int (by rw [HC.out, ← H2.out]), rfl⟩
    · have hge : ¬ 0 ≤ x.tmod n := by omega
      have H2 := Lib.hid h2
      have h4 : x.tmod n + n ≤ 1000000000000000 := by omega
      clear h2
      go_enter Try.func39, Try.ntmps39
      go_wp2
      go_ret
      exact ⟨ret_int (by rw [HC.out, ← H2.out]), rfl⟩

/-- The picks that are left, in the cell pb; they lie below B. -/
def PK (w : World) (pb B : Nat) (ps : List Int) : Prop := ∃ A c, Box w pb 23 #[.slice A ps.length c] ∧ Rd w B A (ps.map (Value.int .i64)) ∧ ps.length ≤ c ∧ B ≤ pb ∧ B ≤ w.heap.size ∧ (∀ x ∈ ps, (Lit.int .i64 x).wf = true) ∧ ps.length ≤ 140737488355328
def pickV (ps : List Int) : Int := ps.headD 0
theorem PK.keep {w w' : World} {pb B : Nat} {ps : List Int} (h : PK w pb B ps) (hb : Below B w w') (hp : w'.heap[pb]? = w.heap[pb]?) : PK w' pb B ps := by
  obtain ⟨A, c, h1, h2, h3, h4, h5, h6, h7⟩ := h
  exact ⟨A, c, hp.trans h1, h2.below hb, h3, h4, Nat.le_trans h5 hb.size, h6, h7⟩
theorem PK.next {w w' : World} {pb B : Nat} {ps : List Int} (h : PK w pb B ps) (hb : Below w.heap.size w w') : PK w' pb B ps := by
  obtain ⟨A, c, h1, h2, h3, h4, h5, h6, h7⟩ := id h
  exact h.keep (hb.mono h5) (hb.block pb h1.lt)
theorem pick_wf {w : World} {pb B : Nat} {ps : List Int} (h : PK w pb B ps) : (Lit.int .i64 (pickV ps)).wf = true := by
  obtain ⟨A, c, h1, h2, h3, h4, h5, h6, h7⟩ := h
  cases ps with
  | nil => rfl
  | cons x r => exact h6 x (by simp)
theorem sizeInt : ∀ w, (Go.sizeOf 3).run Try.prog w = .ok 1 w := Try.sizeOf3
theorem run_rest1 (A : Option Addr) (len cap : Nat) (hr : 1 ≤ len) (W : World) :
    (Instr.slice 23 (.slice A len cap) (some (.int .i64 1)) none none).run Try.prog W = .ok (.slice (tailA A cap 1) (len - 1) (cap - 1)) W := by
  have ht : Try.prog.underlying 23 = some (.slice 3) := Try.underlying23
  have he : Try.prog.elem 23 = 3 := by simp [Program.elem, ht]
  have ht' : Try.prog.underlying 23 = some (.slice (Try.prog.elem 23)) := by rw [he]; exact ht
  rw [run_slice_l W _ A len cap ht' .i64 _ (by omega) (by omega), he, sizeInt]
  simp [Result.andThen, sliced, tailA]
theorem Rd.tail1 {w : World} {B : Nat} {A : Option Addr} {x : Int} {r : List Int} {cap : Nat} (h : Rd w B A ((x :: r).map (Value.int .i64))) (hc : r.length + 1 ≤ cap) : Rd w B (tailA A cap 1) (r.map (Value.int .i64)) := by
  unfold tailA
  split
  · have : r = [] := List.eq_nil_of_length_eq_zero (by omega)
    rw [this]; exact Rd.nil _ _ _
  · intro j u hj
    obtain ⟨ad, rfl, hb, hc2⟩ := h (j + 1) u (by simpa using hj)
    exact ⟨ad.add 1, rfl, by rw [add_block]; exact hb, by rw [add_add', Nat.add_comm]; exact hc2⟩
set_option maxRecDepth 100000 in
set_option maxHeartbeats 1000000 in
theorem pick_any (pb B : Nat) (ps : List Int) (w : World) (h : PK w pb B ps) : Calls Try.prog 37 #[.pointer (some ⟨pb, 0, none⟩)] w fun e w' => e = .returned (.int .i64 (pickV ps)) ∧ PK w' pb B ps.tail ∧ Chg (fun b => b = pb) w w' := by
  obtain ⟨A, c, h1, h2, h3, h4, h5, h6, h7⟩ := id h
  have hxc := h1.cell 0
  have hxf := h1.free 0
  have hxl := h1.lt
  cases ps with
  | nil =>
    have H := Lib.hid h
    clear h h1 h2 h3 h6 h7
    go_enter Try.func37, Try.ntmps37
    go_wp2
    go_ret
    exact ⟨rfl, H.out, Chg.refl _ _⟩
  | cons x r =>
    obtain ⟨n, hn⟩ : ∃ n, (x :: r).length = n + 1 := ⟨r.length, rfl⟩
    obtain ⟨ad, rfl, hadb, hac⟩ := h2 0 (.int .i64 x) rfl
    have hrun := run_rest1 (some ad) (n + 1) c (by omega)
    have HA := Lib.hid (And.intro h1 (And.intro h2 (And.intro h3 (And.intro hn (And.intro h6 h7)))))
    rw [hn] at hxc h7
    have h01 : (0 : Int) < (n : Int) + 1 := by omega
    clear h h1 h2 h3 h6 hn
    have hac0 : w.cell? ad = some (.int .i64 x) := by simpa [Addr.add] using hac
    go_enter Try.func37, Try.ntmps37
    go_wp2
    go_ret
    obtain ⟨k1, k2, k3, k4, k5, k6⟩ := HA.out
    have hnr : r.length = n := by simpa using k4
    refine ⟨rfl, ⟨tailA (some ad) c 1, c - 1, ?_, ?_, ?_, h4, ?_, fun y hy => k5 y (List.mem_of_mem_tail hy), ?_⟩, chg_at (Chg.refl _ w) _ _⟩
    · have := k1.set_ 0 (.slice (tailA (some ad) c 1) n (c - 1))
      rw [← hnr] at this
      simpa [hnr] using this
    · have hb : Below B w (w.setCell ⟨pb, 0, none⟩ (.slice (tailA (some ad) c 1) n (c - 1))) := (Below.refl _ _).setCell h4 _
      exact (k2.tail1 (by simpa using k3)).below hb
    · simp at k3 ⊢; omega
    · simpa [World.setCell] using h5
    · simp at k6 ⊢; omega
end Go.Proofs.Ytebeefkibbbkdaa
