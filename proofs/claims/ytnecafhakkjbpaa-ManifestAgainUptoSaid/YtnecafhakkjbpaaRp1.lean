import Derived.Test.YtnecafhakkjbpaaSm34
import Derived.Defers
/- manifest.Replace: what it does to a disk; the functions that it makes. -/
namespace Go.Proofs.Ytnecafhakkjbpaa
open Go.RowKit Go.Maps

/-- The steps of a replacement, by their numbers. -/
def opE (nm tm : ByteArray) (b : List UInt8) : Nat → Dk → Int
  | 0 => createE tm
  | 1 => appendE tm b
  | 2 => syncE tm
  | 3 => renameE tm nm
  | _ => syncDirE
def opS (nm tm : ByteArray) (b : List UInt8) : Nat → Dk → Dk
  | 0 => createS tm
  | 1 => appendS tm b
  | 2 => syncS tm
  | 3 => renameS tm nm
  | _ => syncDirS
/-- Five steps, the file beside taken away where one fails with power. -/
def runK (nm tm : ByteArray) (b : List UInt8) : Nat → Nat → Dk → Int × Dk
  | 0, _, s => (0, s)
  | f + 1, k, s => if opE nm tm b k s = 0 then runK nm tm b f (k + 1) (opS nm tm b k s)
    else if 0 < k ∧ opE nm tm b k s ≠ 34 then (opE nm tm b k s, removeS tm (opS nm tm b k s)) else (opE nm tm b k s, opS nm tm b k s)
def replT (nm tm : ByteArray) (b : List UInt8) (s : Dk) : Int × Dk :=
  if atE nm s ≠ 0 ∧ atE nm s ≠ 31 then (atE nm s, s)
  else if atE tm s = 0 then (if removeE tm s = 0 then runK nm tm b 5 0 (removeS tm s) else (removeE tm s, removeS tm s))
  else if atE tm s = 31 then runK nm tm b 5 0 s
  else (atE tm s, s)
section
variable {W w w' : World} {S S' : Nat → Prop} {d N n c : Nat} {s : Dk} {nm tm : ByteArray} {A : Option Addr} {bs : List UInt8} {u : FrameMode} {B0 B1 B2 B3 B4 B5 : Nat}
theorem Out.then_ (h : Out w S A bs) (hc : Chg S w w') (hs : ∀ b, S' b → S b ∨ w.heap.size ≤ b) : Out w' S' A bs := by
  refine ⟨fun j u hj => ?_, fun ad e hne hS => ?_⟩
  · obtain ⟨ad, e, hb, hcl⟩ := h.1 j u hj
    have hne : bs ≠ [] := fun e => by subst e; simp [bv] at hj
    refine ⟨ad, e, Nat.lt_of_lt_of_le hb hc.size, ?_⟩
    rw [← hcl]
    exact cell_heap (by rw [add_block]; exact hc.block _ hb (h.2 ad e hne))
  · rcases hs _ hS with h1 | h1
    · exact h.2 ad e hne h1
    · obtain ⟨x, r, rfl⟩ : ∃ x r, bs = x :: r := by cases bs; exact absurd rfl hne; exact ⟨_, _, rfl⟩
      obtain ⟨ad', e', hb, _⟩ := h.1 0 _ rfl
      rw [e] at e'
      injection e' with e'
      subst e'
      omega
theorem Out.next (h : Out w S A bs) (hb : Below w.heap.size w w') : Out w' S A bs := h.then_ (Chg.of_below hb S) fun _ h => .inl h
set_option maxRecDepth 100000 in
set_option maxHeartbeats 2000000 in
theorem cl2 (h : Lv W w S d s N) (hN : N ≤ 999999999999) (hz : tm.size ≤ maxLen) (h0 : w.cell? ⟨B0, 0, none⟩ = some (.pointer (some ⟨d, 0, none⟩))) (h4 : w.cell? ⟨B4, 0, none⟩ = some (.string tm)) :
    Calls Try.prog 28 #[.pointer (some ⟨B0, 0, none⟩), .pointer (some ⟨B4, 0, none⟩)] w fun e w' => e = .returned (.int .i64 (createE tm s)) ∧ Lv.Then W w w' S d (createS tm s) (N + 1) := by
  go_enter Try.func28, Try.ntmps28
  go_wp2_with (first | (go_at_call 29; refine (lv_create tm h hN hz).mono ?_; rintro e w1 ⟨rfl, h1⟩; have H1 := Lib.hid h1; clear h1))
  go_ret
  exact ⟨rfl, H1.out⟩
set_option maxRecDepth 100000 in
set_option maxHeartbeats 2000000 in
theorem cl3 (h : Lv W w S d s N) (hN : N ≤ 999999999999) (hz : tm.size ≤ maxLen) (hA : Out w S A bs) (hn : bs.length = n) (hm : n ≤ 140737488355328) (h0 : w.cell? ⟨B0, 0, none⟩ = some (.pointer (some ⟨d, 0, none⟩))) (h4 : w.cell? ⟨B4, 0, none⟩ = some (.string tm)) (h2 : w.cell? ⟨B2, 0, none⟩ = some (.slice A n c)) :
    Calls Try.prog 30 #[.pointer (some ⟨B0, 0, none⟩), .pointer (some ⟨B4, 0, none⟩), .pointer (some ⟨B2, 0, none⟩)] w fun e w' => e = .returned (.int .i64 (appendE tm bs s)) ∧ Lv.Then W w w' S d (appendS tm bs s) (N + 1) := by
  go_enter Try.func30, Try.ntmps30
  go_wp2_with (first | (go_at_call 31; refine (lv_append tm A n c bs h hN hz hA hn hm).mono ?_; rintro e w1 ⟨rfl, h1⟩; have H1 := Lib.hid h1; clear h1))
  go_ret
  exact ⟨rfl, H1.out⟩
set_option maxRecDepth 100000 in
set_option maxHeartbeats 2000000 in
theorem cl4 (h : Lv W w S d s N) (hN : N ≤ 999999999999) (hz : tm.size ≤ maxLen) (h0 : w.cell? ⟨B0, 0, none⟩ = some (.pointer (some ⟨d, 0, none⟩))) (h4 : w.cell? ⟨B4, 0, none⟩ = some (.string tm)) :
    Calls Try.prog 32 #[.pointer (some ⟨B0, 0, none⟩), .pointer (some ⟨B4, 0, none⟩)] w fun e w' => e = .returned (.int .i64 (syncE tm s)) ∧ Lv.Then W w w' S d (syncS tm s) (N + 1) := by
  go_enter Try.func32, Try.ntmps32
  go_wp2_with (first | (go_at_call 33; refine (lv_sync tm h hN hz).mono ?_; rintro e w1 ⟨rfl, h1⟩; have H1 := Lib.hid h1; clear h1))
  go_ret
  exact ⟨rfl, H1.out⟩
set_option maxRecDepth 100000 in
set_option maxHeartbeats 2000000 in
theorem cl5 (h : Lv W w S d s N) (hN : N ≤ 999999999999) (hz : tm.size ≤ maxLen) (hz2 : nm.size ≤ maxLen) (h0 : w.cell? ⟨B0, 0, none⟩ = some (.pointer (some ⟨d, 0, none⟩))) (h4 : w.cell? ⟨B4, 0, none⟩ = some (.string tm)) (h1 : w.cell? ⟨B1, 0, none⟩ = some (.string nm)) :
    Calls Try.prog 34 #[.pointer (some ⟨B0, 0, none⟩), .pointer (some ⟨B4, 0, none⟩), .pointer (some ⟨B1, 0, none⟩)] w fun e w' => e = .returned (.int .i64 (renameE tm nm s)) ∧ Lv.Then W w w' S d (renameS tm nm s) (N + 1) := by
  go_enter Try.func34, Try.ntmps34
  go_wp2_with (first | (go_at_call 35; refine (lv_rename tm nm h hN hz hz2).mono ?_; rintro e w1 ⟨rfl, h1⟩; have H1 := Lib.hid h1; clear h1))
  go_ret
  exact ⟨rfl, H1.out⟩
set_option maxRecDepth 100000 in
set_option maxHeartbeats 2000000 in
/-- The deferred one, where nothing is to be taken away. -/
theorem cl1_no (mb : Bool) (ev : Int) (hn : mb = false ∨ ev = 0 ∨ ev = 34) (h5 : w.cell? ⟨B5, 0, none⟩ = some (.bool mb)) (h3 : w.cell? ⟨B3, 0, none⟩ = some (.int .i64 ev)) :
    CallsD Try.prog 27 #[.pointer (some ⟨B5, 0, none⟩), .pointer (some ⟨B3, 0, none⟩), .pointer (some ⟨B0, 0, none⟩), .pointer (some ⟨B4, 0, none⟩)] u w fun e u' w' => u' = u ∧ e = .returned (.tuple #[]) ∧ w' = w := by
  rcases hn with rfl | rfl | rfl
  · go_enter_d Try.func27, Try.ntmps27
    go_wp2
    go_end0
    exact ⟨rfl, rfl⟩
  · cases mb
    all_goals
      go_enter_d Try.func27, Try.ntmps27
      go_wp2
      go_end0
      exact ⟨rfl, rfl⟩
  · cases mb
    all_goals
      go_enter_d Try.func27, Try.ntmps27
      go_wp2
      go_end0
      exact ⟨rfl, rfl⟩
set_option maxRecDepth 100000 in
set_option maxHeartbeats 2000000 in
theorem cl1_yes (ev : Int) (hn : ev ≠ 0 ∧ ev ≠ 34) (h : Lv W w S d s N) (hN : N ≤ 999999999999) (hz : tm.size ≤ maxLen) (h5 : w.cell? ⟨B5, 0, none⟩ = some (.bool true)) (h3 : w.cell? ⟨B3, 0, none⟩ = some (.int .i64 ev)) (h0 : w.cell? ⟨B0, 0, none⟩ = some (.pointer (some ⟨d, 0, none⟩))) (h4 : w.cell? ⟨B4, 0, none⟩ = some (.string tm)) :
    CallsD Try.prog 27 #[.pointer (some ⟨B5, 0, none⟩), .pointer (some ⟨B3, 0, none⟩), .pointer (some ⟨B0, 0, none⟩), .pointer (some ⟨B4, 0, none⟩)] u w fun e u' w' => u' = u ∧ e = .returned (.tuple #[]) ∧ Lv.Then W w w' S d (removeS tm s) (N + 1) := by
  have e0 : (ev != 0) = true := by simpa using hn.1
  have e34 : (ev != 34) = true := by simpa using hn.2
  go_enter_d Try.func27, Try.ntmps27
  go_wp2_with (first | (go_at_call 26; refine (lv_remove tm h hN hz).mono ?_; rintro e w1 ⟨rfl, h1⟩; have H1 := Lib.hid h1; clear h1))
  go_end0
  exact ⟨rfl, H1.out⟩
end
end Go.Proofs.Ytnecafhakkjbpaa
