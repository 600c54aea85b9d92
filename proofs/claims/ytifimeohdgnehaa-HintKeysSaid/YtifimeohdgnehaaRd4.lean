import Derived.Test.YtifimeohdgnehaaRd3
namespace Go.Proofs.Ytifimeohdgnehaa
open Go.RowKit Go.Maps

theorem run_str (W : World) (B : Nat) (A : Option Addr) (n cap : Nat) (l : List UInt8) (hn : l.length = n) (hA : Rd W B A (bv l)) :
    (convert 26 9 (.slice A n cap)).run Try.prog W = .ok (.string ⟨l.toArray⟩) W := by
  cases A with
  | some ad =>
    subst hn
    refine run_convert_bytes_back W 26 9 5 ad cap l Try.underlying26 Try.underlying5 Try.underlying9 fun j hj => ?_
    obtain ⟨_, e, _, hc⟩ := hA j (.int .u8 l[j].toNat) (by simp [bv, hj])
    cases e
    exact hc
  | none =>
    have hl : l = [] := by
      cases l with
      | nil => rfl
      | cons x r => obtain ⟨_, e, _⟩ := hA 0 (.int .u8 x.toNat) rfl; cases e
    subst hl
    subst hn
    rw [run_convert_bytes_string W 26 9 5 none _ cap Try.underlying26 Try.underlying5 Try.underlying9]
    simp [Conv.bytesToString]
    rfl
theorem run_part (W : World) (t : TypeId) (ht : Try.prog.underlying t = some (.slice 5)) (hs : ∀ w, (Go.sizeOf 5).run Try.prog w = .ok 1 w) (b : Option Addr) (len cap k m : Nat) (h : Int) (hh : h = k + m) (hm : k + m ≤ cap) :
    (Instr.slice t (.slice b len cap) (some (.int .i64 (k : Int))) (some (.int .i64 h)) none).run Try.prog W = .ok (.slice (tailA b cap k) m (cap - k)) W := by
  have he : Try.prog.elem t = 5 := by simp [Program.elem, ht]
  have ht' : Try.prog.underlying t = some (.slice (Try.prog.elem t)) := by rw [he]; exact ht
  subst hh
  rw [run_slice_lh W t _ _ _ ht' .i64 .i64 _ _ (by omega) (by omega) (by omega), he, hs]
  have e : ((k : Int) + m).toNat = k + m := by omega
  simp [Result.andThen, sliced, tailA, e]

set_option maxRecDepth 100000 in
set_option maxHeartbeats 2000000 in
theorem octTake (p : Nat) (b : Option Addr) (cap n : Nat) (er ea : Int) (l : List UInt8) (at_ : Nat) (w : World) (h : ORx w p b cap er ea l ⟨at_, false⟩) (hn : at_ + n ≤ l.length) (hmx : l.length ≤ 140737488355328) :
    Calls Try.prog 62 #[.pointer (some ⟨p, 0, none⟩), .int .i64 n] w fun e w' => e = .returned (.slice (tailA b cap at_) n (cap - at_)) ∧ ORx w' p b cap er ea l ⟨at_ + n, false⟩ ∧ Chg (fun k => k = p) w w' := by
  have hc := h.box.cell
  have hf := h.box.free
  have hl := h.box.lt
  have hcp := h.cap_
  simp only at hc
  have hd : ∀ n : Nat, (w.drewN n).heap = w.heap := fun _ => rfl
  have H := Lib.hid h
  have hsl := fun W x hx => run_part W 26 Try.underlying26 sizeU8 b l.length cap at_ n x hx (by omega)
  have hsl1 := fun W => hsl W (at_ + n) rfl
  have hw1 : IntKind.i64.wrap ((at_ : Int) + n - n) = at_ := by rw [show (at_ : Int) + n - n = at_ by omega]; exact Go.IntWalk.i64_in _ (by omega)
  have hw2 : IntKind.i64.wrap (at_ : Int) = at_ := Go.IntWalk.i64_in _ (by omega)
  have Hw1 := Lib.hid hw1
  have Hw2 := Lib.hid hw2
  have Hsl := Lib.hid hsl1
  clear h hsl hsl1 hw1 hw2 hd
  go_enter Try.func62, Try.ntmps62
  go_wp2_with (go_at_call 37; refine (octRest p b cap er ea l _ _ H.out hmx).mono ?_; rintro e w1 ⟨rfl, m, rfl⟩)
  have h2 := (H.out.drewN m).set_at (k := at_ + n) hn
  have hc2 := h2.box.cell
  simp only [Int.natCast_add] at hc2
  have H2 := Lib.hid h2
  have hw1 := Hw1.out
  have hw2 := Hw2.out
  have hsl1 := Hsl.out
  clear h2 hc hf
  go_quiet (fail)
  go_wp2
  go_ret
  refine ⟨rfl, ?_, ?_⟩
  · have := H2.out.drewN nq
    simpa using this
  · exact (((Chg.refl (fun j => j = p) w).drewN m).set1 rfl _ _).drewN nq
end Go.Proofs.Ytifimeohdgnehaa
