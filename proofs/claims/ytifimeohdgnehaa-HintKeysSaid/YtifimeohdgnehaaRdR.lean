import Derived.Test.YtifimeohdgnehaaRd7
namespace Go.Proofs.Ytifimeohdgnehaa
open Go.RowKit Go.Maps

set_option maxRecDepth 100000 in
theorem refRest (p : Nat) (b : Option Addr) (cap : Nat) (er ea : Int) (l : List UInt8) (s : RSt) (w : World) (h : RRx w p b cap er ea l s) (hmx : l.length ≤ 140737488355328) :
    Calls Try.prog 43 #[.pointer (some ⟨p, 0, none⟩)] w fun e w' => e = .returned (.int .i64 ((l.length : Int) - s.at_)) ∧ ∃ n, w' = w.drewN n := by
  have hc := h.box.cell
  have hl := h.box.lt
  have hle := h.le
  obtain ⟨at_, fl⟩ := s
  simp only at hc hle
  clear h
  go_enter Try.func43, Try.ntmps43
  go_wp2
  go_quiet (fail)
  go_wp2
  go_ret
  exact ⟨rfl, _, rfl⟩

end Go.Proofs.Ytifimeohdgnehaa
