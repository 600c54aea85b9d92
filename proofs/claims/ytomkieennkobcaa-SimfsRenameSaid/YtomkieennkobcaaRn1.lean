import Derived.Test.YtomkieennkobcaaSm24
/- The disk of SimfsRename, step by step. -/
namespace Go.Proofs.Ytomkieennkobcaa
open Go.RowKit Go.Maps

def nm : ByteArray := ⟨#[110, 97, 109, 101]⟩
def tp : ByteArray := ⟨#[110, 97, 109, 101, 46, 116, 109, 112]⟩
def R0 : Dk := Dk.fresh 1073741824
def R1 : Dk := ⟨[Fl.new], [], [.inl (nm, 0)], 1073741824, 0, -1, false, 1⟩
def R2 (o : List UInt8) : Dk := ⟨[⟨[], [.inl o]⟩], [], [.inl (nm, 0)], 1073741824, 0 + o.length, -1, false, 2⟩
def R3 (o : List UInt8) : Dk := ⟨[⟨o, []⟩], [], [.inl (nm, 0)], 1073741824, 0 + o.length, -1, false, 3⟩
def R4 (o : List UInt8) : Dk := ⟨[⟨o, []⟩, Fl.new], [], [.inl (nm, 0), .inl (tp, 1)], 1073741824, 0 + o.length, -1, false, 4⟩
def R5 (o f : List UInt8) : Dk := ⟨[⟨o, []⟩, ⟨[], [.inl f]⟩], [], [.inl (nm, 0), .inl (tp, 1)], 1073741824, 0 + o.length + f.length, -1, false, 5⟩
def R6 (o f : List UInt8) : Dk := ⟨[⟨o, []⟩, ⟨f, []⟩], [], [.inl (nm, 0), .inl (tp, 1)], 1073741824, 0 + o.length + f.length, -1, false, 6⟩
def R7 (o f : List UInt8) : Dk := ⟨[⟨o, []⟩, ⟨f, []⟩], [(nm, 0), (tp, 1)], [], 1073741824, 0 + o.length + f.length, -1, false, 7⟩
def R8 (o f : List UInt8) : Dk := ⟨[⟨o, []⟩, ⟨f, []⟩], [(nm, 0), (tp, 1)], [.inr (.inl (tp, nm))], 1073741824, 0 + o.length + f.length - o.length, -1, false, 8⟩
def R9 (o f : List UInt8) : Dk := ⟨[⟨o, []⟩, ⟨f, []⟩], [(nm, 1)], [], 1073741824, 0 + o.length + f.length - o.length, -1, false, 9⟩
section
variable (o f : List UInt8)
theorem r1 : createE nm R0 = 0 ∧ createS nm R0 = R1 := ⟨by decide, rfl⟩
theorem r2 (h : o.length ≤ 1000) : appendE nm o R1 = 0 ∧ appendS nm o R1 = R2 o := by
  have h0 : ¬ atE nm R1 ≠ 0 := by decide
  have h1 : ¬ (0 < o.length ∧ R1.quota - R1.used < o.length) := fun hx => by have := hx.2; simp [R1] at this; omega
  refine ⟨?_, ?_⟩
  · unfold appendE; rw [if_neg h0, if_neg h1]; rfl
  · unfold appendS; rw [if_neg h0, if_neg h1]; rfl
theorem r3 : syncE nm (R2 o) = 0 ∧ syncS nm (R2 o) = R3 o := ⟨by rfl, by rfl⟩
theorem r4 : createE tp (R3 o) = 0 ∧ createS tp (R3 o) = R4 o := ⟨by rfl, by rfl⟩
theorem r5 (ho : o.length ≤ 1000) (h : f.length ≤ 1000) : appendE tp f (R4 o) = 0 ∧ appendS tp f (R4 o) = R5 o f := by
  have h0 : ¬ atE tp (R4 o) ≠ 0 := by
    rw [show atE tp (R4 o) = 0 from rfl]; decide
  have h1 : ¬ (0 < f.length ∧ (R4 o).quota - (R4 o).used < f.length) := fun hx => by have := hx.2; simp [R4] at this; omega
  refine ⟨?_, ?_⟩
  · unfold appendE; rw [if_neg h0, if_neg h1]; rfl
  · unfold appendS; rw [if_neg h0, if_neg h1]; rfl
theorem r6 : syncE tp (R5 o f) = 0 ∧ syncS tp (R5 o f) = R6 o f := ⟨by rfl, by rfl⟩
theorem r7 : syncDirE (R6 o f) = 0 ∧ syncDirS (R6 o f) = R7 o f := ⟨by rfl, by rfl⟩
theorem r8 : renameE tp nm (R7 o f) = 0 ∧ renameS tp nm (R7 o f) = R8 o f := ⟨by rfl, by rfl⟩
theorem r9 : syncDirE (R8 o f) = 0 ∧ syncDirS (R8 o f) = R9 o f := ⟨by rfl, by rfl⟩
theorem torn0 (x : List UInt8) (ps : List Int) : tornS ⟨x, []⟩ ps = (x, ps.tail) := by simp [tornS]
theorem crash8 (ps : List Int) : crashL (R8 o f) ps = [(nm, o), (tp, f)] ∨ crashL (R8 o f) ps = [(nm, f)] := by
  have hlt : modn (pickV ps) 2 < 2 := modn_lt _ (by decide)
  have e : crashL (R8 o f) ps = (tornAll (R8 o f) (([.inr (.inl (tp, nm))] : List DC).take (modn (pickV ps) 2) |>.foldl ddo [(nm, 0), (tp, 1)]) ps.tail).1 := rfl
  rw [e]
  rcases (show modn (pickV ps) 2 = 0 ∨ modn (pickV ps) 2 = 1 by omega) with h | h
  · left
    rw [h]
    show ((nm, (tornS ⟨o, []⟩ ps.tail).1) :: (tp, (tornS ⟨f, []⟩ (tornS ⟨o, []⟩ ps.tail).2).1) :: [] : List (ByteArray × List UInt8)) = _
    rw [torn0, torn0]
  · right
    rw [h]
    have e2 : (([.inr (.inl (tp, nm))] : List DC).take 1 |>.foldl ddo [(nm, 0), (tp, 1)]) = [(nm, 1)] := by rfl
    rw [e2]
    show ((nm, (tornS ⟨f, []⟩ ps.tail).1) :: [] : List (ByteArray × List UInt8)) = _
    rw [torn0]
theorem crash9 (ps : List Int) : crashL (R9 o f) ps = [(nm, f)] := by
  have e : crashL (R9 o f) ps = (tornAll (R9 o f) (([] : List DC).take (modn (pickV ps) 1) |>.foldl ddo [(nm, 1)]) ps.tail).1 := rfl
  rw [e, List.take_nil]
  show ((nm, (tornS ⟨f, []⟩ ps.tail).1) :: [] : List (ByteArray × List UInt8)) = _
  rw [torn0]
theorem read9 : readE nm 0 (f.length + 1) (R9 o f) = 0 ∧ readV nm 0 (f.length + 1) (R9 o f) = f := by
  have h0 : ¬ atE nm (R9 o f) ≠ 0 := by
    rw [show atE nm (R9 o f) = 0 from rfl]; decide
  have hs : ((R9 o f).fl ((R9 o f).num nm)).seen = f := rfl
  have hE : readE nm 0 (f.length + 1) (R9 o f) = 0 := by
    unfold readE
    rw [if_neg h0, hs, if_neg (by omega)]
  refine ⟨hE, ?_⟩
  unfold readV
  rw [hE, if_neg (by decide), hs]
  have : ((f.length : Int) + 1).toNat = f.length + 1 := by omega
  rw [this]
  simp only [Int.toNat_zero, List.drop_zero]
  exact List.take_of_length_le (by omega)
end
end Go.Proofs.Ytomkieennkobcaa
