import Derived.Test.YtnecafhakkjbpaaRp1
/- ManifestFull: what becomes of the disk: plain laws. -/
namespace Go.Proofs.Ytnecafhakkjbpaa
open Go.RowKit Go.Maps

def t1N : ByteArray := ⟨#[116, 49, 46, 109, 97, 110]⟩
def t1T : ByteArray := ⟨#[116, 49, 46, 109, 97, 110, 46, 116, 109, 112]⟩
section
variable (q u : Int) (old next : List UInt8)
def F0 : Dk := ⟨[⟨old, []⟩], [(t1N, 0)], [], q, u, -1, false, 0⟩
def F1 : Dk := ⟨[⟨old, []⟩, Fl.new], [(t1N, 0)], [.inl (t1T, 1)], q, u, -1, false, 1⟩
def F2 : Dk := ⟨[⟨old, []⟩, ⟨[], [.inl next]⟩], [(t1N, 0)], [.inl (t1T, 1)], q, u + next.length, -1, false, 2⟩
def F3 : Dk := ⟨[⟨old, []⟩, ⟨next, []⟩], [(t1N, 0)], [.inl (t1T, 1)], q, u + next.length, -1, false, 3⟩
def F4 : Dk := ⟨[⟨old, []⟩, ⟨next, []⟩], [(t1N, 0)], [.inl (t1T, 1), .inr (.inl (t1T, t1N))], q, u + next.length - old.length, -1, false, 4⟩
def F5 : Dk := ⟨[⟨old, []⟩, ⟨next, []⟩], [(t1N, 1)], [], q, u + next.length - old.length, -1, false, 5⟩
def F6 : Dk := ⟨[⟨old, []⟩, Fl.new], [(t1N, 0)], [.inl (t1T, 1), .inr (.inr t1T)], q, u - 0, -1, false, 2⟩
theorem f_at0 : atE t1N (F0 q u old) = 0 ∧ atE t1T (F0 q u old) = 31 := ⟨by rfl, by rfl⟩
theorem f_1 : createE t1T (F0 q u old) = 0 ∧ createS t1T (F0 q u old) = F1 q u old := ⟨by rfl, by rfl⟩
theorem f_at1 : ¬ atE t1T (F1 q u old) ≠ 0 := by rw [show atE t1T (F1 q u old) = 0 from rfl]; decide
theorem f_2 (h : ¬ (0 < next.length ∧ q - u < next.length)) : appendE t1T next (F1 q u old) = 0 ∧ appendS t1T next (F1 q u old) = F2 q u old next := by
  have h' : ¬ (0 < next.length ∧ (F1 q u old).quota - (F1 q u old).used < next.length) := h
  unfold appendE appendS
  rw [if_neg (f_at1 q u old), if_neg (f_at1 q u old), if_neg h', if_neg h']
  exact ⟨by rfl, by rfl⟩
theorem f_2' (h : 0 < next.length ∧ q - u < next.length) : appendE t1T next (F1 q u old) = 33 ∧ appendS t1T next (F1 q u old) = F1 q u old := by
  have h' : 0 < next.length ∧ (F1 q u old).quota - (F1 q u old).used < next.length := h
  unfold appendE appendS
  rw [if_neg (f_at1 q u old), if_neg (f_at1 q u old), if_pos h', if_pos h']
  exact ⟨rfl, rfl⟩
theorem f_3 : syncE t1T (F2 q u old next) = 0 ∧ syncS t1T (F2 q u old next) = F3 q u old next := ⟨by rfl, by rfl⟩
theorem f_4 : renameE t1T t1N (F3 q u old next) = 0 ∧ renameS t1T t1N (F3 q u old next) = F4 q u old next := ⟨by rfl, by rfl⟩
theorem f_5 : syncDirE (F4 q u old next) = 0 ∧ syncDirS (F4 q u old next) = F5 q u old next := ⟨by rfl, by rfl⟩
theorem f_6 : removeS t1T (F1 q u old) = F6 q u old := by rfl
theorem f_img5 : imageL (F5 q u old next) = [(t1N, next)] := by rfl
theorem f_img6 : imageL (F6 q u old) = [(t1N, old)] := by rfl
theorem full_yes (h : ¬ (0 < next.length ∧ q - u < next.length)) : replT t1N t1T next (F0 q u old) = (0, F5 q u old next) := by
  unfold replT
  rw [(f_at0 q u old).1, (f_at0 q u old).2]
  simp only [ne_eq, not_true_eq_false, false_and, if_false]
  rw [if_neg (by decide), if_pos trivial]
  unfold runK
  rw [if_pos (show opE t1N t1T next 0 (F0 q u old) = 0 from (f_1 q u old).1), show opS t1N t1T next 0 (F0 q u old) = F1 q u old from (f_1 q u old).2]
  unfold runK
  rw [if_pos (show opE t1N t1T next (0 + 1) (F1 q u old) = 0 from (f_2 q u old next h).1), show opS t1N t1T next (0 + 1) (F1 q u old) = F2 q u old next from (f_2 q u old next h).2]
  unfold runK
  rw [if_pos (show opE t1N t1T next (0 + 1 + 1) (F2 q u old next) = 0 from (f_3 q u old next).1), show opS t1N t1T next (0 + 1 + 1) (F2 q u old next) = F3 q u old next from (f_3 q u old next).2]
  unfold runK
  rw [if_pos (show opE t1N t1T next (0 + 1 + 1 + 1) (F3 q u old next) = 0 from (f_4 q u old next).1), show opS t1N t1T next (0 + 1 + 1 + 1) (F3 q u old next) = F4 q u old next from (f_4 q u old next).2]
  unfold runK
  rw [if_pos (show opE t1N t1T next (0 + 1 + 1 + 1 + 1) (F4 q u old next) = 0 from (f_5 q u old next).1), show opS t1N t1T next (0 + 1 + 1 + 1 + 1) (F4 q u old next) = F5 q u old next from (f_5 q u old next).2]
  rfl
theorem full_no (h : 0 < next.length ∧ q - u < next.length) : replT t1N t1T next (F0 q u old) = (33, F6 q u old) := by
  unfold replT
  rw [(f_at0 q u old).1, (f_at0 q u old).2]
  simp only [ne_eq, not_true_eq_false, false_and, if_false]
  rw [if_neg (by decide), if_pos trivial]
  unfold runK
  rw [if_pos (show opE t1N t1T next 0 (F0 q u old) = 0 from (f_1 q u old).1), show opS t1N t1T next 0 (F0 q u old) = F1 q u old from (f_1 q u old).2]
  unfold runK
  have e : opE t1N t1T next (0 + 1) (F1 q u old) = 33 := (f_2' q u old next h).1
  rw [e, if_neg (by decide), if_pos (by decide), show opS t1N t1T next (0 + 1) (F1 q u old) = F1 q u old from (f_2' q u old next h).2, f_6]
theorem full_start (hu : u = old.length) : ldS q [(t1N, old)] = F0 q u old := by
  subst hu
  show ({ Dk.fresh q with files := (Dk.fresh q).files ++ [⟨old, []⟩], safe := putL t1N (Dk.fresh q).files.length (Dk.fresh q).safe, used := (Dk.fresh q).used + old.length } : Dk) = _
  simp only [Dk.fresh, F0, Int.zero_add]
  rfl
theorem full_ok (h : 0 ≤ q ∧ q ≤ 1073741824) (ho : old.length ≤ 1073741824) : LdOk q [(t1N, old)] :=
  ⟨h, List.pairwise_singleton _ _, fun p hp => by simp at hp; subst hp; exact (show goodN t1N = true by decide), by simp, by simpa [sumL] using ho⟩
end
end Go.Proofs.Ytnecafhakkjbpaa
