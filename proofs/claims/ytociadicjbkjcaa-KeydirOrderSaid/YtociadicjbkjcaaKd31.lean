import Derived.Test.YtociadicjbkjcaaKd30
/- Prefix's iterator gives just the entries whose key begins with the prefix. -/
namespace Go.Proofs.Ytociadicjbkjcaa
open Go.RowKit Go.Maps Go.Shelf

def strip : List UInt8 → List UInt8
  | [] => []
  | x :: l => if x = 255 then strip l else x :: l
theorem strip_rep (m : Nat) (c : UInt8) (r : List UInt8) (hc : c ≠ 255) : strip (List.replicate m 255 ++ c :: r) = c :: r := by
  induction m with
  | zero => simp [strip, hc]
  | succ m ih => rw [List.replicate_succ, List.cons_append]; simp only [strip]; rw [if_pos trivial, ih]
theorem strip_all (m : Nat) : strip (List.replicate m 255) = [] := by
  induction m with
  | zero => rfl
  | succ m ih => rw [List.replicate_succ]; simp only [strip]; rw [if_pos trivial, ih]
theorem strip_spec : ∀ l : List UInt8, ∃ m, l = List.replicate m 255 ++ strip l ∧ (strip l = [] ∨ ∃ c r, strip l = c :: r ∧ c ≠ 255)
  | [] => ⟨0, rfl, .inl rfl⟩
  | x :: l => by
    by_cases h : x = 255
    · obtain ⟨m, h1, h2⟩ := strip_spec l
      refine ⟨m + 1, ?_, ?_⟩
      · simp only [strip]; rw [if_pos h, List.replicate_succ, List.cons_append, ← h1, h]
      · simp only [strip]; rw [if_pos h]; exact h2
    · exact ⟨0, by simp [strip, h], .inr ⟨x, l, by simp [strip, h], h⟩⟩
def hiOf (p : ByteArray) : ByteArray × Bool := match strip p.data.toList.reverse with
  | [] => (⟨#[]⟩, false)
  | c :: r => (⟨(r.reverse ++ [c + 1]).toArray⟩, true)
theorem AftR.val {p : ByteArray} {e : Ending} (h : AftR p e) : e = .returned (.tuple #[.string (hiOf p).1, .bool (hiOf p).2]) := by
  rcases h with ⟨h1, h2⟩ | ⟨q, c, m, hi, h1, h2, h3, h4⟩
  · have hp : p.data.toList = List.replicate p.data.toList.length 255 := List.eq_replicate_iff.2 ⟨rfl, h2⟩
    have : hiOf p = (⟨#[]⟩, false) := by unfold hiOf; rw [hp, List.reverse_replicate, strip_all]
    rw [this, h1]
  · have hr : p.data.toList.reverse = List.replicate m 255 ++ c :: q.reverse := by rw [h2]; simp
    have hh : hi = ⟨(q ++ [c + 1]).toArray⟩ := by
      apply WideShapes.bytes_inj
      rw [h4]
    have : hiOf p = (hi, true) := by unfold hiOf; rw [hr, strip_rep m c _ h3, hh]; simp
    rw [this, h1]
theorem aft_hi (p : ByteArray) : AftR p (.returned (.tuple #[.string (hiOf p).1, .bool (hiOf p).2])) := by
  obtain ⟨m, h1, h2⟩ := strip_spec p.data.toList.reverse
  have hr := congrArg List.reverse h1
  rw [List.reverse_reverse] at hr
  rcases h2 with h2 | ⟨c, r, h2, h3⟩
  · left
    have : hiOf p = (⟨#[]⟩, false) := by unfold hiOf; rw [h2]
    rw [this]
    refine ⟨rfl, fun b hb => ?_⟩
    rw [hr, h2, List.append_nil, List.reverse_replicate] at hb
    exact (List.mem_replicate.1 hb).2
  · right
    have : hiOf p = (⟨(r.reverse ++ [c + 1]).toArray⟩, true) := by unfold hiOf; rw [h2]
    rw [this]
    refine ⟨r.reverse, c, m, _, rfl, ?_, h3, by simp⟩
    rw [hr, h2]
    simp
theorem after_hi (p : ByteArray) (w : World) (hz : p.size ≤ maxLen) :
    Calls Try.prog 45 #[.string p] w fun e w' => e = .returned (.tuple #[.string (hiOf p).1, .bool (hiOf p).2]) ∧ Below w.heap.size w w' := (after_any p w hz).mono fun _ _ h => ⟨h.1.val, h.2⟩

theorem prefix_seq (n : Nat) (hn : 1 ≤ n) (p : ByteArray) (hz : p.size ≤ maxLen) (pb db : Nat) (dp q : Option Addr) (T : Tn) (w : World) (hs : Sorted T.flat) (hk : KeysOk T.flat) (hT : Tr w w.heap.size T q) (hd : DTop w dp q)
    (h1 : Box w pb 9 #[.string p]) (h2 : Box w db 29 #[.pointer dp]) :
    SeqM Wf n Try.prog 44 #[.pointer (some ⟨pb, 0, none⟩), .pointer (some ⟨db, 0, none⟩)] encK Kp (fun ys => ys = T.flat.filter (preB p)) (fun pre => pre <+: T.flat.filter (preB p)) (T.flat.filter (preB p)).length w := by
  obtain ⟨hi, ok, he, h3, h4, h5⟩ := (aft_hi p).pr
  have he' : hiOf p = (hi, ok) := by
    injection he with he
    injection he with he
    have e1 : (#[Value.string (hiOf p).1, Value.bool (hiOf p).2] : Array Value)[0]? = #[Value.string hi, Value.bool ok][0]? := by rw [he]
    have e2 : (#[Value.string (hiOf p).1, Value.bool (hiOf p).2] : Array Value)[1]? = #[Value.string hi, Value.bool ok][1]? := by rw [he]
    have e3 : (hiOf p).1 = hi := by simpa using e1
    have e4 : (hiOf p).2 = ok := by simpa using e2
    rw [← e3, ← e4]
  have hA : ∀ W : World, Calls Try.prog 45 #[.string p] W fun e w' => e = .returned (.tuple #[.string hi, .bool ok]) ∧ Below W.heap.size W w' := fun W => by
    have := after_hi p W hz
    rwa [he'] at this
  cases ok with
  | true => exact prefix_yes n hn p hi hz (by omega) hA h5 pb db dp q T w hs hk hT hd h1 h2
  | false => exact prefix_no n hn p hi hz (by omega) hA (h4 rfl) h5 pb db dp q T w hs hk hT hd h1 h2
theorem prefix_any (dp : Option Addr) (p : ByteArray) (w : World) :
    Calls Try.prog 28 #[.pointer dp, .string p] w fun e w' =>
      e = .returned (.func (.func 44) #[] #[.pointer (some ⟨w.heap.size + 1, 0, none⟩), .pointer (some ⟨w.heap.size, 0, none⟩)]) ∧
      w' = (w.alloc (.cells #[.pointer dp] 29)).alloc (.cells #[.string p] 9) := by
  go_enter Try.func28, Try.ntmps28
  go_wp2
  go_ret
  exact ⟨rfl, rfl⟩
end Go.Proofs.Ytociadicjbkjcaa
