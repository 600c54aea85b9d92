import Derived.Test.YtmhlgbpgdhhfnaaGreatV34
set_option linter.unusedVariables false
set_option linter.unusedSimpArgs false
namespace Go.Proofs.YtmhlgbpgdhhfnaaGreat
open Go.RowKit Go.Maps Sqz

/-! What a segment's bytes say, as both sides walk it: the records, one after another. No program in sight, but for a row of Placed in memory. -/
abbrev dcd (b : List UInt8) : Int ⊕ (Rc × Nat) := decRR csum rdR b
abbrev PL := Rc × Nat × Nat
theorem dcd_err {b : List UInt8} {e : Int} (h : dcd b = .inl e) : e = 40 ∨ e = 41 := by
  unfold dcd decRR at h
  cases hh : headD b with
  | inl e' =>
    rw [hh] at h
    simp only at h
    injection h with h
    subst h
    unfold headD at hh
    split at hh
    · injection hh with hh; exact .inl hh.symm
    split at hh
    · injection hh with hh; exact .inr hh.symm
    split at hh
    · injection hh with hh; exact .inl hh.symm
    simp only at hh
    split at hh
    · injection hh with hh; exact .inr hh.symm
    split at hh
    · injection hh with hh; exact .inl hh.symm
    cases hh
  | inr n =>
    rw [hh] at h
    simp only at h
    split at h
    · cases h
    injection h with h; exact .inr h.symm
theorem dcd_ok {b : List UInt8} {r : Rc} {n : Nat} (h : dcd b = .inr (r, n)) : 9 ≤ n ∧ n ≤ b.length ∧ chkR r = 0 := by
  unfold dcd decRR at h
  cases hh : headD b with
  | inl e' => rw [hh] at h; simp only at h; cases h
  | inr k =>
    rw [hh] at h
    simp only at h
    split at h
    · rename_i hc
      injection h with h
      injection h with h1 h2
      subst h1 h2
      exact ⟨by omega, (head_split hh).1, hc.1⟩
    cases h
/-- The walk: how far, the last offset, the records. -/
def scan (b : List UInt8) : Nat → Nat → Int → List PL → Nat × Int × List PL
  | 0, at_, last, done => (at_, last, done)
  | f + 1, at_, last, done => match dcd (b.drop at_) with
    | .inl _ => (at_, last, done)
    | .inr (r, n) => if r.off ≤ last then (at_, last, done) else scan b f (at_ + n) r.off (done ++ [(r, at_, n)])
theorem scan_err {b : List UInt8} {f at_ : Nat} {last : Int} {done : List PL} {e : Int} (h : dcd (b.drop at_) = .inl e) : scan b f at_ last done = (at_, last, done) := by
  cases f with
  | zero => rfl
  | succ f => unfold scan; rw [h]
theorem scan_low {b : List UInt8} {f at_ : Nat} {last : Int} {done : List PL} {r : Rc} {n : Nat} (h : dcd (b.drop at_) = .inr (r, n)) (hl : r.off ≤ last) : scan b f at_ last done = (at_, last, done) := by
  cases f with
  | zero => rfl
  | succ f => unfold scan; rw [h]; simp only; rw [if_pos hl]
/-- The walk from here on comes to R. -/
def Sc (b : List UInt8) (R : Nat × Int × List PL) (at_ : Nat) (last : Int) (done : List PL) : Prop := at_ ≤ b.length ∧ done.length ≤ at_ ∧ ∃ f, b.length < f + at_ ∧ scan b f at_ last done = R
section
variable {b : List UInt8} {R : Nat × Int × List PL} {at_ n : Nat} {last : Int} {done : List PL} {r : Rc}
theorem Sc.err {e : Int} (h : Sc b R at_ last done) (hd : dcd (b.drop at_) = .inl e) : R = (at_, last, done) := by
  obtain ⟨_, _, f, _, hf⟩ := h
  rw [← hf, scan_err hd]
theorem Sc.low (h : Sc b R at_ last done) (hd : dcd (b.drop at_) = .inr (r, n)) (hl : r.off ≤ last) : R = (at_, last, done) := by
  obtain ⟨_, _, f, _, hf⟩ := h
  rw [← hf, scan_low hd hl]
theorem Sc.step (h : Sc b R at_ last done) (hd : dcd (b.drop at_) = .inr (r, n)) (hl : ¬ r.off ≤ last) : Sc b R (at_ + n) r.off (done ++ [(r, at_, n)]) := by
  obtain ⟨h1, h2, f, h3, hf⟩ := h
  obtain ⟨k1, k2, _⟩ := dcd_ok hd
  rw [List.length_drop] at k2
  cases f with
  | zero => omega
  | succ f =>
    refine ⟨by omega, by rw [List.length_append]; simp only [List.length_singleton]; omega, f, by omega, ?_⟩
    unfold scan at hf
    rw [hd] at hf
    simp only at hf
    rw [if_neg hl] at hf
    exact hf
end
def scanAll (b : List UInt8) (last : Int) : Nat × Int × List PL := scan b (b.length + 1) 21 last []
theorem Sc.start (b : List UInt8) (last : Int) (h : 21 ≤ b.length) : Sc b (scanAll b last) 21 last [] := ⟨h, by simp, b.length + 1, by omega, rfl⟩
/-- What Look says: the head's words brought up to date, the records. -/
def lookI (b : List UInt8) : Option (Inf × List PL) := match headR csum b with
  | none => none
  | some i =>
    let s := scanAll b i.last
    if s.1 + 17 ≤ b.length ∧ (b.drop s.1).take 17 = tailS (b.take s.1) s.2.2.length s.2.1
    then some (⟨i.topic, i.num, i.base, s.1 + 17, s.2.2.length, s.2.1, true⟩, s.2.2)
    else some (⟨i.topic, i.num, i.base, s.1, s.2.2.length, s.2.1, false⟩, s.2.2)

/-- Look's answer. -/
def lookO (b : List UInt8) : Value × List PL × Value := match lookI b with
  | none => (.agg #[.int .i64 0, .int .i64 0, .int .i64 0, .int .i64 0, .int .i64 0, .int .i64 0, .bool false], [], .agg #[.int .i64 50, .int .i64 0])
  | some (i, l) => (.agg #[.int .i64 i.topic, .int .i64 i.num, .int .i64 i.base, .int .i64 i.size, .int .i64 i.count, .int .i64 i.last, .bool i.sealed], l, .agg #[.int .i64 (if i.size = b.length then 0 else 50), .int .i64 i.size])
theorem lookO_none {b : List UInt8} (hI : headR csum b = none) : lookO b = (.agg #[.int .i64 0, .int .i64 0, .int .i64 0, .int .i64 0, .int .i64 0, .int .i64 0, .bool false], [], .agg #[.int .i64 50, .int .i64 0]) := by
  unfold lookO lookI
  rw [hI]
section
variable {b : List UInt8} {i : Inf} {at_ : Nat} {lst : Int} {done : List PL} (hI : headR csum b = some i) (hs : scanAll b i.last = (at_, lst, done))
include hI hs
theorem lookO_seal (hc : at_ + 17 ≤ b.length) (ht : (b.drop at_).take 17 = tailS (b.take at_) done.length lst) (e : Int) (he : e = if at_ + 17 = b.length then 0 else 50) :
    lookO b = (.agg #[.int .i64 i.topic, .int .i64 i.num, .int .i64 i.base, .int .i64 ((at_ : Int) + 17), .int .i64 done.length, .int .i64 lst, .bool true], done, .agg #[.int .i64 e, .int .i64 ((at_ : Int) + 17)]) := by
  unfold lookO lookI
  rw [hI]
  simp only
  rw [hs]
  simp only
  rw [if_pos ⟨hc, ht⟩, he]
  rfl
theorem lookO_open (hc : ¬ (at_ + 17 ≤ b.length ∧ (b.drop at_).take 17 = tailS (b.take at_) done.length lst)) (e : Int) (he : e = if at_ = b.length then 0 else 50) :
    lookO b = (.agg #[.int .i64 i.topic, .int .i64 i.num, .int .i64 i.base, .int .i64 at_, .int .i64 done.length, .int .i64 lst, .bool false], done, .agg #[.int .i64 e, .int .i64 at_]) := by
  unfold lookO lookI
  rw [hI]
  simp only
  rw [hs]
  simp only
  rw [if_neg hc, he]
end
theorem headR_ok {b : List UInt8} {i : Inf} (h : headR csum b = some i) : i.size = 21 ∧ i.count = 0 ∧ i.last = i.base - 1 ∧ i.sealed = false ∧ 21 ≤ b.length ∧ i.topic < 1073741824 ∧ i.num < 1073741824 ∧ 0 ≤ i.base ∧ i.base ≤ 1099511627776 := by
  unfold headR at h
  split at h
  · cases h
  simp only at h
  split at h
  · cases h
  split at h
  · injection h with h
    subst h
    refine ⟨rfl, rfl, rfl, rfl, by omega, ?_, ?_, ?_, ?_⟩ <;> simp only <;> omega
  cases h
/-- One Placed in memory. -/
def plc (x : PL) : List Value := [.int .i64 x.1.kind, .int .i64 x.1.off, .int .i64 x.1.time, .int .i64 x.1.pid, .int .i64 x.1.seq, .string ⟨x.1.key.toArray⟩, .string ⟨x.1.val.toArray⟩, .int .i64 x.2.1, .int .i64 x.2.2]
theorem plc_get (l : List PL) (i j : Nat) (hi : i < l.length) (hj : j < 9) : (l.flatMap plc)[i * 9 + j]? = (plc l[i])[j]? := by
  induction l generalizing i with
  | nil => simp at hi
  | cons p l ih =>
    rw [List.flatMap_cons]
    cases i with
    | zero => rw [List.getElem?_append_left (by show _ < 9; omega), Nat.zero_mul, Nat.zero_add]; rfl
    | succ i =>
      rw [List.getElem?_append_right (by show 9 ≤ _; omega)]
      rw [show (i + 1) * 9 + j - (plc p).length = i * 9 + j by show _ - 9 = _; omega, ih i (by simpa using hi)]
      rfl
/-- Look's answer, as a call gives it. -/
def LkA (b : List UInt8) (w : World) (e : Ending) (w' : World) : Prop :=
  ∃ v, e = .returned (.tuple #[(lookO b).1, v, (lookO b).2.2]) ∧ w'.ownsRow w.heap.size 35 9 v (lookO b).2.1.length ((lookO b).2.1.flatMap plc) ∧ Below w.heap.size w w'
def lenV : Value → Nat
  | .slice _ n _ => n
  | _ => 0
theorem infoPL : (Tryz.prog.info? 35).map (fun i => (i.zero, i.size, i.bytes)) = some (some (.agg #[.int .i64 0, .int .i64 0, .int .i64 0, .int .i64 0, .int .i64 0, .string ⟨#[]⟩, .string ⟨#[]⟩, .int .i64 0, .int .i64 0]), 9, 88) := by kernel_rfl
end Go.Proofs.YtmhlgbpgdhhfnaaGreat
