import Derived.Test.YtebeefkibbbkdaaSm23
/- The calls of a disk, with what they keep. -/
namespace Go.Proofs.Ytebeefkibbbkdaa
open Go.RowKit Go.Maps

/-- A disk of the call's own, made behind world W; what it keeps. -/
def Lv (W w : World) (S : Nat → Prop) (d : Nat) (s : Dk) (N : Nat) : Prop := Disk w S d s ∧ (∀ b, S b → W.heap.size ≤ b) ∧ Below W.heap.size W w ∧ s.Inv N
/-- .. and what a call may touch. -/
def Lv.Then (W w w' : World) (S : Nat → Prop) (d : Nat) (s' : Dk) (N : Nat) : Prop := ∃ S', Lv W w' S' d s' N ∧ Chg S w w' ∧ ∀ b, S' b → S b ∨ w.heap.size ≤ b
section
variable {W w w' : World} {S : Nat → Prop} {d N : Nat} {s s' : Dk}
theorem Lv.next (h : Lv W w S d s N) (hb : Below w.heap.size w w') : Lv W w' S d s N := ⟨h.1.next hb, h.2.1, h.2.2.1.trans (hb.mono h.2.2.1.size), h.2.2.2⟩
theorem Lv.drew (h : Lv W w S d s N) : Lv W w.drew S d s N := h.next (below_drew (Below.refl _ _))
theorem Lv.drewN (h : Lv W w S d s N) (k : Nat) : Lv W (w.drewN k) S d s N := h.next (below_drewN (Below.refl _ _) k)
/-- Another's call leaves it. -/
theorem Lv.far {S2 : Nat → Prop} (h : Lv W w S d s N) (hc : Chg S2 w w') (hn : ∀ b, S b → ¬ S2 b) (h2 : ∀ b, S2 b → W.heap.size ≤ b) : Lv W w' S d s N :=
  ⟨h.1.chg hc hn, h.2.1, h.2.2.1.trans (hc.below h.2.2.1.size h2), h.2.2.2⟩
theorem Lv.did {M : Nat} (h : Lv W w S d s N) (hd : Did w w' S d s') (hi : s'.Inv M) : Lv.Then W w w' S d s' M := by
  obtain ⟨S', h1, h2, h3⟩ := hd
  refine ⟨S', ⟨h1, fun b hb => ?_, h.2.2.1.trans (h2.below h.2.2.1.size h.2.1), hi⟩, h2, h3⟩
  have := h.2.2.1.size
  rcases h3 b hb with h4 | h4
  · exact h.2.1 b h4
  · omega
theorem Lv.made {q : Int} {d : Nat} (h : Disk w' S d (Dk.fresh q)) (hS : ∀ b, S b → w.heap.size ≤ b) (hb : Below w.heap.size w w') (hw : Below W.heap.size W w) (hq : 0 ≤ q ∧ q ≤ 1073741824) : Lv W w' S d (Dk.fresh q) 0 :=
  ⟨h, fun b hb => Nat.le_trans hw.size (hS b hb), hw.trans (hb.mono hw.size), Dk.fresh_inv hq⟩
/-- Bytes that were handed in. -/
theorem Lv.out (h : Lv W w S d s N) {A : Option Addr} {bs : List UInt8} (hA : Rd W W.heap.size A (bv bs)) : Out w S A bs := by
  refine ⟨fun j u hj => ?_, fun ad e hne hs => ?_⟩
  · obtain ⟨ad, e, hb, hc⟩ := hA j u hj
    exact ⟨ad, e, Nat.lt_of_lt_of_le hb h.2.2.1.size, by rw [← hc]; exact cell_heap (by rw [add_block]; exact h.2.2.1.block _ hb)⟩
  · obtain ⟨x, r, rfl⟩ : ∃ x r, bs = x :: r := by cases bs; exact absurd rfl hne; exact ⟨_, _, rfl⟩
    obtain ⟨ad', e', hb, _⟩ := hA 0 _ rfl
    rw [e] at e'
    injection e' with e'
    subst e'
    have := h.2.1 _ hs
    omega
theorem lv_create (n : ByteArray) (h : Lv W w S d s N) (hN : N ≤ 999999999999) (hz : n.size ≤ maxLen) :
    Calls Try.prog 29 #[.pointer (some ⟨d, 0, none⟩), .string n] w fun e w' => e = .returned (.int .i64 (createE n s)) ∧ Lv.Then W w w' S d (createS n s) (N + 1) :=
  (create_any S d N s n w h.1 h.2.2.2.ok h.2.2.2.sz.wide h.2.2.2.rg hN hz).mono fun _ _ ⟨h1, h2⟩ => ⟨h1, h.did h2 h.2.2.2.create⟩
theorem lv_sync (n : ByteArray) (h : Lv W w S d s N) (hN : N ≤ 999999999999) (hz : n.size ≤ maxLen) :
    Calls Try.prog 33 #[.pointer (some ⟨d, 0, none⟩), .string n] w fun e w' => e = .returned (.int .i64 (syncE n s)) ∧ Lv.Then W w w' S d (syncS n s) (N + 1) :=
  (sync_any S d N s n w h.1 h.2.2.2.ok h.2.2.2.sz.wide h.2.2.2.rg hN hz).mono fun _ _ ⟨h1, h2⟩ => ⟨h1, h.did h2 h.2.2.2.sync⟩
theorem lv_trunc (n : ByteArray) (x : Int) (h : Lv W w S d s N) (hN : N ≤ 999999999999) (hz : n.size ≤ maxLen) :
    Calls Try.prog 89 #[.pointer (some ⟨d, 0, none⟩), .string n, .int .i64 x] w fun e w' => e = .returned (.int .i64 (truncE n x s)) ∧ Lv.Then W w w' S d (truncS n x s) (N + 1) :=
  (trunc_any S d N s n x w h.1 h.2.2.2.ok h.2.2.2.sz.wide h.2.2.2.rg hN hz).mono fun _ _ ⟨h1, h2⟩ => ⟨h1, h.did h2 h.2.2.2.trunc⟩
theorem lv_remove (n : ByteArray) (h : Lv W w S d s N) (hN : N ≤ 999999999999) (hz : n.size ≤ maxLen) :
    Calls Try.prog 26 #[.pointer (some ⟨d, 0, none⟩), .string n] w fun e w' => e = .returned (.int .i64 (removeE n s)) ∧ Lv.Then W w w' S d (removeS n s) (N + 1) :=
  (remove_any S d N s n w h.1 h.2.2.2.ok h.2.2.2.sz.wide h.2.2.2.rg hN hz).mono fun _ _ ⟨h1, h2⟩ => ⟨h1, h.did h2 h.2.2.2.remove⟩
theorem lv_rename (a b : ByteArray) (h : Lv W w S d s N) (hN : N ≤ 999999999999) (hz : a.size ≤ maxLen) (hz2 : b.size ≤ maxLen) :
    Calls Try.prog 35 #[.pointer (some ⟨d, 0, none⟩), .string a, .string b] w fun e w' => e = .returned (.int .i64 (renameE a b s)) ∧ Lv.Then W w w' S d (renameS a b s) (N + 1) :=
  (rename_any S d N s a b w h.1 h.2.2.2.ok h.2.2.2.sz.wide h.2.2.2.rg hN hz hz2).mono fun _ _ ⟨h1, h2⟩ => ⟨h1, h.did h2 h.2.2.2.rename⟩
theorem lv_syncDir  (h : Lv W w S d s N) (hN : N ≤ 999999999999) :
    Calls Try.prog 36 #[.pointer (some ⟨d, 0, none⟩)] w fun e w' => e = .returned (.int .i64 (syncDirE s)) ∧ Lv.Then W w w' S d (syncDirS s) (N + 1) :=
  (syncDir_any S d N s w h.1 h.2.2.2.ok h.2.2.2.sz.wide h.2.2.2.rg hN).mono fun _ _ ⟨h1, h2⟩ => ⟨h1, h.did h2 h.2.2.2.syncDir⟩
theorem lv_append (n : ByteArray) (A : Option Addr) (m c : Nat) (bs : List UInt8) (h : Lv W w S d s N) (hN : N ≤ 999999999999) (hz : n.size ≤ maxLen) (hA : Out w S A bs) (hm : bs.length = m) (hm2 : m ≤ 140737488355328) :
    Calls Try.prog 31 #[.pointer (some ⟨d, 0, none⟩), .string n, .slice A m c] w fun e w' => e = .returned (.int .i64 (appendE n bs s)) ∧ Lv.Then W w w' S d (appendS n bs s) (N + 1) :=
  (append_any S d N m c s n A bs w h.1 h.2.2.2.ok h.2.2.2.sz.wide h.2.2.2.rg hN hz hA hm (fun h0 hov => by
    obtain ⟨hd, hgn, k, hg⟩ := atE_zero.1 h0
    rw [getL_num hg]
    have h1 := h.2.2.2.len_le hg
    have h2 := h.2.2.2.ub
    have h3 := h.2.2.2.rg.q
    by_cases h4 : 0 < m
    · have : ¬ s.quota - s.used < m := fun h5 => hov ⟨h4, h5⟩
      omega
    · omega) hm2).mono fun _ _ ⟨h1, h2⟩ => ⟨h1, h.did h2 h.2.2.2.append⟩
theorem lv_size (n : ByteArray) (h : Lv W w S d s N) (hz : n.size ≤ maxLen) :
    Calls Try.prog 25 #[.pointer (some ⟨d, 0, none⟩), .string n] w fun e w' => e = .returned (.tuple #[.int .i64 (sizeV n s), .int .i64 (atE n s)]) ∧ Below w.heap.size w w' := size_any S d N s n w h.1 h.2.2.2.ok h.2.2.2.sz.wide hz
theorem lv_read (n : ByteArray) (x y : Int) (h : Lv W w S d s N) (hz : n.size ≤ maxLen) :
    Calls Try.prog 97 #[.pointer (some ⟨d, 0, none⟩), .string n, .int .i64 x, .int .i64 y] w fun e w' => ∃ b cap, e = .returned (.tuple #[.slice b (readV n x y s).length cap, .int .i64 (readE n x y s)]) ∧ w'.ownsRow w.heap.size 5 1 (.slice b (readV n x y s).length cap) (readV n x y s).length (bv (readV n x y s)) ∧ Below w.heap.size w w' := read_any S d N s n x y w h.1 h.2.2.2.ok h.2.2.2.sz.wide hz
theorem lv_crash (ps : List Int) (A : Option Addr) (np c : Nat) (h : Lv W w S d s N) (hN : N ≤ 999999999999) (hP : Rd w w.heap.size A (ps.map (Value.int .i64))) (hnp : ps.length = np) (hc : np ≤ c) (hwf : ∀ x ∈ ps, (Lit.int .i64 x).wf = true) (hpl : np ≤ 140737488355328) :
    Calls Try.prog 10 #[.pointer (some ⟨d, 0, none⟩), .slice A np c] w fun e w' => ∃ us b cap, e = .returned (.slice b (crashL s ps).length cap) ∧ FLs w' w.heap.size (crashL s ps) us (.slice b (crashL s ps).length cap) ∧ Below w.heap.size w w' := crash_any S d N c np s ps A w h.1 h.2.2.2.ok h.2.2.2.sz.wide hN hP hnp hc hwf hpl
theorem new_lv (q : Int) (w : World) (hw : Below W.heap.size W w) (hq : 0 ≤ q ∧ q ≤ 1073741824) : Calls Try.prog 19 #[.int .i64 q] w fun e w' => ∃ d S, e = .returned (.tuple #[.pointer (some ⟨d, 0, none⟩), .int .i64 0]) ∧ Lv W w' S d (Dk.fresh q) 0 ∧ (∀ b, S b → w.heap.size ≤ b) ∧ Below w.heap.size w w' :=
  (new_any q w hq).mono fun _ _ ⟨d, S, h1, h2, h3, h4⟩ => ⟨d, S, h1, Lv.made h2 h3 h4 hw hq, h3, h4⟩
end
end Go.Proofs.Ytebeefkibbbkdaa
