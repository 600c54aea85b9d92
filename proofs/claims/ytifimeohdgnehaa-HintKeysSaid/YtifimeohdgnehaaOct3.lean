import Derived.Test.YtifimeohdgnehaaOct2
import Derived.Lib.ConvBytes
namespace Go.Proofs.Ytifimeohdgnehaa
open Go.RowKit Go.Maps

def be32 (n : Nat) : List UInt8 := [UInt8.ofNat (n / 16777216), UInt8.ofNat (n / 65536), UInt8.ofNat (n / 256), UInt8.ofNat n]
theorem bv_be32 (n : Nat) (hn : n < 4294967296) : bv (be32 n) = [.int .u8 ((n : Int) / 16777216), .int .u8 ((n : Int) / 65536 % 256), .int .u8 ((n : Int) / 256 % 256), .int .u8 ((n : Int) % 256)] := by
  simp [bv, be32]; omega
theorem bytesWorld_below (w : World) (e : TypeId) (s : ByteArray) : Below w.heap.size w (Lib.bytesWorld w e s) :=
  ⟨by simp [Lib.bytesWorld, World.freeze, World.alloc, World.drew, -World.alloc_eq, -World.drew_eq], by simp [Lib.bytesWorld, World.freeze, World.alloc, World.drew, -World.alloc_eq, -World.drew_eq],
    by simp [Lib.bytesWorld, World.freeze, World.alloc, World.drew, -World.alloc_eq, -World.drew_eq], by rw [Lib.bytesWorld_size]; omega, fun k hk => Lib.bytesWorld_at_old w e s k hk⟩
theorem bytesWorld_rd (w : World) (e : TypeId) (s : ByteArray) : Rd (Lib.bytesWorld w e s) (Lib.bytesWorld w e s).heap.size (some ⟨w.heap.size, 0, none⟩) (bv s.data.toList) := by
  intro j u hj
  obtain ⟨hl, hv⟩ := List.getElem?_eq_some_iff.1 hj
  have hl' : j < s.size := by simpa [bv] using hl
  refine ⟨_, rfl, by rw [Lib.bytesWorld_size]; simp, ?_⟩
  have e1 : (⟨w.heap.size, 0, none⟩ : Addr).add j = ⟨w.heap.size, j, none⟩ := by unfold Addr.add; split <;> simp_all
  rw [e1, Lib.bytesWorld_cell w e s j hl', ← hv]
  simp [bv, List.getD_eq_getElem?_getD, hl']

set_option maxRecDepth 100000 in
theorem wU32 (p : Nat) (g : Option Nat) (l : List UInt8) (n : Nat) (hn : n < 4294967296) (w : World) (h : Wrt w 75 p g l) (hlen : l.length ≤ 1000000000000) :
    Calls Try.prog 23 #[.pointer (some ⟨p, 0, none⟩), .int .u32 n] w fun e w' =>
      e = .returned (.tuple #[]) ∧ ∃ g', Wrt w' 75 p g' (l ++ be32 n) ∧ Chg (fun k => k = p ∨ some k = g) w w' ∧ (g' = g ∨ ∃ k, g' = some k ∧ w.heap.size ≤ k) := by
  have H := Lib.hid h
  have Hbe := Lib.hid (bv_be32 n hn)
  clear h
  go_enter Try.func23, Try.ntmps23
  go_wp2_with (go_at_call 27; refine (wRaw p g l _ 4 _ (be32 n) _ (H.out.alloc _) (by rw [Hbe.out]; simpa using rd_new w #[.int .u8 ((n : Int) / 16777216), .int .u8 ((n : Int) / 65536 % 256), .int .u8 ((n : Int) / 256 % 256), .int .u8 ((n : Int) % 256)] 5) rfl (by omega)).mono ?_; rintro e w1 ⟨rfl, g', h1, h2, h3⟩)
  go_end0
  refine ⟨rfl, g', h1, (((Chg.refl _ w).alloc _).trans h2), ?_⟩
  rcases h3 with h3 | ⟨k, h3, h4⟩
  · exact .inl h3
  · exact .inr ⟨k, h3, by simp at h4; omega⟩

set_option maxRecDepth 100000 in
theorem wText (p : Nat) (g : Option Nat) (l : List UInt8) (s : ByteArray) (w : World) (h : Wrt w 75 p g l) (hlen : l.length ≤ 1000000000000) (hs : s.size ≤ 1000000) :
    Calls Try.prog 48 #[.pointer (some ⟨p, 0, none⟩), .string s] w fun e w' =>
      e = .returned (.tuple #[]) ∧ ∃ g', Wrt w' 75 p g' (l ++ (uvar s.size ++ s.data.toList)) ∧ Chg (fun k => k = p ∨ some k = g) w w' ∧ (g' = g ∨ ∃ k, g' = some k ∧ w.heap.size ≤ k) := by
  have hcv := fun W => Lib.run_convert_string_bytes (P := Try.prog) W 9 26 5 s Try.underlying9 Try.underlying26 Try.underlying5
  have H := Lib.hid h
  have Hl := Lib.hid (uvar_le s.size)
  clear h
  go_enter Try.func48, Try.ntmps48
  go_wp2_with (first
    | (go_at_call 47; refine (wUvarint p g l s.size (by omega) _ H.out hlen).mono ?_; rintro e w1 ⟨rfl, g1, h1, h2, h3⟩; have H1 := Lib.hid (And.intro h1 (And.intro h2 h3)); clear h1 h2 h3)
    | (go_at_call 27; refine (wRaw p g1 (l ++ uvar s.size) _ _ _ s.data.toList _ (H1.out.1.below (bytesWorld_below _ _ _)) (bytesWorld_rd _ _ _) rfl (by have := Hl.out; rw [List.length_append]; simp; omega)).mono ?_; rintro e w2 ⟨rfl, g2, h1, h2, h3⟩))
  go_end0
  obtain ⟨r1, r2, r3⟩ := H1.out
  refine ⟨rfl, g2, by rw [← List.append_assoc]; exact h1, ?_, ?_⟩
  · have hc : Chg (fun k => k = p ∨ some k = g1) w1 w2 := (Chg.of_below (bytesWorld_below w1 _ s) _).trans h2
    refine ⟨hc.os.trans r2.os, hc.tape.trans r2.tape, hc.output.trans r2.output, Nat.le_trans r2.size hc.size, fun k hk hn => (hc.block k (Nat.lt_of_lt_of_le hk r2.size) ?_).trans (r2.block k hk hn)⟩
    rintro (e | e)
    · exact hn (.inl e)
    · rcases r3 with r3 | ⟨k', r3, r4⟩
      · exact hn (.inr (e.trans r3))
      · rw [r3] at e; cases e; omega
  · have hs2 := r2.size
    rw [Lib.bytesWorld_size] at h3
    rcases h3 with h3 | ⟨k, h3, h4⟩
    · rcases r3 with r3 | ⟨k', r3, r4⟩
      · exact .inl (h3.trans r3)
      · exact .inr ⟨k', h3.trans r3, r4⟩
    · exact .inr ⟨k, h3, by omega⟩

set_option maxRecDepth 100000 in
theorem rwText (p : Nat) (g : Option Nat) (l : List UInt8) (s : ByteArray) (w : World) (h : Wrt w 81 p g l) (hlen : l.length ≤ 1000000000000) (hs : s.size ≤ 1000000) :
    Calls Try.prog 31 #[.pointer (some ⟨p, 0, none⟩), .string s] w fun e w' =>
      e = .returned (.tuple #[]) ∧ ∃ g', Wrt w' 81 p g' (l ++ (uvar s.size ++ s.data.toList)) ∧ Chg (fun k => k = p ∨ some k = g) w w' ∧ (g' = g ∨ ∃ k, g' = some k ∧ w.heap.size ≤ k) := by
  have hcv := fun W => Lib.run_convert_string_bytes (P := Try.prog) W 9 26 5 s Try.underlying9 Try.underlying26 Try.underlying5
  have H := Lib.hid h
  have Hl := Lib.hid (uvar_le s.size)
  clear h
  go_enter Try.func31, Try.ntmps31
  go_wp2_with (first
    | (go_at_call 52
       refine (refUvarint_any s.size (by omega) _).mono ?_
       rintro e w0 ⟨v, rfl, hown, hb⟩
       have hv := ownsRow_slice hown
       obtain ⟨b, cap, hv⟩ := hv
       subst hv
       have H0 := Lib.hid (And.intro hown hb)
       clear hown hb)
    | (go_at_call 51; refine (rwRaw p g l _ _ _ (uvar s.size) _ (H.out.below H0.out.2) (ownsRow_rd H0.out.1) rfl (by have := Hl.out; omega)).mono ?_; rintro e w1 ⟨rfl, g1, h1, h2, h3⟩
       have H1 : Hid (Wrt w1 81 p g1 (l ++ uvar s.size) ∧ Chg (fun k => k = p ∨ some k = g) w w1 ∧ (g1 = g ∨ ∃ k, g1 = some k ∧ w.heap.size ≤ k)) :=
         ⟨h1, (Chg.of_below H0.out.2 _).trans h2, h3.imp_right fun ⟨k, a, b⟩ => ⟨k, a, Nat.le_trans H0.out.2.size b⟩⟩
       clear h1 h2 h3 H0)
    | (go_at_call 51; refine (rwRaw p g1 (l ++ uvar s.size) _ _ _ s.data.toList _ (H1.out.1.below (bytesWorld_below _ _ _)) (bytesWorld_rd _ _ _) rfl (by have := Hl.out; rw [List.length_append]; simp; omega)).mono ?_; rintro e w2 ⟨rfl, g2, h1, h2, h3⟩))
  go_end0
  obtain ⟨r1, r2, r3⟩ := H1.out
  refine ⟨rfl, g2, by rw [← List.append_assoc]; exact h1, ?_, ?_⟩
  · have hc : Chg (fun k => k = p ∨ some k = g1) w1 w2 := (Chg.of_below (bytesWorld_below w1 _ s) _).trans h2
    refine ⟨hc.os.trans r2.os, hc.tape.trans r2.tape, hc.output.trans r2.output, Nat.le_trans r2.size hc.size, fun k hk hn => (hc.block k (Nat.lt_of_lt_of_le hk r2.size) ?_).trans (r2.block k hk hn)⟩
    rintro (e | e)
    · exact hn (.inl e)
    · rcases r3 with r3 | ⟨k', r3, r4⟩
      · exact hn (.inr (e.trans r3))
      · rw [r3] at e; cases e; omega
  · have hs2 := r2.size
    rw [Lib.bytesWorld_size] at h3
    rcases h3 with h3 | ⟨k, h3, h4⟩
    · rcases r3 with r3 | ⟨k', r3, r4⟩
      · exact .inl (h3.trans r3)
      · exact .inr ⟨k', h3.trans r3, r4⟩
    · exact .inr ⟨k, h3, by omega⟩

set_option maxRecDepth 100000 in
theorem wBytes (p : Nat) (g : Option Nat) (l : List UInt8) (w : World) (h : Wrt w 75 p g l) (hlen : l.length ≤ 1000000000000) :
    Calls Try.prog 26 #[.pointer (some ⟨p, 0, none⟩)] w fun e w' =>
      ∃ b cap, e = .returned (.slice b l.length cap) ∧ w'.ownsRow w.heap.size 5 1 (.slice b l.length cap) l.length (bv l) ∧ Below w.heap.size w w' := by
  obtain ⟨i0, hi0, hz0, hs0, hy0⟩ := info_parts info_u8
  obtain ⟨v, hX, hg, hown⟩ := h
  obtain ⟨b, cap, hv⟩ := ownsRow_slice hown
  subst hv
  have hpl := hX.lt
  have hcx := hX.cell
  go_enter Try.func26, Try.ntmps26
  go_wp2_with (at_builtin
               refine wpList_app2 _ rfl (.const (.slice none 0 0)) (.tmp 8) _ rfl w.heap.size 5 i0 _ 1 1 Try.underlying26 hi0 hz0 hs0 hy0 rfl (by omega) (.slice none 0 0) 0 [] rfl (nil_own _ _ _ _) _ b l.length cap (bv l) rfl (by rw [bv_len]; omega) (ownsRow_rd hown) (one_bv _) (by unfold maxLen; omega) (by omega) (Nat.le_refl _) ?_
               intro b' cap' w1 hown1 hg1 _)
  go_ret
  exact ⟨b', cap', by simp, by simpa using hown1, (Below.refl _ _).grown hg1 (Nat.le_refl _) (by simp [Value.ownBlock])⟩

set_option maxRecDepth 100000 in
theorem rwBytes (p : Nat) (g : Option Nat) (l : List UInt8) (w : World) (h : Wrt w 81 p g l) (hlen : l.length ≤ 1000000000000) :
    Calls Try.prog 33 #[.pointer (some ⟨p, 0, none⟩)] w fun e w' =>
      ∃ b cap, e = .returned (.slice b l.length cap) ∧ w'.ownsRow w.heap.size 5 1 (.slice b l.length cap) l.length (bv l) ∧ Below w.heap.size w w' := by
  obtain ⟨i0, hi0, hz0, hs0, hy0⟩ := info_parts info_u8
  obtain ⟨v, hX, hg, hown⟩ := h
  obtain ⟨b, cap, hv⟩ := ownsRow_slice hown
  subst hv
  have hpl := hX.lt
  have hcx := hX.cell
  go_enter Try.func33, Try.ntmps33
  go_wp2_with (at_builtin
               refine wpList_app2 _ rfl (.tmp 5) (.tmp 9) _ rfl w.heap.size 5 i0 _ 1 1 Try.underlying26 hi0 hz0 hs0 hy0 rfl (by omega) (.slice (some ⟨w.heap.size, 0, none⟩) 0 0) 0 [] rfl (own_empty _ _ _ _ (Nat.le_refl _)) _ b l.length cap (bv l) rfl (by rw [bv_len]; omega) ((ownsRow_rd hown).below ((Below.refl _ _).alloc (Nat.le_refl _) _)) (one_bv _) (by unfold maxLen; omega) (by omega) (by simp) ?_
               intro b' cap' w1 hown1 hg1 _)
  go_ret
  exact ⟨b', cap', by simp, by simpa using hown1, ((Below.refl _ _).alloc (Nat.le_refl _) _).grown hg1 (by simp) (by simp [Value.ownBlock])⟩
end Go.Proofs.Ytifimeohdgnehaa
