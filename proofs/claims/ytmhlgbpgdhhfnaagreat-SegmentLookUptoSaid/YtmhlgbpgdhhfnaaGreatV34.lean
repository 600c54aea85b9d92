import Derived.Test.YtmhlgbpgdhhfnaaGreatV33
set_option linter.unusedVariables false
set_option linter.unusedSimpArgs false
namespace Go.Proofs.YtmhlgbpgdhhfnaaGreat
open Go.RowKit Go.Maps Sqz

/-! both Decodes are one; numbers of eight bytes, read and written by both sides -/
theorem decs_same (b : List UInt8) : decPR csum b = decRR csum rdR b := decRec_same csum_lt rdR rdR_body b
theorem shl8_or7 (v c : Nat) (hv : v < 72057594037927936) (hc : c < 256) : bits .or .u64 ((v : Int) * 256) (c : Int) = ((v * 256 + c : Nat) : Int) := by
  have e : ((v : Int) * 256) = ((v * 256 : Nat) : Int) := by omega
  rw [e, u64_or _ _ (by omega) (by omega)]
  have h := Nat.two_pow_add_eq_or_of_lt (i := 8) (b := c) (by omega) v
  rw [show v * 256 = 2 ^ 8 * v by omega, ← h]

set_option maxRecDepth 100000 in
set_option maxHeartbeats 2000000 in
theorem octFixed8 (p : Nat) (l : List UInt8) (s : RSt) (w : World) (h : ORd w p l s) (hmx : l.length ≤ 140737488355328) :
    Calls Tryz.prog 48 #[.pointer (some ⟨p, 0, none⟩), .int .i64 8] w fun e w' => e = .returned (.int .u64 (fxN (tkS 8 l s).1)) ∧ RAft p l (tkS 8 l s).2 w w' := by
  have H := Lib.hid h
  have hln := tkS_len (n := 8) (l := l) (s := s)
  clear h
  generalize hr : tkS 8 l s = r at hln
  obtain ⟨t, s'⟩ := r
  have Hr := Lib.hid hr
  clear hr
  simp only at hln
  go_enter Tryz.func48, Tryz.ntmps48
  go_wp2_with (go_at_call 47; refine (octTakeS p 8 l s _ H.out hmx).mono ?_; rintro e w1 ⟨A, c, he, h1, h2⟩; rw [Hr.out] at he h1 h2; simp only at he h1 h2; subst he; have HA := Lib.hid h2; have HR := Lib.hid h1; clear h1 h2)
  go_loop [5, 12] (fun v i => ∃ k : Nat, k ≤ t.length ∧ i = .int .i64 k ∧ v = .int .u64 (fxN (t.take k)))
    (fun _ i => t.length - (intOf i).toNat)
  case atStart => exact ⟨0, Nat.zero_le _, rfl, rfl⟩
  case round =>
    obtain ⟨k, hk, rfl, rfl⟩ := hrel
    by_cases hlt : k < t.length
    · obtain ⟨ad, rfl, _, hc⟩ := HR.out k (.int .u8 t[k].toNat) (by simp [bv, hlt])
      have hk0 : (0 : Int) ≤ k := by omega
      have hk1 : (k : Int) < t.length := by omega
      have hv := fxN_lt (t.take k)
      have hv2 : fxN (t.take k) < 72057594037927936 := by
        refine Nat.lt_of_lt_of_le hv (Nat.le_trans (Nat.pow_le_pow_right (by omega) (show (t.take k).length ≤ 7 by rw [List.length_take]; omega)) (by decide))
      have hsn : fxN (t.take (k + 1)) = fxN (t.take k) * 256 + t[k].toNat := by rw [List.take_succ_eq_append_getElem hlt, fxN_snoc]
      have Hsn := Lib.hid hsn
      have hc256 := t[k].toNat_lt
      clear hsn hv
      generalize fxN (t.take k) = v at hv2 Hsn
      generalize t[k].toNat = x at hc hc256 Hsn
      have hor := shl8_or7 v x hv2 hc256
      go_wp2
      go_round
      case rel => exact ⟨k + 1, by omega, by go_num, by rw [Hsn.out]; go_num⟩
      case measure => simp [intOf]; omega
    have hke : Hid (t.take k = t) := List.take_of_length_le (by omega)
    go_wp2
    go_ret
    rw [hke.out]
    exact ⟨rfl, HA.out⟩
set_option maxRecDepth 100000 in
theorem octRU64 (p : Nat) (l : List UInt8) (s : RSt) (w : World) (h : ORd w p l s) (hmx : l.length ≤ 140737488355328) :
    Calls Tryz.prog 27 #[.pointer (some ⟨p, 0, none⟩)] w fun e w' => e = .returned (.int .u64 (fxN (tkS 8 l s).1)) ∧ RAft p l (tkS 8 l s).2 w w' := by
  have H := Lib.hid h
  have hv := fxN_lt (tkS 8 l s).1
  have hv2 : fxN (tkS 8 l s).1 < 18446744073709551616 := Nat.lt_of_lt_of_le hv (Nat.le_trans (Nat.pow_le_pow_right (by omega) (tkS_len (n := 8) (l := l) (s := s))) (by decide))
  clear h hv
  generalize hr : fxN (tkS 8 l s).1 = v at hv2
  have Hr := Lib.hid hr
  clear hr
  go_enter Tryz.func27, Tryz.ntmps27
  go_wp2_with (go_at_call 48; refine (octFixed8 p l s _ H.out hmx).mono ?_; rintro e w1 ⟨he, h1⟩; rw [Hr.out] at he; subst he; have HA := Lib.hid h1; clear h1)
  go_ret
  exact ⟨rfl, HA.out⟩


theorem bv_be8 (n : Nat) (hn : n < 18446744073709551616) : bv (be8 n) = [.int .u8 ((n : Int) / 72057594037927936), .int .u8 ((n : Int) / 281474976710656 % 256), .int .u8 ((n : Int) / 1099511627776 % 256), .int .u8 ((n : Int) / 4294967296 % 256), .int .u8 ((n : Int) / 16777216 % 256), .int .u8 ((n : Int) / 65536 % 256), .int .u8 ((n : Int) / 256 % 256), .int .u8 ((n : Int) % 256)] := by
  have h1 : n / 4294967296 < 4294967296 := by omega
  have h2 : n % 4294967296 < 4294967296 := by omega
  unfold be8
  rw [← be32_be4 _ h1, ← be32_be4 _ h2, bv_app, bv_be32 _ h1, bv_be32 _ h2]
  simp only [List.cons_append, List.nil_append]
  have e1 : ((n / 4294967296 : Nat) : Int) / 16777216 = (n : Int) / 72057594037927936 := by omega
  have e2 : ((n / 4294967296 : Nat) : Int) / 65536 % 256 = (n : Int) / 281474976710656 % 256 := by omega
  have e3 : ((n / 4294967296 : Nat) : Int) / 256 % 256 = (n : Int) / 1099511627776 % 256 := by omega
  have e4 : ((n / 4294967296 : Nat) : Int) % 256 = (n : Int) / 4294967296 % 256 := by omega
  have e5 : ((n % 4294967296 : Nat) : Int) / 16777216 = (n : Int) / 16777216 % 256 := by omega
  have e6 : ((n % 4294967296 : Nat) : Int) / 65536 % 256 = (n : Int) / 65536 % 256 := by omega
  have e7 : ((n % 4294967296 : Nat) : Int) / 256 % 256 = (n : Int) / 256 % 256 := by omega
  have e8 : ((n % 4294967296 : Nat) : Int) % 256 = (n : Int) % 256 := by omega
  rw [e1, e2, e3, e4, e5, e6, e7, e8]
set_option maxRecDepth 100000 in
set_option maxHeartbeats 2000000 in
theorem refFixed8 (n : Nat) (hn : n < 18446744073709551616) (w : World) : Calls Tryz.prog 21 #[.int .u64 n, .int .i64 8] w fun e w' =>
    ∃ b cap, e = .returned (.slice b 8 cap) ∧ w'.ownsRow w.heap.size 5 1 (.slice b 8 cap) 8 (bv (be8 n)) ∧ Below w.heap.size w w' := by
  have hmk : ∀ W, (Instr.makeSlice 22 (.int .i64 8) (.int .i64 8)).run Tryz.prog W = .ok (.slice (some ⟨W.heap.size, 0, none⟩) 8 8) (W.alloc (.cells #[.int .u8 0, .int .u8 0, .int .u8 0, .int .u8 0, .int .u8 0, .int .u8 0, .int .u8 0, .int .u8 0] 5)) := fun _ => by kernel_rfl
  have Hbe := Lib.hid (bv_be8 n hn)
  go_enter Tryz.func21, Tryz.ntmps21
  go_wp2
  refine wp_loop_rounds 9 ?_
  rw [rounds_succ]
  go_wp2
  rw [rounds_succ]
  go_wp2
  rw [rounds_succ]
  go_wp2
  rw [rounds_succ]
  go_wp2
  rw [rounds_succ]
  go_wp2
  rw [rounds_succ]
  go_wp2
  rw [rounds_succ]
  go_wp2
  rw [rounds_succ]
  go_wp2
  rw [rounds_succ]
  go_wp2
  go_ret
  refine ⟨_, _, rfl, ?_, (Below.refl _ _).alloc (Nat.le_refl _) _⟩
  have e : bv (be8 n) = (#[.int .u8 ((n : Int) / 256 / 256 / 256 / 256 / 256 / 256 / 256 % 256), .int .u8 ((n : Int) / 256 / 256 / 256 / 256 / 256 / 256 % 256), .int .u8 ((n : Int) / 256 / 256 / 256 / 256 / 256 % 256), .int .u8 ((n : Int) / 256 / 256 / 256 / 256 % 256), .int .u8 ((n : Int) / 256 / 256 / 256 % 256), .int .u8 ((n : Int) / 256 / 256 % 256), .int .u8 ((n : Int) / 256 % 256), .int .u8 ((n : Int) % 256)] : Array Value).toList := by
    rw [Hbe.out]
    have e7 : (n : Int) / 256 / 256 / 256 / 256 / 256 / 256 / 256 % 256 = (n : Int) / 72057594037927936 := by omega
    have e6 : (n : Int) / 256 / 256 / 256 / 256 / 256 / 256 % 256 = (n : Int) / 281474976710656 % 256 := by omega
    have e5 : (n : Int) / 256 / 256 / 256 / 256 / 256 % 256 = (n : Int) / 1099511627776 % 256 := by omega
    have e4 : (n : Int) / 256 / 256 / 256 / 256 % 256 = (n : Int) / 4294967296 % 256 := by omega
    have e3 : (n : Int) / 256 / 256 / 256 % 256 = (n : Int) / 16777216 % 256 := by omega
    have e2 : (n : Int) / 256 / 256 % 256 = (n : Int) / 65536 % 256 := by omega
    rw [e7, e6, e5, e4, e3, e2]
  rw [e]
  exact World.ownsRow_lit _ _ 8 (Nat.le_refl _) (by unfold maxLen; omega) rfl

end Go.Proofs.YtmhlgbpgdhhfnaaGreat
namespace Go.Proofs.YtmhlgbpgdhhfnaaGreat
open Go.RowKit Go.Maps Sqz

theorem chg_two {p : Nat} {g g1 : Option Nat} {w w1 w2 : World} (h1 : Chg (fun k => k = p ∨ some k = g) w w1) (h3 : g1 = g ∨ ∃ k, g1 = some k ∧ w.heap.size ≤ k) (h2 : Chg (fun k => k = p ∨ some k = g1) w1 w2) : Chg (fun k => k = p ∨ some k = g) w w2 := by
  refine ⟨h2.os.trans h1.os, h2.tape.trans h1.tape, h2.output.trans h1.output, Nat.le_trans h1.size h2.size, fun k hk hn => (h2.block k (by have := h1.size; omega) ?_).trans (h1.block k hk hn)⟩
  rintro (e | e)
  · exact hn (.inl e)
  rcases h3 with h3 | ⟨k', h3, h4⟩
  · rw [h3] at e; exact hn (.inr e)
  rw [h3] at e; cases e; omega
set_option maxRecDepth 100000 in
set_option maxHeartbeats 2000000 in
theorem wU64 (p : Nat) (g : Option Nat) (l : List UInt8) (n : Nat) (hn : n < 18446744073709551616) (w : World) (h : Wrt w 85 p g l) (hlen : l.length ≤ 100000000000) :
    Calls Tryz.prog 33 #[.pointer (some ⟨p, 0, none⟩), .int .u64 n] w fun e w' =>
      e = .returned (.tuple #[]) ∧ ∃ g', Wrt w' 85 p g' (l ++ be8 n) ∧ Chg (fun k => k = p ∨ some k = g) w w' ∧ (g' = g ∨ ∃ k, g' = some k ∧ w.heap.size ≤ k) := by
  have H := Lib.hid h
  clear h
  have k1 : n / 4294967296 < 4294967296 := by omega
  have k2 : n % 4294967296 < 4294967296 := by omega
  have k3 : IntKind.u32.wrap ((n : Int) / 4294967296) = ((n / 4294967296 : Nat) : Int) := by rw [IntKind.wrap_u32]; omega
  have k4 : IntKind.u32.wrap (n : Int) = ((n % 4294967296 : Nat) : Int) := by rw [IntKind.wrap_u32]; omega
  have HB8 : Hid (be32 (n / 4294967296) ++ be32 (n % 4294967296) = be8 n) := by show _ = _; rw [be32_be4 _ k1, be32_be4 _ k2]; rfl
  generalize n / 4294967296 = hi at k1 k3 HB8
  generalize n % 4294967296 = lo at k2 k4 HB8
  go_enter Tryz.func33, Tryz.ntmps33
  go_wp2_with (first
    | (go_at_call 32
       refine (wU32 p g l hi k1 _ H.out (by omega)).mono ?_
       rintro e w1 ⟨rfl, g1, h1, h2, h3⟩
       have H1 := Lib.hid (And.intro h1 (And.intro h2 h3))
       clear h1 h2 h3 H k1)
    | (go_at_call 32
       refine (wU32 p g1 (l ++ be32 hi) lo k2 _ H1.out.1 (by rw [List.length_append, be32_len]; omega)).mono ?_
       rintro e w2 ⟨rfl, g2, h1, h2, h3⟩
       have H2 := Lib.hid (And.intro h1 (And.intro h2 h3))
       clear h1 h2 h3))
  go_end0
  refine ⟨rfl, g2, by rw [← HB8.out, ← List.append_assoc]; exact H2.out.1, ?_, ?_⟩
  · exact chg_two H1.out.2.1 H1.out.2.2 H2.out.2.1
  rcases H2.out.2.2 with h | ⟨k, h, hk⟩
  · rw [h]; exact H1.out.2.2
  exact .inr ⟨k, h, Nat.le_trans H1.out.2.1.size hk⟩
end Go.Proofs.YtmhlgbpgdhhfnaaGreat
namespace Go.Proofs.YtmhlgbpgdhhfnaaGreat
open Go.RowKit Go.Maps Sqz

set_option maxRecDepth 100000 in
set_option maxHeartbeats 2000000 in
theorem same5_any (A A' : Option Addr) (n c n' c' : Nat) (l l' : List UInt8) (w : World) (hA : Rd w w.heap.size A (bv l)) (hn : l.length = n) (hA' : Rd w w.heap.size A' (bv l')) (hn' : l'.length = n') (hmx : n ≤ 1000000000) (hmx' : n' ≤ 1000000000) :
    Calls Tryz.prog 11 #[.slice A n c, .slice A' n' c'] w fun e w' => e = .returned (.bool (decide (l = l'))) ∧ ∃ m, w' = w.drewN m := by
  go_enter Tryz.func11, Tryz.ntmps11
  by_cases hnn : n = n'
  · subst hnn
    have HA := Lib.hid hA
    have HA' := Lib.hid hA'
    have Hn := Lib.hid hn
    have Hn' := Lib.hid hn'
    clear hA hA' hn hn'
    go_wp2
    go_loopw [5] (fun v wr => ∃ (k x : Nat), k ≤ n ∧ v = .int .i64 k ∧ wr = w.drewN x ∧ l.take k = l'.take k) (fun v _ => n - (intOf v).toNat)
    case atStart => exact ⟨0, 0, Nat.zero_le _, rfl, rfl, rfl⟩
    case round =>
      obtain ⟨k, x, hk, rfl, rfl, htk⟩ := hrel
      have HT := Lib.hid htk
      clear htk
      by_cases hlt : k < n
      · have g1 : k < l.length := by rw [Hn.out]; exact hlt
        have g2 : k < l'.length := by rw [Hn'.out]; exact hlt
        obtain ⟨ad, rfl, had, p0⟩ := HA.out k (.int .u8 (l[k]'g1).toNat) (by simp [bv, g1])
        obtain ⟨ad', rfl, had', q0⟩ := HA'.out k (.int .u8 (l'[k]'g2).toNat) (by simp [bv, g2])
        by_cases he : l[k]'g1 = l'[k]'g2
        · have HE : Hid (l.take (k + 1) = l'.take (k + 1)) := by
            show _ = _
            rw [List.take_succ_eq_append_getElem g1, List.take_succ_eq_append_getElem g2, HT.out, he]
          rw [← he] at q0
          clear he
          generalize (l[k]'g1).toNat = y at p0 q0
          go_wp2
          go_quiet (fail)
          go_wp2
          go_roundw
          case rel => exact ⟨k + 1, _, by omega, by go_num, rfl, HE.out⟩
          case measure => simp [intOf]; omega
        have HE : Hid (decide (l = l') = false) := decide_eq_false fun e => he (by subst e; rfl)
        have hne : (l[k]'g1).toNat ≠ (l'[k]'g2).toNat := fun h => he (UInt8.toNat_inj.1 h)
        clear he
        generalize (l[k]'g1).toNat = y at p0 hne
        generalize (l'[k]'g2).toNat = z at q0 hne
        have h1 : ((y : Int) == (z : Int)) = false := by simp; omega
        have h2 : (y == z) = false := by simpa using hne
        clear hne
        go_wp2
        go_quiet (fail)
        go_wp2
        go_ret
        rw [HE.out]
        exact ⟨rfl, _, World.drewN_drewN ..⟩
      have HE : Hid (decide (l = l') = true) := by
        refine decide_eq_true ?_
        have := HT.out
        rwa [List.take_of_length_le (by rw [Hn.out]; omega), List.take_of_length_le (by rw [Hn'.out]; omega)] at this
      go_wp2
      go_ret
      rw [HE.out]
      exact ⟨rfl, _, rfl⟩
  have HE : Hid (decide (l = l') = false) := decide_eq_false fun e => hnn (by rw [← hn, ← hn', e])
  have h1 : ((n : Int) == (n' : Int)) = false := by simp; omega
  clear hA hA' hn hn'
  go_wp2
  go_ret
  rw [HE.out]
  exact ⟨rfl, 0, rfl⟩
end Go.Proofs.YtmhlgbpgdhhfnaaGreat
namespace Go.Proofs.YtmhlgbpgdhhfnaaGreat
open Go.RowKit Go.Maps Sqz

theorem w64_mul (V : Int) (x : Int) (hx : x = IntKind.i64.wrap V) (y : Int) : IntKind.i64.wrap (IntKind.i64.wrap (x * 256) + y) = IntKind.i64.wrap (V * 256 + y) := by
  rw [hx]; simp only [IntKind.wrap_i64]; omega
set_option maxRecDepth 100000 in
set_option maxHeartbeats 2000000 in
theorem valueQ_any (A : Option Addr) (n c : Nat) (l : List UInt8) (w : World) (hA : Rd w w.heap.size A (bv l)) (hn : l.length = n) (hmx : n ≤ 140737488355328) :
    Calls Tryz.prog 16 #[.slice A n c] w fun e w' => e = .returned (.int .i64 (IntKind.i64.wrap (val4 l : Nat))) ∧ w' = w := by
  have HA := Lib.hid hA
  have Hn := Lib.hid hn
  clear hA hn
  go_enter Tryz.func16, Tryz.ntmps16
  go_wp2
  go_loop [3, 4] (fun v i => ∃ (k : Nat) (x : Int), k ≤ n ∧ i = .int .i64 k ∧ v = .int .i64 x ∧ x = IntKind.i64.wrap (val4 (l.take k) : Nat)) (fun _ i => n - (intOf i).toNat)
  case atStart => exact ⟨0, 0, Nat.zero_le _, rfl, rfl, rfl⟩
  case round =>
    obtain ⟨k, x, hk, rfl, rfl, hx⟩ := hrel
    by_cases hlt : k < n
    · have g1 : k < l.length := by rw [Hn.out]; exact hlt
      obtain ⟨ad, rfl, had, p0⟩ := HA.out k (.int .u8 (l[k]'g1).toNat) (by simp [bv, g1])
      have hv : val4 (l.take (k + 1)) = val4 (l.take k) * 256 + (l[k]'g1).toNat := by rw [List.take_succ_eq_append_getElem g1, val4_snoc]
      have hw := w64_mul _ x hx ((l[k]'g1).toNat : Int)
      have e1 : (((val4 (l.take k) : Nat) : Int) * 256 + ((l[k]'g1).toNat : Int)) = (val4 (l.take (k + 1)) : Nat) := by rw [hv]; omega
      rw [e1] at hw
      have hyl := (l[k]'g1).toNat_lt
      generalize (l[k]'g1).toNat = y at p0 hw hyl
      obtain ⟨z, hz⟩ : ∃ z, IntKind.i64.wrap (x * 256) = z := ⟨_, rfl⟩
      rw [hz] at hw
      obtain ⟨x2, hx2⟩ : ∃ x2, IntKind.i64.wrap (z + (y : Int)) = x2 := ⟨_, rfl⟩
      have HX := Lib.hid (hx2.symm.trans hw)
      clear hx hv hw e1
      go_wp2
      go_round
      case rel => exact ⟨k + 1, x2, by omega, by go_num, rfl, HX.out⟩
      case measure => simp [intOf]; omega
    have HX : Hid (x = IntKind.i64.wrap (val4 l : Nat)) := by show _ = _; rw [hx, List.take_of_length_le (by rw [Hn.out]; omega)]
    clear hx
    go_wp2
    go_ret
    rw [← HX.out]
    exact ⟨rfl, rfl⟩

/-- An offset as eight bytes carry it. -/
def u64N (x : Int) : Nat := (x % 18446744073709551616).toNat
theorem u64N_lt (x : Int) : u64N x < 18446744073709551616 := by unfold u64N; omega
theorem u64N_wrap (x : Int) : IntKind.u64.wrap x = (u64N x : Nat) := by rw [IntKind.wrap_u64]; unfold u64N; omega
/-- What seals a segment of these bytes. -/
def tailB (count : Nat) (last : Int) : List UInt8 := 174 :: (be4 count ++ be8 (u64N last))
def tailS (b : List UInt8) (count : Nat) (last : Int) : List UInt8 := tailB count last ++ be4 (csum (b ++ tailB count last))
end Go.Proofs.YtmhlgbpgdhhfnaaGreat
namespace Go.Proofs.YtmhlgbpgdhhfnaaGreat
open Go.RowKit Go.Maps Sqz

/-- A row of bytes of the call's own, and pieces of bytes elsewhere. -/
structure AP (w0 w : World) (B : Nat) (v : Value) (n : Nat) (l : List UInt8) (ps : List (Option Addr × List UInt8)) : Prop where
  own : w.ownsRow B 5 1 v n (bv l)
  len : l.length = n
  hB : B ≤ w.heap.size
  below : Below B w0 w
  rd : ∀ p ∈ ps, Rd w w.heap.size p.1 (bv p.2) ∧ ∀ ad, p.1 = some ad → p.2 ≠ [] → v.ownBlock ≠ some ad.block
section
variable {w0 w w' : World} {B n m : Nat} {v v' : Value} {l x : List UInt8} {ps : List (Option Addr × List UInt8)} {A : Option Addr}
theorem AP.on (h : AP w0 w B v n l ps) (hb : Below w.heap.size w w') : AP w0 w' B v n l ps := by
  refine ⟨ownsRow_block h.own fun k hk => hb.block k (h.own.lt k hk).2, h.len, Nat.le_trans h.hB hb.size, h.below.trans (hb.mono h.hB), fun p hp => ?_⟩
  obtain ⟨h1, h2⟩ := h.rd p hp
  exact ⟨(h1.below hb).mono hb.size, h2⟩
theorem AP.call {k c : Nat} (h : AP w0 w B v n l ps) (ho : w'.ownsRow w.heap.size 5 1 (.slice A k c) k (bv x)) (hb : Below w.heap.size w w') : AP w0 w' B v n l ((A, x) :: ps) := by
  have h' := h.on hb
  refine ⟨h'.own, h'.len, h'.hB, h'.below, fun p hp => ?_⟩
  rcases List.mem_cons.1 hp with rfl | hp
  · refine ⟨ownsRow_rd ho, fun ad hA _ hv => ?_⟩
    have h1 := (h.own.lt _ hv).2
    rcases ho.2 with ⟨e, _⟩ | ⟨g, cap, cur, e, hg, _⟩
    · injection e with e; rw [e] at hA; cases hA
    injection e with e
    have hA2 : A = some ad := hA
    rw [e] at hA2
    cases hA2
    exact absurd hg (Nat.not_le_of_lt h1)
  exact h'.rd p hp
theorem AP.app (h : AP w0 w B v n l ps) (ho : w'.ownsRow B 5 1 v' (n + m) (bv l ++ bv x)) (hx : x.length = m) (hg : w.grownBy w' v.ownBlock) (ha : v'.ownBlock = v.ownBlock ∨ v'.ownBlock = some w.heap.size) : AP w0 w' B v' (n + m) (l ++ x) ps := by
  have hc : Chg (fun k => some k = v.ownBlock) w w' := (Chg.of_grown hg).mono fun k _ hk => hk
  have hBk : ∀ k, some k = v.ownBlock → B ≤ k := fun k hk => (h.own.lt k hk.symm).1
  refine ⟨by rw [bv_app]; exact ho, by rw [List.length_append, h.len, hx], Nat.le_trans h.hB hc.size, h.below.trans (hc.below h.hB hBk), fun p hp => ?_⟩
  obtain ⟨h1, h2⟩ := h.rd p hp
  refine ⟨fun j u hu => ?_, fun ad hA hne => ?_⟩
  · obtain ⟨ad, hA, hl, hcel⟩ := h1 j u hu
    refine ⟨ad, hA, Nat.lt_of_lt_of_le hl hc.size, ?_⟩
    rw [← hcel]
    refine cell_of_block ?_
    rw [add_block]
    exact hc.block _ hl fun e => h2 ad hA (by rintro e2; rw [e2] at hu; simp [bv] at hu) e.symm
  rcases ha with ha | ha
  · rw [ha]; exact h2 ad hA hne
  rw [ha]
  intro e
  have e' : w.heap.size = ad.block := Option.some.inj e
  cases hx2 : p.2 with
  | nil => exact absurd hx2 hne
  | cons y r =>
    obtain ⟨ad2, hA2, hl2, _⟩ := h1 0 (.int .u8 y.toNat) (by rw [hx2]; simp [bv])
    rw [hA] at hA2
    cases hA2
    omega
end
theorem AP.start (w : World) (c : UInt8) (x : Int) (hx : x = c.toNat) : AP w (w.alloc (.cells #[.int .u8 x] 5)) w.heap.size (.slice (some ⟨w.heap.size, 0, none⟩) 1 1) 1 [c] [] := by
  refine ⟨?_, rfl, by simp, (Below.refl _ _).alloc (Nat.le_refl _) _, fun p hp => by cases hp⟩
  have e : bv [c] = (#[.int .u8 x] : Array Value).toList := by simp [bv, hx]
  rw [e]
  exact World.ownsRow_lit _ _ 1 (Nat.le_refl _) (by unfold maxLen; omega) rfl
set_option maxRecDepth 100000 in
set_option maxHeartbeats 4000000 in
theorem headOf_any (topic num base : Nat) (w : World) (ht : topic < 1073741824) (hn : num < 1073741824) (hb : base ≤ 1099511627776) :
    Calls Tryz.prog 17 #[.int .i64 topic, .int .i64 num, .int .i64 base] w fun e w' => ∃ b c, e = .returned (.slice b 21 c) ∧ w'.ownsRow w.heap.size 5 1 (.slice b 21 c) 21 (bv (headB csum topic num base)) ∧ Below w.heap.size w w' := by
  obtain ⟨i0, hi0, hz0, hs0, hy0⟩ := info_parts info_u8
  have P0 := Lib.hid (AP.start w 173 173 rfl)
  have k1 : IntKind.u64.wrap (topic : Int) = topic := by rw [IntKind.wrap_u64]; omega
  have k2 : IntKind.u64.wrap (num : Int) = num := by rw [IntKind.wrap_u64]; omega
  have k3 : IntKind.u64.wrap (base : Int) = base := by rw [IntKind.wrap_u64]; omega
  have HF : ∀ s, csum ([173] ++ be32 topic ++ be32 num ++ be8 base) = s → Hid ([173] ++ be32 topic ++ be32 num ++ be8 base ++ be32 s = headB csum topic num base) := by
    rintro s hs
    show _ = _
    have hlt : s < 4294967296 := hs ▸ csum_lt _
    rw [be32_be4 _ hlt]
    rw [be32_be4 topic (by omega), be32_be4 num (by omega)] at hs ⊢
    unfold headB
    rw [← hs]
    simp
  go_enter Tryz.func17, Tryz.ntmps17
  go_wp2_with (first
    | (go_at_call 21
       have zz := P0
       clear zz
       refine (refFixed4 topic (by omega) _).mono ?_
       rintro e w1 ⟨b1, c1, rfl, ho, hb⟩
       have P1 := Lib.hid (P0.out.call ho hb)
       clear ho hb P0)
    | (go_at_call 21
       have zz := P1
       clear zz
       refine (refFixed4 num (by omega) _).mono ?_
       rintro e w2 ⟨b2, c2, rfl, ho, hb⟩
       have P2 := Lib.hid (P1.out.call ho hb)
       clear ho hb P1)
    | (go_at_call 21
       have zz := P2
       clear zz
       refine (refFixed8 base (by omega) _).mono ?_
       rintro e w3 ⟨b3, c3, rfl, ho, hb⟩
       have P3 := Lib.hid (P2.out.call ho hb)
       clear ho hb P2)
    | (at_builtin
       refine wpList_app2 _ rfl (.tmp 22) (.tmp 23) _ rfl w.heap.size 5 i0 _ 1 1 Tryz.underlying22 hi0 hz0 hs0 hy0 rfl (by omega) _ 1 _ rfl P3.out.own _ b1 4 c1 (bv (be32 topic)) rfl (by rw [bv_len]; rfl) (P3.out.rd (b1, (be32 topic)) (by simp)).1 (one_bv _) (by unfold maxLen; omega) (by omega) P3.out.hB ?_
       intro b4 c4 w4 ho hg ha
       have P4 := Lib.hid (P3.out.app ho rfl hg ha)
       clear ho hg ha P3)
    | (at_builtin
       refine wpList_app2 _ rfl (.tmp 25) (.tmp 26) _ rfl w.heap.size 5 i0 _ 1 1 Tryz.underlying22 hi0 hz0 hs0 hy0 rfl (by omega) _ 5 _ rfl P4.out.own _ b2 4 c2 (bv (be32 num)) rfl (by rw [bv_len]; rfl) (P4.out.rd (b2, (be32 num)) (by simp)).1 (one_bv _) (by unfold maxLen; omega) (by omega) P4.out.hB ?_
       intro b5 c5 w5 ho hg ha
       have P5 := Lib.hid (P4.out.app ho rfl hg ha)
       clear ho hg ha P4)
    | (at_builtin
       refine wpList_app2 _ rfl (.tmp 28) (.tmp 29) _ rfl w.heap.size 5 i0 _ 1 1 Tryz.underlying22 hi0 hz0 hs0 hy0 rfl (by omega) _ 9 _ rfl P5.out.own _ b3 8 c3 (bv (be8 base)) rfl (by rw [bv_len]; rfl) (P5.out.rd (b3, (be8 base)) (by simp)).1 (one_bv _) (by unfold maxLen; omega) (by omega) P5.out.hB ?_
       intro b6 c6 w6 ho hg ha
       have P6 := Lib.hid (P5.out.app ho rfl hg ha)
       clear ho hg ha P5)
    | (go_at_call 23
       refine (refSum b6 17 c6 ([173] ++ be32 topic ++ be32 num ++ be8 base) _ (ownsRow_rd P6.out.own) rfl (by unfold maxLen; omega)).mono ?_
       rintro e w7 ⟨rfl, rfl⟩
       obtain ⟨s, hs⟩ : ∃ s, crcE 0 ([173] ++ be32 topic ++ be32 num ++ be8 base) = s := ⟨_, rfl⟩
       rw [hs]
       have hsl : s < 4294967296 := hs ▸ crcE_lt _ _
       have HE := HF s hs
       clear hs HF)
    | (go_at_call 21
       have zz := P6
       clear zz
       refine (refFixed4 s hsl _).mono ?_
       rintro e w8 ⟨b8, c8, rfl, ho, hb⟩
       have P8 := Lib.hid (P6.out.call ho hb)
       clear ho hb P6)
    | (at_builtin
       refine wpList_app2 _ rfl (.tmp 35) (.tmp 36) _ rfl w.heap.size 5 i0 _ 1 1 Tryz.underlying22 hi0 hz0 hs0 hy0 rfl (by omega) _ 17 _ rfl P8.out.own _ b8 4 c8 (bv (be32 s)) rfl (by rw [bv_len]; rfl) (P8.out.rd (b8, (be32 s)) (by simp)).1 (one_bv _) (by unfold maxLen; omega) (by omega) P8.out.hB ?_
       intro b9 c9 w9 ho hg ha
       have P9 := Lib.hid (P8.out.app ho rfl hg ha)
       clear ho hg ha P8))
  go_ret
  rw [← HE.out]
  exact ⟨b9, c9, rfl, P9.out.own, P9.out.below⟩
set_option maxRecDepth 100000 in
set_option maxHeartbeats 4000000 in
theorem tailOf_any (A : Option Addr) (n c count : Nat) (last : Int) (b : List UInt8) (w : World) (hA : Rd w w.heap.size A (bv b)) (hn : b.length = n) (hmx : n ≤ maxLen) (hc : count < 4294967296) :
    Calls Tryz.prog 10 #[.slice A n c, .int .i64 count, .int .i64 last] w fun e w' => ∃ b' c', e = .returned (.slice b' 17 c') ∧ w'.ownsRow w.heap.size 5 1 (.slice b' 17 c') 17 (bv (tailS b count last)) ∧ Below w.heap.size w w' := by
  obtain ⟨i0, hi0, hz0, hs0, hy0⟩ := info_parts info_u8
  have P0 := Lib.hid (AP.start w 174 174 rfl)
  have HA := Lib.hid hA
  have Hn := Lib.hid hn
  have k1 : IntKind.u64.wrap (count : Int) = count := by rw [IntKind.wrap_u64]; omega
  have k2 : IntKind.u64.wrap last = (u64N last : Nat) := u64N_wrap last
  have k3 := u64N_lt last
  have HTB : Hid ([174] ++ be32 count ++ be8 (u64N last) = tailB count last) := by
    show _ = _
    rw [be32_be4 count hc]
    rfl
  clear hA hn
  have HTS : ∀ s, csum (b ++ tailB count last) = s → Hid (tailB count last ++ be32 s = tailS b count last) := by
    rintro s hs
    show _ = _
    have hlt : s < 4294967296 := hs ▸ csum_lt _
    unfold tailS
    rw [be32_be4 _ hlt, hs]
  have HTL : Hid ((tailB count last).length = 13) := rfl
  have hcs := csum_app b (tailB count last)
  generalize u64N last = ll at k2 k3 HTB
  generalize tailB count last = tb at HTB HTS HTL hcs
  go_enter Tryz.func10, Tryz.ntmps10
  go_wp2_with (first
    | (go_at_call 21
       have zz := P0
       clear zz
       refine (refFixed4 count hc _).mono ?_
       rintro e w1 ⟨b1, c1, rfl, ho, hb⟩
       have P1 := Lib.hid (P0.out.call ho hb)
       clear ho hb P0)
    | (go_at_call 21
       have zz := P1
       clear zz
       refine (refFixed8 ll k3 _).mono ?_
       rintro e w2 ⟨b2, c2, rfl, ho, hb⟩
       have P2 := Lib.hid (P1.out.call ho hb)
       clear ho hb P1)
    | (at_builtin
       refine wpList_app2 _ rfl (.tmp 19) (.tmp 20) _ rfl w.heap.size 5 i0 _ 1 1 Tryz.underlying22 hi0 hz0 hs0 hy0 rfl (by omega) _ 1 _ rfl P2.out.own _ b1 4 c1 (bv (be32 count)) rfl (by rw [bv_len]; rfl) (P2.out.rd (b1, (be32 count)) (by simp)).1 (one_bv _) (by unfold maxLen; omega) (by omega) P2.out.hB ?_
       intro b4 c4 w4 ho hg ha
       have P4 := Lib.hid (P2.out.app ho rfl hg ha)
       clear ho hg ha P2)
    | (at_builtin
       refine wpList_app2 _ rfl (.tmp 22) (.tmp 23) _ rfl w.heap.size 5 i0 _ 1 1 Tryz.underlying22 hi0 hz0 hs0 hy0 rfl (by omega) _ 5 _ rfl P4.out.own _ b2 8 c2 (bv (be8 ll)) rfl (by rw [bv_len]; rfl) (P4.out.rd (b2, (be8 ll)) (by simp)).1 (one_bv _) (by unfold maxLen; omega) (by omega) P4.out.hB ?_
       intro b5 c5 w5 ho hg ha
       have P5 := Lib.hid (P4.out.app ho rfl hg ha)
       clear ho hg ha P4)
    | (go_at_call 23
       refine (refSum A n c b _ ((HA.out.below P5.out.below).mono P5.out.hB) Hn.out hmx).mono ?_
       rintro e w6 ⟨rfl, rfl⟩
       obtain ⟨s0, hs0'⟩ : ∃ s0, crcE 0 b = s0 := ⟨_, rfl⟩
       rw [hs0']
       rw [hs0'] at hcs
       have hsl0 : s0 < 4294967296 := hs0' ▸ crcE_lt _ _
       clear hs0')
    | (go_at_call 22
       refine (refExtend s0 hsl0 b5 13 c5 tb _ (by rw [← HTB.out]; exact ownsRow_rd P5.out.own) HTL.out (by unfold maxLen; omega)).mono ?_
       rintro e w7 ⟨rfl, rfl⟩
       obtain ⟨s, hs⟩ : ∃ s, crcE s0 tb = s := ⟨_, rfl⟩
       rw [hs]
       have hsl : s < 4294967296 := hs ▸ crcE_lt _ _
       have HE := HTS s (hcs.symm.trans hs)
       clear hs HTS hcs)
    | (go_at_call 21
       have zz := P5
       clear zz
       refine (refFixed4 s hsl _).mono ?_
       rintro e w8 ⟨b8, c8, rfl, ho, hb⟩
       have P8 := Lib.hid (P5.out.call ho hb)
       clear ho hb P5)
    | (at_builtin
       refine wpList_app2 _ rfl (.tmp 32) (.tmp 33) _ rfl w.heap.size 5 i0 _ 1 1 Tryz.underlying22 hi0 hz0 hs0 hy0 rfl (by omega) _ 13 _ rfl P8.out.own _ b8 4 c8 (bv (be32 s)) rfl (by rw [bv_len]; rfl) (P8.out.rd (b8, (be32 s)) (by simp)).1 (one_bv _) (by unfold maxLen; omega) (by omega) P8.out.hB ?_
       intro b9 c9 w9 ho hg ha
       have P9 := Lib.hid (P8.out.app ho rfl hg ha)
       clear ho hg ha P8))
  go_ret
  rw [← HE.out, ← HTB.out]
  exact ⟨b9, c9, rfl, P9.out.own, P9.out.below⟩
end Go.Proofs.YtmhlgbpgdhhfnaaGreat
