import Derived.Test.YtjgdjfmgkmegfaaRd10
namespace Go.Proofs.Ytjgdjfmgkmegfaa
open Go.RowKit Go.Maps

def fxN (t : List UInt8) : Nat := t.foldl (fun v c => v * 256 + c.toNat) 0
theorem fxN_snoc (t : List UInt8) (c : UInt8) : fxN (t ++ [c]) = fxN t * 256 + c.toNat := by simp [fxN, List.foldl_append]
theorem fold_lt : ∀ (t : List UInt8) (v : Nat), t.foldl (fun v c => v * 256 + c.toNat) v < (v + 1) * 256 ^ t.length
  | [], v => by simp
  | c :: t, v => by
    have h := fold_lt t (v * 256 + c.toNat)
    have hc := c.toNat_lt
    rw [List.foldl_cons, List.length_cons, Nat.pow_succ]
    refine Nat.lt_of_lt_of_le h ?_
    rw [Nat.mul_comm (256 ^ t.length) 256, ← Nat.mul_assoc]
    exact Nat.mul_le_mul_right _ (by omega)
theorem fxN_lt (t : List UInt8) : fxN t < 256 ^ t.length := by
  have := fold_lt t 0
  simpa [fxN] using this
theorem shl8_or (v c : Nat) (hv : v < 16777216) (hc : c < 256) : bits .or .u64 ((v : Int) * 256) (c : Int) = ((v * 256 + c : Nat) : Int) := by
  have e : ((v : Int) * 256) = ((v * 256 : Nat) : Int) := by omega
  rw [e, u64_or _ _ (by omega) (by omega)]
  have h := Nat.two_pow_add_eq_or_of_lt (i := 8) (b := c) (by omega) v
  rw [show v * 256 = 2 ^ 8 * v by omega, ← h]

set_option maxRecDepth 100000 in
set_option maxHeartbeats 2000000 in
theorem octFixed4 (p : Nat) (l : List UInt8) (s : RSt) (w : World) (h : ORd w p l s) (hmx : l.length ≤ 140737488355328) :
    Calls Try.prog 92 #[.pointer (some ⟨p, 0, none⟩), .int .i64 4] w fun e w' => e = .returned (.int .u64 (fxN (tkS 4 l s).1)) ∧ RAft p l (tkS 4 l s).2 w w' := by
  have H := Lib.hid h
  have hln := tkS_len (n := 4) (l := l) (s := s)
  clear h
  generalize hr : tkS 4 l s = r at hln
  obtain ⟨t, s'⟩ := r
  have Hr := Lib.hid hr
  clear hr
  simp only at hln
  go_enter Try.func92, Try.ntmps92
  go_wp2_with (go_at_call 89; refine (octTakeS p 4 l s _ H.out hmx).mono ?_; rintro e w1 ⟨A, c, he, h1, h2⟩; rw [Hr.out] at he h1 h2; simp only at he h1 h2; subst he; have HA := Lib.hid h2; have HR := Lib.hid h1; clear h1 h2)
  go_loop [5, 12] (fun v i => ∃ k : Nat, k ≤ t.length ∧ i = .int .i64 k ∧ v = .int .u64 (fxN (t.take k)))
    (fun _ i => t.length - (intOf i).toNat)
  case atStart => exact ⟨0, Nat.zero_le _, rfl, rfl⟩
  case round =>
    obtain ⟨k, hk, rfl, rfl⟩ := hrel
    by_cases hlt : k < t.length
    · obtain ⟨ad, rfl, _, hc⟩ := HR.out k (.int .u8 t[k].toNat) (by simp [bv, hlt])
      have hk0 : (0 : Int) ≤ k := by omega
      have hk1 : (k : Int) < t.length := by omega
      have hv := fxN_lt (t.take k)
      have hv2 : fxN (t.take k) < 16777216 := by
        refine Nat.lt_of_lt_of_le hv (Nat.le_trans (Nat.pow_le_pow_right (by omega) (show (t.take k).length ≤ 3 by rw [List.length_take]; omega)) (by decide))
      have hsn : fxN (t.take (k + 1)) = fxN (t.take k) * 256 + t[k].toNat := by rw [List.take_succ_eq_append_getElem hlt, fxN_snoc]
      have Hsn := Lib.hid hsn
      have hc256 := t[k].toNat_lt
      clear hsn hv
      generalize fxN (t.take k) = v at hv2 Hsn
      generalize t[k].toNat = x at hc hc256 Hsn
      have hor := shl8_or v x hv2 hc256
      go_wp2
      go_round
      case rel => exact ⟨k + 1, by omega, by go_num, by rw [Hsn.out]; go_num⟩
      case measure => simp [intOf]; omega
    · have hke : Hid (t.take k = t) := List.take_of_length_le (by omega)
      go_wp2
      go_ret
      rw [hke.out]
      exact ⟨rfl, HA.out⟩
set_option maxRecDepth 100000 in
theorem octRU32 (p : Nat) (l : List UInt8) (s : RSt) (w : World) (h : ORd w p l s) (hmx : l.length ≤ 140737488355328) :
    Calls Try.prog 80 #[.pointer (some ⟨p, 0, none⟩)] w fun e w' => e = .returned (.int .u32 (fxN (tkS 4 l s).1)) ∧ RAft p l (tkS 4 l s).2 w w' := by
  have H := Lib.hid h
  have hv := fxN_lt (tkS 4 l s).1
  have hv2 : fxN (tkS 4 l s).1 < 4294967296 := Nat.lt_of_lt_of_le hv (Nat.le_trans (Nat.pow_le_pow_right (by omega) (tkS_len (n := 4) (l := l) (s := s))) (by decide))
  clear h hv
  generalize hr : fxN (tkS 4 l s).1 = v at hv2
  have Hr := Lib.hid hr
  clear hr
  go_enter Try.func80, Try.ntmps80
  go_wp2_with (go_at_call 92; refine (octFixed4 p l s _ H.out hmx).mono ?_; rintro e w1 ⟨he, h1⟩; rw [Hr.out] at he; subst he; have HA := Lib.hid h1; clear h1)
  go_ret
  exact ⟨rfl, HA.out⟩

set_option maxRecDepth 100000 in
set_option maxHeartbeats 2000000 in
theorem octRaw (p n : Nat) (l : List UInt8) (s : RSt) (w : World) (h : ORd w p l s) (hn : n ≤ 140737488355000) (hmx : l.length ≤ 140737488355328) :
    Calls Try.prog 81 #[.pointer (some ⟨p, 0, none⟩), .int .i64 n] w fun e w' => ∃ b c, e = .returned (.slice b (tkS n l s).1.length c) ∧ w'.ownsRow w.heap.size 5 1 (.slice b (tkS n l s).1.length c) (tkS n l s).1.length (bv (tkS n l s).1) ∧ RAft p l (tkS n l s).2 w w' := by
  obtain ⟨i0, hi0, hz0, hs0, hy0⟩ := info_parts info_u8
  have H := Lib.hid h
  have hpl := h.lt
  have hln := tkS_len (n := n) (l := l) (s := s)
  clear h
  generalize hr : tkS n l s = r at hln
  obtain ⟨t, s'⟩ := r
  have Hr := Lib.hid hr
  clear hr
  simp only at hln
  go_enter Try.func81, Try.ntmps81
  go_wp2_with (first
    | (go_at_call 89; refine (octTakeS p n l s _ H.out hmx).mono ?_; rintro e w1 ⟨A, c, he, h1, h2⟩; rw [Hr.out] at he h1 h2; simp only at he h1 h2; subst he; have HA := Lib.hid h2; have HR := Lib.hid h1; clear h1 h2)
    | (at_builtin
       refine wpList_app _ rfl (.const (.slice none 0 0)) (.tmp 7) _ rfl w.heap.size 5 i0 _ 1 1 Try.underlying40 hi0 hz0 hs0 hy0 rfl (by omega) (.slice none 0 0) 0 [] rfl (World.ownsRow_nil _ _ _ _) p A t.length c (bv t) rfl (by rw [bv_len, Nat.mul_one]) HR.out (one_bv _) (by unfold maxLen; omega) (by omega) HA.out.2.size ?_
       intro v1 w2 hown hg _
       rw [Nat.zero_add, List.nil_append] at hown
       obtain ⟨b1, cap1, rfl⟩ := ownsRow_slice hown
       have HO := Lib.hid (And.intro hown hg)
       clear hown hg))
  go_ret
  have hcg : Chg (fun j => j = p) w1 w2 := (Chg.of_grown HO.out.2).mono (fun j _ hj => by simp [Value.ownBlock] at hj)
  exact ⟨b1, cap1, rfl, HO.out.1, HA.out.1.chg (Chg.of_grown HO.out.2) (fun k hk => by simp [Value.ownBlock] at hk), HA.out.2.trans hcg⟩

/-- The error at the end: none, if nothing has failed and nothing is left. -/
def EndE (l : List UInt8) (s : RSt) (x : Int) : Prop := (s.fl = false ∧ s.at_ = l.length) ↔ x = 0
set_option maxRecDepth 100000 in
set_option maxHeartbeats 2000000 in
theorem octEnd (p : Nat) (l : List UInt8) (s : RSt) (w : World) (h : ORd w p l s) :
    Calls Try.prog 57 #[.pointer (some ⟨p, 0, none⟩)] w fun e w' => ∃ x y, e = .returned (.agg #[.int .i64 x, .int .i64 y]) ∧ EndE l s x ∧ Below w.heap.size w w' := by
  obtain ⟨b, cap, er, ea, h⟩ := h
  have hc := h.box.cell
  have hl := h.box.lt
  have hle := h.le
  have hb := h.bad
  obtain ⟨at_, fl⟩ := s
  simp only at hc hle hb
  have H := Lib.hid h
  clear h
  cases fl with
  | true =>
    have HE : Hid (EndE l ⟨at_, true⟩ er) := ⟨fun e => absurd e.1 (by simp), fun e => absurd e (hb rfl)⟩
    clear hb
    go_enter Try.func57, Try.ntmps57
    go_wp2
    refine bodyPost_ret (v := .agg #[.int .i64 er, .int .i64 ea]) ?_ rfl ?_
    · simp [results, Try.results57, go_sem]
    refine ⟨er, ea, rfl, HE.out, ?_⟩
    repeat (first | exact (Below.refl _ _).alloc (Nat.le_refl _) _ | refine Below.setCell ?_ (by simp) _)
  | false =>
    by_cases hat : at_ < l.length
    · have HE : Hid (EndE l ⟨at_, false⟩ 13) := ⟨fun e => (by have := e.2; simp only at this; omega), fun e => absurd e (by decide)⟩
      have hd : decide (at_ < l.length) = true := decide_eq_true hat
      clear hb
      go_enter Try.func57, Try.ntmps57
      go_wp2
      go_quiet (fail)
      go_wp2
      refine bodyPost_ret (v := .agg #[.int .i64 13, .int .i64 at_]) ?_ rfl ?_
      · simp [results, Try.results57, go_sem]
      refine ⟨13, at_, rfl, HE.out, ?_⟩
      repeat (first | exact below_drewN ((Below.refl _ _).alloc (Nat.le_refl _) _) _ | refine Below.setCell ?_ (by simp) _)
    · have HE : Hid (EndE l ⟨at_, false⟩ 0) := ⟨fun _ => rfl, fun _ => ⟨rfl, by show at_ = l.length; omega⟩⟩
      have hd : decide (at_ < l.length) = false := decide_eq_false hat
      clear hb
      go_enter Try.func57, Try.ntmps57
      go_wp2
      go_quiet (fail)
      go_wp2
      refine bodyPost_ret (v := .agg #[.int .i64 0, .int .i64 0]) ?_ rfl ?_
      · simp [results, Try.results57, go_sem]
      refine ⟨0, 0, rfl, HE.out, ?_⟩
      repeat (first | exact below_drewN ((Below.refl _ _).alloc (Nat.le_refl _) _) _ | refine Below.setCell ?_ (by simp) _)
end Go.Proofs.Ytjgdjfmgkmegfaa
