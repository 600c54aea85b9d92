import Derived.Test.YtjgdjfmgkmegfaaRd11
import Derived.Test.YtjgdjfmgkmegfaaMan17
namespace Go.Proofs.Ytjgdjfmgkmegfaa
open Go.RowKit Go.Maps

theorem octRestM (p : Nat) (l : List UInt8) (s : RSt) (w : World) (h : ORd w p l s) (hmx : l.length ≤ 140737488355328) :
    Calls Try.prog 82 #[.pointer (some ⟨p, 0, none⟩)] w fun e w' => e = .returned (.int .i64 ((l.length : Int) - s.at_)) ∧ ∃ n, w' = w.drewN n := by
  obtain ⟨b, cap, er, ea, h⟩ := h
  exact octRest p b cap er ea l s w h hmx
theorem octRawI (p n : Nat) (x : Int) (hx : x = n) (l : List UInt8) (s : RSt) (w : World) (h : ORd w p l s) (hn : n ≤ 140737488355000) (hmx : l.length ≤ 140737488355328) :
    Calls Try.prog 81 #[.pointer (some ⟨p, 0, none⟩), .int .i64 x] w fun e w' => ∃ b c, e = .returned (.slice b (tkS n l s).1.length c) ∧ w'.ownsRow w.heap.size 5 1 (.slice b (tkS n l s).1.length c) (tkS n l s).1.length (bv (tkS n l s).1) ∧ RAft p l (tkS n l s).2 w w' := by
  subst hx
  exact octRaw p n l s w h hn hmx
theorem Below.al' (W : World) (o : Obj) : Below W.heap.size W (W.alloc o) := (Below.refl _ _).alloc (Nat.le_refl _) o
theorem RAft.below {w0 w w' : World} {p : Nat} {l : List UInt8} {s : RSt} (h : RAft p l s w w') (hb : Below w0.heap.size w0 w) (hp : w0.heap.size ≤ p) : Below w0.heap.size w0 w' :=
  hb.trans (h.2.below hb.size fun k hk => by omega)

theorem fxN_be32 (n : Nat) (hn : n < 4294967296) : fxN (be32 n) = n := by
  simp [fxN, be32]; omega
theorem be32_fxN {t : List UInt8} (h : t.length = 4) : be32 (fxN t) = t := by
  match t, h with
  | [a, b, c, d], _ =>
    have ha := a.toNat_lt; have hb := b.toNat_lt; have hc := c.toNat_lt; have hd := d.toNat_lt
    simp only [fxN, List.foldl_cons, List.foldl_nil, be32, List.cons.injEq, and_true]
    refine ⟨?_, ?_, ?_, ?_⟩ <;> apply UInt8.toNat_inj.1 <;> simp <;> omega
theorem field0 : ∀ (W : World) (a b : Int), (Instr.field 83 (.agg #[.int .i64 a, .int .i64 b]) 0).run Try.prog W = .ok (.int .i64 a) W := fun _ _ _ => by kernel_rfl
/-- What unwrap answers. -/
def UAns (mark : UInt8) (bs : List UInt8) (w' : World) (e : Ending) : Prop :=
  (∃ (body : List UInt8) (b : Option Addr) (c : Nat), bs = wrapB mark body ∧ body.length < 4294967296 ∧ e = .returned (.tuple #[.slice b body.length c, .bool true]) ∧ Rd w' w'.heap.size b (bv body)) ∨
  ((∀ body : List UInt8, body.length < 4294967296 → bs ≠ wrapB mark body) ∧ ∃ v, e = .returned (.tuple #[v, .bool false]))
theorem tkS_fl {n : Nat} {l : List UInt8} {s : RSt} (h : (tkS n l s).2.fl = false) : s.fl = false ∧ s.at_ + n ≤ l.length ∧ tkS n l s = ((l.drop s.at_).take n, ⟨s.at_ + n, false⟩) := by
  by_cases hb : s.fl = true ∨ l.length < s.at_ + n
  · rw [tkS_bad hb] at h
    have := badS_fl l s
    simp only at h
    rw [h] at this; cases this
  · simp only [not_or, Bool.not_eq_true] at hb
    exact ⟨hb.1, by omega, tkS_ok hb.1 (by omega)⟩
/-- The chain of readings of unwrap, when all went well. -/
theorem chain_ok {bs : List UInt8} {r : Nat} {t1 t2 t3 t4 : List UInt8} {s1 s2 s3 s4 : RSt} (h1 : tkS 1 bs ⟨0, false⟩ = (t1, s1)) (h2 : tkS 4 bs s1 = (t2, s2)) (h3 : tkS 4 bs s2 = (t3, s3)) (h4 : tkS r bs s3 = (t4, s4)) (hf : s4.fl = false) (ha : s4.at_ = bs.length) :
    bs = hd0 t1 :: (t2 ++ (t3 ++ t4)) ∧ t1 = [hd0 t1] ∧ t2.length = 4 ∧ t3.length = 4 ∧ t2 = (bs.drop 1).take 4 ∧ 9 ≤ bs.length := by
  obtain ⟨f3, g4, e4⟩ := tkS_fl (n := r) (l := bs) (s := s3) (by rw [h4]; exact hf)
  obtain ⟨f2, g3, e3⟩ := tkS_fl (n := 4) (l := bs) (s := s2) (by rw [h3]; exact f3)
  obtain ⟨f1, g2, e2⟩ := tkS_fl (n := 4) (l := bs) (s := s1) (by rw [h2]; exact f2)
  obtain ⟨_, g1, e1⟩ := tkS_fl (n := 1) (l := bs) (s := ⟨0, false⟩) (by rw [h1]; exact f1)
  rw [h1] at e1; rw [h2] at e2; rw [h3] at e3; rw [h4] at e4
  simp only [Prod.mk.injEq, Nat.zero_add, List.drop_zero] at e1 e2 e3 e4
  obtain ⟨rfl, rfl⟩ := e1
  obtain ⟨rfl, rfl⟩ := e2
  obtain ⟨rfl, rfl⟩ := e3
  obtain ⟨rfl, rfl⟩ := e4
  simp only at g2 g3 g4 ha
  have h9 : 9 ≤ bs.length := by omega
  match bs, h9 with
  | x :: r5, h9 =>
    have e5 : (x :: r5).take 1 = [x] := by simp
    refine ⟨?_, by simp [hd0], ?_, ?_, rfl, h9⟩
    · rw [e5]
      simp only [hd0, List.drop_succ_cons, List.drop_zero, Nat.reduceAdd]
      congr 1
      have q1 : (r5.drop 8).take r = r5.drop 8 := List.take_of_length_le (by simp at *; omega)
      rw [q1]
      have q2 := List.take_append_drop 4 (r5.drop 4)
      rw [List.drop_drop] at q2
      simp only [Nat.reduceAdd] at q2
      rw [q2, List.take_append_drop]
    · simp at *; omega
    · simp at *; omega
theorem chain_wrap {bs : List UInt8} {mark : UInt8} {r : Nat} {t1 t2 t3 t4 : List UInt8} {s1 s2 s3 s4 : RSt} (h1 : tkS 1 bs ⟨0, false⟩ = (t1, s1)) (h2 : tkS 4 bs s1 = (t2, s2)) (h3 : tkS 4 bs s2 = (t3, s3)) (hr : r = bs.length - s3.at_) (h4 : tkS r bs s3 = (t4, s4))
    {body : List UInt8} (hb : body.length < 4294967296) (he : bs = wrapB mark body) : (s4.fl = false ∧ s4.at_ = bs.length) ∧ hd0 t1 = mark ∧ fxN t2 = t4.length ∧ t4 = body ∧ fxN t3 = crcE (crcE 0 t2) t4 := by
  have hl := wrapB_len mark body
  rw [← he] at hl
  have e1 := tkS_ok (n := 1) (l := bs) (s := ⟨0, false⟩) rfl (by simp; omega)
  rw [h1] at e1
  simp only [Prod.mk.injEq, Nat.zero_add, List.drop_zero] at e1
  obtain ⟨rfl, rfl⟩ := e1
  have e2 := tkS_ok (n := 4) (l := bs) (s := ⟨1, false⟩) rfl (by simp; omega)
  rw [h2] at e2
  simp only [Prod.mk.injEq, Nat.reduceAdd] at e2
  obtain ⟨rfl, rfl⟩ := e2
  have e3 := tkS_ok (n := 4) (l := bs) (s := ⟨5, false⟩) rfl (by simp; omega)
  rw [h3] at e3
  simp only [Prod.mk.injEq, Nat.reduceAdd] at e3
  obtain ⟨rfl, rfl⟩ := e3
  have e4 := tkS_ok (n := r) (l := bs) (s := ⟨9, false⟩) rfl (by simp only at *; omega)
  rw [h4] at e4
  simp only [Prod.mk.injEq] at e4
  obtain ⟨rfl, rfl⟩ := e4
  have q1 : bs.take 1 = [mark] := by rw [he]; rfl
  have q2 : (bs.drop 1).take 4 = be32 body.length := by rw [he]; rfl
  have q3 : (bs.drop 5).take 4 = be32 (crcE (crcE 0 (be32 body.length)) body) := by rw [he]; rfl
  have q4 : (bs.drop 9).take r = body := by
    have : bs.drop 9 = body := by rw [he]; rfl
    rw [this]; exact List.take_of_length_le (by simp only at hr; omega)
  rw [q1, q2, q3, q4]
  refine ⟨⟨rfl, by simp only at hr ⊢; omega⟩, rfl, fxN_be32 _ hb, rfl, fxN_be32 _ (crcE_lt _ _)⟩
theorem chain_back {bs : List UInt8} {mark : UInt8} {t1 t2 t3 t4 : List UInt8} (e : bs = hd0 t1 :: (t2 ++ (t3 ++ t4))) (l2 : t2.length = 4) (l3 : t3.length = 4) (c1 : hd0 t1 = mark) (c2 : fxN t2 = t4.length) (c3 : fxN t3 = crcE (crcE 0 t2) t4) : bs = wrapB mark t4 := by
  rw [e, c1, wrapB, ← c2, be32_fxN l2, ← c3, be32_fxN l3]

set_option maxRecDepth 100000 in
set_option maxHeartbeats 8000000 in
theorem octUnwrap (mark : UInt8) (A : Option Addr) (n c : Nat) (bs : List UInt8) (w : World) (hA : Rd w w.heap.size A (bv bs)) (hn : bs.length = n) (hnc : n ≤ c) (hmx : n ≤ 140737488355000) :
    Calls Try.prog 53 #[.int .u8 mark.toNat, .slice A n c] w fun e w' => UAns mark bs w' e ∧ Below w.heap.size w w' := by
  rcases h1 : tkS 1 bs ⟨0, false⟩ with ⟨t1, s1⟩
  rcases h2 : tkS 4 bs s1 with ⟨t2, s2⟩
  rcases h3 : tkS 4 bs s2 with ⟨t3, s3⟩
  rcases h4 : tkS (bs.length - s3.at_) bs s3 with ⟨t4, s4⟩
  have HA := Lib.hid hA
  have Hn := Lib.hid hn
  have H1 := Lib.hid h1
  have H2 := Lib.hid h2
  have H3 := Lib.hid h3
  have H4 := Lib.hid h4
  have hlx : bs.length ≤ 140737488355000 := by omega
  have Hlx : Hid (bs.length ≤ 140737488355328) := by show _ ≤ _; omega
  have hN := fxN_lt t2
  have hS := fxN_lt t3
  have ht4 : t4.length ≤ bs.length := by have := tkS_len (n := bs.length - s3.at_) (l := bs) (s := s3); rw [h4] at this; simp only at this; omega
  have hl2 : t2.length ≤ 4 := by have := tkS_len (n := 4) (l := bs) (s := s1); rw [h2] at this; exact this
  have hl3 : t3.length ≤ 4 := by have := tkS_len (n := 4) (l := bs) (s := s2); rw [h3] at this; exact this
  have hN2 : fxN t2 < 4294967296 := Nat.lt_of_lt_of_le hN (Nat.le_trans (Nat.pow_le_pow_right (by omega) hl2) (by decide))
  have hS2 : fxN t3 < 4294967296 := Nat.lt_of_lt_of_le hS (Nat.le_trans (Nat.pow_le_pow_right (by omega) hl3) (by decide))
  clear hA hn h1 h2 h3 h4 hN hS hl2 hl3
  generalize hNe : fxN t2 = N at hN2
  generalize hSe : fxN t3 = S at hS2
  generalize hfe : (hd0 t1).toNat = f
  have HV := Lib.hid (And.intro hNe (And.intro hSe hfe))
  clear hNe hSe hfe
  by_cases hfin : s4.fl = false ∧ s4.at_ = bs.length
  · have HF : Hid (∀ x, EndE bs s4 x → x = 0) := fun x h => h.1 hfin
    have HC := Lib.hid (chain_ok H1.out H2.out H3.out H4.out hfin.1 hfin.2)
    have h9 := HC.out.2.2.2.2.2
    generalize hC : crcE (crcE 0 t2) t4 = C
    have HCe := Lib.hid hC
    clear hfin hC
    have hsl : ∀ W, (Instr.slice 40 (.slice A n c) (some (.int .i64 1)) (some (.int .i64 5)) none).run Try.prog W = .ok (.slice (tailA A c 1) 4 (c - 1)) W := fun _ => run_part2 _ A n c 1 4 1 5 rfl rfl (by have := Hn.out; omega)
    by_cases c1 : f = mark.toNat
    case neg =>
      have HNo : Hid (∀ body : List UInt8, body.length < 4294967296 → bs ≠ wrapB mark body) := fun body hb he => by
        have h := chain_wrap H1.out H2.out H3.out rfl H4.out hb he
        exact c1 (by rw [← HV.out.2.2, h.2.1])
      generalize mark.toNat = mk at c1
      have h1 : ((f : Int) != (mk : Int)) = true := by simp; omega
      have h2 : (f != mk) = true := by simp; omega
      clear c1
      have hfd := field0
      go_enter Try.func53, Try.ntmps53
      go_wp2_with (first
        | (go_at_call 54; refine (octNewR A n c bs _ HA.out Hn.out (by omega)).mono ?_; rintro e w1 ⟨p, rfl, hR, hp, hb1⟩; have K0 := Lib.hid (And.intro hR (And.intro hb1 hp)); clear hR hb1 hp)
        | (go_at_call 79; refine (octByte p bs _ _ K0.out.1 Hlx.out).mono ?_; rintro e w2 ⟨he, ha⟩; rw [H1.out] at he ha; simp only at he ha; rw [HV.out.2.2] at he; subst he; have K1 := Lib.hid (And.intro ha.1 (And.intro (RAft.below ha K0.out.2.1 K0.out.2.2) K0.out.2.2)); clear ha K0)
        | (go_at_call 80; refine (octRU32 p bs s1 _ K1.out.1 Hlx.out).mono ?_; rintro e w3 ⟨he, ha⟩; rw [H2.out] at he ha; simp only at he ha; rw [HV.out.1] at he; subst he; have K2 := Lib.hid (And.intro ha.1 (And.intro (RAft.below ha K1.out.2.1 K1.out.2.2) K1.out.2.2)); clear ha K1)
        | (go_at_call 80; refine (octRU32 p bs s2 _ K2.out.1 Hlx.out).mono ?_; rintro e w4 ⟨he, ha⟩; rw [H3.out] at he ha; simp only at he ha; rw [HV.out.2.1] at he; subst he; have K3 := Lib.hid (And.intro ha.1 (And.intro (RAft.below ha K2.out.2.1 K2.out.2.2) K2.out.2.2)); clear ha K2)
        | (go_at_call 82; refine (octRestM p bs s3 _ K3.out.1 Hlx.out).mono ?_; rintro e wr ⟨rfl, nd, rfl⟩; have hle3 := K3.out.1.le; have K4 := Lib.hid (And.intro (K3.out.1.below (below_drewN (Below.refl _ _) nd)) (And.intro (below_drewN K3.out.2.1 nd) K3.out.2.2)); clear K3)
        | (go_at_call 81; refine (octRawI p (bs.length - s3.at_) _ (by omega) bs s3 _ K4.out.1 (by omega) Hlx.out).mono ?_; rintro e w5 ⟨b5, cap5, he, hown, ha⟩; rw [H4.out] at he hown ha; simp only at he hown ha; subst he; have O5 := Lib.hid hown; clear hown; have K5 := Lib.hid (And.intro ha.1 (And.intro (RAft.below ha K4.out.2.1 K4.out.2.2) K4.out.2.2)); clear ha K4)
        | (go_at_call 57; refine (octEnd p bs s4 _ K5.out.1).mono ?_; rintro e w6 ⟨x, y, rfl, hx, hb6⟩; obtain rfl := HF.out x hx; clear hx; have K6 := Lib.hid (And.intro (ownsRow_block O5.out fun k hk => hb6.block k (O5.out.lt k hk).2) (K5.out.2.1.trans (hb6.mono K5.out.2.1.size))); clear hb6 K5 O5))
      go_ret2
      exact ⟨.inr ⟨HNo.out, _, rfl⟩, K6.out.2⟩
    by_cases c2 : N = t4.length
    case neg =>
      have HNo : Hid (∀ body : List UInt8, body.length < 4294967296 → bs ≠ wrapB mark body) := fun body hb he => by
        have h := chain_wrap H1.out H2.out H3.out rfl H4.out hb he
        exact c2 (by rw [← HV.out.1, h.2.2.1])
      subst c1
      have h1 : ((N : Int) != (t4.length : Int)) = true := by simp; omega
      have h2 : (N != t4.length) = true := by simp; omega
      clear c2
      have hfd := field0
      go_enter Try.func53, Try.ntmps53
      go_wp2_with (first
        | (go_at_call 54; refine (octNewR A n c bs _ HA.out Hn.out (by omega)).mono ?_; rintro e w1 ⟨p, rfl, hR, hp, hb1⟩; have K0 := Lib.hid (And.intro hR (And.intro hb1 hp)); clear hR hb1 hp)
        | (go_at_call 79; refine (octByte p bs _ _ K0.out.1 Hlx.out).mono ?_; rintro e w2 ⟨he, ha⟩; rw [H1.out] at he ha; simp only at he ha; rw [HV.out.2.2] at he; subst he; have K1 := Lib.hid (And.intro ha.1 (And.intro (RAft.below ha K0.out.2.1 K0.out.2.2) K0.out.2.2)); clear ha K0)
        | (go_at_call 80; refine (octRU32 p bs s1 _ K1.out.1 Hlx.out).mono ?_; rintro e w3 ⟨he, ha⟩; rw [H2.out] at he ha; simp only at he ha; rw [HV.out.1] at he; subst he; have K2 := Lib.hid (And.intro ha.1 (And.intro (RAft.below ha K1.out.2.1 K1.out.2.2) K1.out.2.2)); clear ha K1)
        | (go_at_call 80; refine (octRU32 p bs s2 _ K2.out.1 Hlx.out).mono ?_; rintro e w4 ⟨he, ha⟩; rw [H3.out] at he ha; simp only at he ha; rw [HV.out.2.1] at he; subst he; have K3 := Lib.hid (And.intro ha.1 (And.intro (RAft.below ha K2.out.2.1 K2.out.2.2) K2.out.2.2)); clear ha K2)
        | (go_at_call 82; refine (octRestM p bs s3 _ K3.out.1 Hlx.out).mono ?_; rintro e wr ⟨rfl, nd, rfl⟩; have hle3 := K3.out.1.le; have K4 := Lib.hid (And.intro (K3.out.1.below (below_drewN (Below.refl _ _) nd)) (And.intro (below_drewN K3.out.2.1 nd) K3.out.2.2)); clear K3)
        | (go_at_call 81; refine (octRawI p (bs.length - s3.at_) _ (by omega) bs s3 _ K4.out.1 (by omega) Hlx.out).mono ?_; rintro e w5 ⟨b5, cap5, he, hown, ha⟩; rw [H4.out] at he hown ha; simp only at he hown ha; subst he; have O5 := Lib.hid hown; clear hown; have K5 := Lib.hid (And.intro ha.1 (And.intro (RAft.below ha K4.out.2.1 K4.out.2.2) K4.out.2.2)); clear ha K4)
        | (go_at_call 57; refine (octEnd p bs s4 _ K5.out.1).mono ?_; rintro e w6 ⟨x, y, rfl, hx, hb6⟩; obtain rfl := HF.out x hx; clear hx; have K6 := Lib.hid (And.intro (ownsRow_block O5.out fun k hk => hb6.block k (O5.out.lt k hk).2) (K5.out.2.1.trans (hb6.mono K5.out.2.1.size))); clear hb6 K5 O5))
      go_ret2
      exact ⟨.inr ⟨HNo.out, _, rfl⟩, K6.out.2⟩
    by_cases c3 : S = C
    case neg =>
      have HNo : Hid (∀ body : List UInt8, body.length < 4294967296 → bs ≠ wrapB mark body) := fun body hb he => by
        have h := chain_wrap H1.out H2.out H3.out rfl H4.out hb he
        exact c3 (by rw [← HV.out.2.1, ← HCe.out, h.2.2.2.2])
      subst c1 c2
      have h1 : ((S : Int) == (C : Int)) = false := by simp; omega
      have h2 : (S == C) = false := by simp; omega
      clear c3
      have hfd := field0
      go_enter Try.func53, Try.ntmps53
      go_wp2_with (first
        | (go_at_call 54; refine (octNewR A n c bs _ HA.out Hn.out (by omega)).mono ?_; rintro e w1 ⟨p, rfl, hR, hp, hb1⟩; have K0 := Lib.hid (And.intro hR (And.intro hb1 hp)); clear hR hb1 hp)
        | (go_at_call 79; refine (octByte p bs _ _ K0.out.1 Hlx.out).mono ?_; rintro e w2 ⟨he, ha⟩; rw [H1.out] at he ha; simp only at he ha; rw [HV.out.2.2] at he; subst he; have K1 := Lib.hid (And.intro ha.1 (And.intro (RAft.below ha K0.out.2.1 K0.out.2.2) K0.out.2.2)); clear ha K0)
        | (go_at_call 80; refine (octRU32 p bs s1 _ K1.out.1 Hlx.out).mono ?_; rintro e w3 ⟨he, ha⟩; rw [H2.out] at he ha; simp only at he ha; rw [HV.out.1] at he; subst he; have K2 := Lib.hid (And.intro ha.1 (And.intro (RAft.below ha K1.out.2.1 K1.out.2.2) K1.out.2.2)); clear ha K1)
        | (go_at_call 80; refine (octRU32 p bs s2 _ K2.out.1 Hlx.out).mono ?_; rintro e w4 ⟨he, ha⟩; rw [H3.out] at he ha; simp only at he ha; rw [HV.out.2.1] at he; subst he; have K3 := Lib.hid (And.intro ha.1 (And.intro (RAft.below ha K2.out.2.1 K2.out.2.2) K2.out.2.2)); clear ha K2)
        | (go_at_call 82; refine (octRestM p bs s3 _ K3.out.1 Hlx.out).mono ?_; rintro e wr ⟨rfl, nd, rfl⟩; have hle3 := K3.out.1.le; have K4 := Lib.hid (And.intro (K3.out.1.below (below_drewN (Below.refl _ _) nd)) (And.intro (below_drewN K3.out.2.1 nd) K3.out.2.2)); clear K3)
        | (go_at_call 81; refine (octRawI p (bs.length - s3.at_) _ (by omega) bs s3 _ K4.out.1 (by omega) Hlx.out).mono ?_; rintro e w5 ⟨b5, cap5, he, hown, ha⟩; rw [H4.out] at he hown ha; simp only at he hown ha; subst he; have O5 := Lib.hid hown; clear hown; have K5 := Lib.hid (And.intro ha.1 (And.intro (RAft.below ha K4.out.2.1 K4.out.2.2) K4.out.2.2)); clear ha K4)
        | (go_at_call 57; refine (octEnd p bs s4 _ K5.out.1).mono ?_; rintro e w6 ⟨x, y, rfl, hx, hb6⟩; obtain rfl := HF.out x hx; clear hx; have K6 := Lib.hid (And.intro (ownsRow_block O5.out fun k hk => hb6.block k (O5.out.lt k hk).2) (K5.out.2.1.trans (hb6.mono K5.out.2.1.size))); clear hb6 K5 O5)
        | (go_at_call 71; refine (octSum (tailA A c 1) 4 (c - 1) t2 _ (by rw [HC.out.2.2.2.2.1]; exact (((HA.out.below K6.out.2).mono K6.out.2.size).tail_ 1 (by have := Hn.out; omega)).take_ 4) HC.out.2.2.1 (by unfold maxLen; omega)).mono ?_; rintro e w7 ⟨rfl, hb7⟩; have K7 := Lib.hid (And.intro (ownsRow_block K6.out.1 fun k hk => hb7.block k (K6.out.1.lt k hk).2) (K6.out.2.trans (hb7.mono K6.out.2.size))); clear hb7 K6)
        | (go_at_call 70; refine (octExtend (crcE 0 t2) (crcE_lt _ _) b5 t4.length cap5 t4 _ (ownsRow_rd K7.out.1) rfl (by unfold maxLen; omega)).mono ?_; rintro e w8 ⟨he, hb8⟩; rw [HCe.out] at he; subst he; have K8 := Lib.hid (And.intro (ownsRow_block K7.out.1 fun k hk => hb8.block k (K7.out.1.lt k hk).2) (K7.out.2.trans (hb8.mono K7.out.2.size))); clear hb8 K7))
      go_ret2
      exact ⟨.inr ⟨HNo.out, _, rfl⟩, K8.out.2⟩
    have HW : Hid (bs = wrapB mark t4) := chain_back HC.out.1 HC.out.2.2.1 HC.out.2.2.2.1 (UInt8.toNat_inj.1 (HV.out.2.2.trans c1)) (HV.out.1.trans c2) ((HV.out.2.1.trans c3).trans HCe.out.symm)
    subst c1 c2 c3
    have hfd := field0
    go_enter Try.func53, Try.ntmps53
    go_wp2_with (first
      | (go_at_call 54; refine (octNewR A n c bs _ HA.out Hn.out (by omega)).mono ?_; rintro e w1 ⟨p, rfl, hR, hp, hb1⟩; have K0 := Lib.hid (And.intro hR (And.intro hb1 hp)); clear hR hb1 hp)
      | (go_at_call 79; refine (octByte p bs _ _ K0.out.1 Hlx.out).mono ?_; rintro e w2 ⟨he, ha⟩; rw [H1.out] at he ha; simp only at he ha; rw [HV.out.2.2] at he; subst he; have K1 := Lib.hid (And.intro ha.1 (And.intro (RAft.below ha K0.out.2.1 K0.out.2.2) K0.out.2.2)); clear ha K0)
      | (go_at_call 80; refine (octRU32 p bs s1 _ K1.out.1 Hlx.out).mono ?_; rintro e w3 ⟨he, ha⟩; rw [H2.out] at he ha; simp only at he ha; rw [HV.out.1] at he; subst he; have K2 := Lib.hid (And.intro ha.1 (And.intro (RAft.below ha K1.out.2.1 K1.out.2.2) K1.out.2.2)); clear ha K1)
      | (go_at_call 80; refine (octRU32 p bs s2 _ K2.out.1 Hlx.out).mono ?_; rintro e w4 ⟨he, ha⟩; rw [H3.out] at he ha; simp only at he ha; rw [HV.out.2.1] at he; subst he; have K3 := Lib.hid (And.intro ha.1 (And.intro (RAft.below ha K2.out.2.1 K2.out.2.2) K2.out.2.2)); clear ha K2)
      | (go_at_call 82; refine (octRestM p bs s3 _ K3.out.1 Hlx.out).mono ?_; rintro e wr ⟨rfl, nd, rfl⟩; have hle3 := K3.out.1.le; have K4 := Lib.hid (And.intro (K3.out.1.below (below_drewN (Below.refl _ _) nd)) (And.intro (below_drewN K3.out.2.1 nd) K3.out.2.2)); clear K3)
      | (go_at_call 81; refine (octRawI p (bs.length - s3.at_) _ (by omega) bs s3 _ K4.out.1 (by omega) Hlx.out).mono ?_; rintro e w5 ⟨b5, cap5, he, hown, ha⟩; rw [H4.out] at he hown ha; simp only at he hown ha; subst he; have O5 := Lib.hid hown; clear hown; have K5 := Lib.hid (And.intro ha.1 (And.intro (RAft.below ha K4.out.2.1 K4.out.2.2) K4.out.2.2)); clear ha K4)
      | (go_at_call 57; refine (octEnd p bs s4 _ K5.out.1).mono ?_; rintro e w6 ⟨x, y, rfl, hx, hb6⟩; obtain rfl := HF.out x hx; clear hx; have K6 := Lib.hid (And.intro (ownsRow_block O5.out fun k hk => hb6.block k (O5.out.lt k hk).2) (K5.out.2.1.trans (hb6.mono K5.out.2.1.size))); clear hb6 K5 O5)
      | (go_at_call 71; refine (octSum (tailA A c 1) 4 (c - 1) t2 _ (by rw [HC.out.2.2.2.2.1]; exact (((HA.out.below K6.out.2).mono K6.out.2.size).tail_ 1 (by have := Hn.out; omega)).take_ 4) HC.out.2.2.1 (by unfold maxLen; omega)).mono ?_; rintro e w7 ⟨rfl, hb7⟩; have K7 := Lib.hid (And.intro (ownsRow_block K6.out.1 fun k hk => hb7.block k (K6.out.1.lt k hk).2) (K6.out.2.trans (hb7.mono K6.out.2.size))); clear hb7 K6)
      | (go_at_call 70; refine (octExtend (crcE 0 t2) (crcE_lt _ _) b5 t4.length cap5 t4 _ (ownsRow_rd K7.out.1) rfl (by unfold maxLen; omega)).mono ?_; rintro e w8 ⟨he, hb8⟩; rw [HCe.out] at he; subst he; have K8 := Lib.hid (And.intro (ownsRow_block K7.out.1 fun k hk => hb8.block k (K7.out.1.lt k hk).2) (K7.out.2.trans (hb8.mono K7.out.2.size))); clear hb8 K7))
    go_ret2
    exact ⟨.inl ⟨t4, b5, cap5, HW.out, by omega, (by simp), ownsRow_rd K8.out.1⟩, K8.out.2⟩
  · have HF : Hid (∀ x, EndE bs s4 x → x ≠ 0) := fun x h e => hfin (h.2 e)
    have HNo : Hid (∀ body : List UInt8, body.length < 4294967296 → bs ≠ wrapB mark body) := fun body hb he => by
      have h := chain_wrap H1.out H2.out H3.out rfl H4.out hb he
      exact hfin h.1
    clear hfin
    have hfd := field0
    go_enter Try.func53, Try.ntmps53
    go_wp2_with (first
      | (go_at_call 54; refine (octNewR A n c bs _ HA.out Hn.out (by omega)).mono ?_; rintro e w1 ⟨p, rfl, hR, hp, hb1⟩; have K0 := Lib.hid (And.intro hR (And.intro hb1 hp)); clear hR hb1 hp)
      | (go_at_call 79; refine (octByte p bs _ _ K0.out.1 Hlx.out).mono ?_; rintro e w2 ⟨he, ha⟩; rw [H1.out] at he ha; simp only at he ha; rw [HV.out.2.2] at he; subst he; have K1 := Lib.hid (And.intro ha.1 (And.intro (RAft.below ha K0.out.2.1 K0.out.2.2) K0.out.2.2)); clear ha K0)
      | (go_at_call 80; refine (octRU32 p bs s1 _ K1.out.1 Hlx.out).mono ?_; rintro e w3 ⟨he, ha⟩; rw [H2.out] at he ha; simp only at he ha; rw [HV.out.1] at he; subst he; have K2 := Lib.hid (And.intro ha.1 (And.intro (RAft.below ha K1.out.2.1 K1.out.2.2) K1.out.2.2)); clear ha K1)
      | (go_at_call 80; refine (octRU32 p bs s2 _ K2.out.1 Hlx.out).mono ?_; rintro e w4 ⟨he, ha⟩; rw [H3.out] at he ha; simp only at he ha; rw [HV.out.2.1] at he; subst he; have K3 := Lib.hid (And.intro ha.1 (And.intro (RAft.below ha K2.out.2.1 K2.out.2.2) K2.out.2.2)); clear ha K2)
      | (go_at_call 82; refine (octRestM p bs s3 _ K3.out.1 Hlx.out).mono ?_; rintro e wr ⟨rfl, nd, rfl⟩; have hle3 := K3.out.1.le; have K4 := Lib.hid (And.intro (K3.out.1.below (below_drewN (Below.refl _ _) nd)) (And.intro (below_drewN K3.out.2.1 nd) K3.out.2.2)); clear K3)
      | (go_at_call 81; refine (octRawI p (bs.length - s3.at_) _ (by omega) bs s3 _ K4.out.1 (by omega) Hlx.out).mono ?_; rintro e w5 ⟨b5, cap5, he, hown, ha⟩; rw [H4.out] at he hown ha; simp only at he hown ha; subst he; have O5 := Lib.hid hown; clear hown; have K5 := Lib.hid (And.intro ha.1 (And.intro (RAft.below ha K4.out.2.1 K4.out.2.2) K4.out.2.2)); clear ha K4)
      | (go_at_call 57; refine (octEnd p bs s4 _ K5.out.1).mono ?_; rintro e w6 ⟨x, y, rfl, hx, hb6⟩; have hx0 : (x != 0) = true := bne_iff_ne.2 (HF.out x hx); clear hx; have K6 := Lib.hid (And.intro (ownsRow_block O5.out fun k hk => hb6.block k (O5.out.lt k hk).2) (K5.out.2.1.trans (hb6.mono K5.out.2.1.size))); clear hb6 K5 O5))
    go_ret2
    exact ⟨.inr ⟨HNo.out, _, rfl⟩, K6.out.2⟩
end Go.Proofs.Ytjgdjfmgkmegfaa
