import Derived.Test.YtmhlgbpgdhhfnaaGreatV09
import Derived.Test.YtmhlgbpgdhhfnaaGreatV06
set_option linter.unusedVariables false
set_option linter.unusedSimpArgs false
namespace Go.Proofs.YtmhlgbpgdhhfnaaGreat
open Go.RowKit Go.Maps Sqz

/-! Encode and Decode, of the program -/
def smallK (k : Tok) : Prop := k.lit.length ≤ 4096 ∧ k.dist ≤ 4096 ∧ k.len ≤ 4096
theorem smallK.le {k : Tok} (h : smallK k) : k.lit.length ≤ 1000000000 ∧ k.dist ≤ 1000000000 ∧ k.len ≤ 1000000000 := ⟨by have := h.1; omega, by have := h.2.1; omega, by have := h.2.2; omega⟩
theorem right_dist {k : Tok} {q : Nat} (h : rightT k q = true) : k.dist ≤ 4096 := by
  unfold rightT at h
  split at h <;> (have := of_decide_eq_true h; omega)
theorem expandL_small : ∀ (ks : List Tok) (x y : List UInt8), expandL ks x = some y → (∀ k ∈ ks, smallK k) ∧ ks.length + x.length ≤ y.length
  | [], x, y, h => by cases h; exact ⟨fun k hk => (by cases hk), by simp⟩
  | k :: ks, x, y, h => by
    unfold expandL at h
    split at h
    · rename_i hr
      split at h
      · cases h
      rename_i hl
      obtain ⟨h1, h2⟩ := expandL_small ks _ y h
      rw [addT_len, List.length_append] at h2
      have h3 := right_dist hr
      refine ⟨fun j hj => ?_, ?_⟩
      · rcases List.mem_cons.1 hj with rfl | hj
        · exact ⟨by omega, h3, by omega⟩
        exact h1 j hj
      have : 1 ≤ k.lit.length + k.len := by
        unfold rightT at hr
        split at hr
        · have := of_decide_eq_true hr; omega
        rename_i hne
        have := List.length_pos_iff.2 hne; omega
      simp only [List.length_cons]
      omega
    cases h
theorem toks_small (t : List UInt8) (hm : t.length ≤ 4096) : (∀ k ∈ toks t, smallK k) ∧ (toks t).length ≤ 4096 := by
  have := expandL_small _ _ _ (expand_toks t hm)
  simp only [List.length_nil, Nat.add_zero] at this
  exact ⟨this.1, by omega⟩
theorem goP_small : ∀ (f : Nat) (l : List UInt8) (n size : Nat) (ts R : List Tok), n ≤ 4096 → goP f l n size ts = some R → (∀ k ∈ ts, smallK k) → ts.length ≤ size → (∀ k ∈ R, smallK k) ∧ R.length ≤ n
  | 0, _, _, _, _, _, _, h, _, _ => by cases h
  | f + 1, l, n, size, ts, R, hn, h, hs, hl => by
    unfold goP at h
    split at h
    · split at h
      · cases h; exact ⟨hs, by omega⟩
      cases h
    split at h
    · cases h
    rename_i u k hr
    split at h
    · cases h
    rename_i hu
    split at h
    · split at h
      · rename_i hok
        split at h
        · cases h
        rename_i hnn
        refine goP_small f _ n _ _ R hn h (fun j hj => ?_) (by simp; omega)
        rcases List.mem_append.1 hj with hj | hj
        · exact hs j hj
        rw [List.mem_singleton.1 hj]
        exact ⟨by simp only [List.length_take]; omega, by simp, by simp⟩
      cases h
    split at h
    · cases h
    rename_i d k2 hr2
    split at h
    · rename_i hok
      split at h
      · cases h
      rename_i hnn
      have h5 : 5 ≤ u / 2 ∧ u / 2 ≤ 258 := by
        have := hok.2
        unfold rightT at this
        rw [if_pos rfl] at this
        have := of_decide_eq_true this
        exact ⟨this.1, this.2.1⟩
      refine goP_small f _ n _ _ R hn h (fun j hj => ?_) (by simp; omega)
      rcases List.mem_append.1 hj with hj | hj
      · exact hs j hj
      rw [List.mem_singleton.1 hj]
      exact ⟨by simp, by show d ≤ 4096; omega, by show u / 2 ≤ 4096; omega⟩
    cases h
theorem readP_small {b : List UInt8} {ts : List Tok} (h : readP b = some ts) : (∀ k ∈ ts, smallK k) ∧ ts.length ≤ 4096 := by
  unfold readP at h
  split at h
  · cases h
  split at h
  · cases h
  rename_i hn
  have := goP_small _ _ _ _ _ _ (by omega) h (fun k hk => by cases hk) (Nat.le_refl _)
  exact ⟨this.1, by omega⟩
theorem tokB_le {k : Tok} (h : smallK k) : (tokB k).length ≤ 4116 := by
  have h1 := uvar_le (2 * k.len + 1)
  have h2 := uvar_le k.dist
  have h3 := uvar_le (2 * k.lit.length)
  have h4 := h.1
  unfold tokB
  split <;> (simp only [List.length_append]; omega)
theorem toksB_le : ∀ (ks : List Tok), (∀ k ∈ ks, smallK k) → (ks.flatMap tokB).length ≤ ks.length * 4116
  | [], _ => Nat.zero_le _
  | k :: ks, h => by
    have h1 := toksB_le ks fun j hj => h j (List.mem_cons_of_mem _ hj)
    have h2 := tokB_le (h k List.mem_cons_self)
    simp only [List.flatMap_cons, List.length_append, List.length_cons]
    omega
theorem blockB_le (n : Nat) (ks : List Tok) (h : ∀ k ∈ ks, smallK k) (hl : ks.length ≤ 4096) : (blockB n ks).length ≤ 1000000000 := by
  have h1 := toksB_le ks h
  have h2 := uvar_le n
  unfold blockB
  rw [List.length_append]
  omega
theorem enc_le (t : List UInt8) (hm : t.length ≤ 4096) : (enc t).length ≤ 1000000000 := blockB_le _ _ (toks_small t hm).1 (toks_small t hm).2
set_option maxRecDepth 100000 in
set_option maxHeartbeats 2000000 in
theorem encode_any (A : Option Addr) (n c : Nat) (t : List UInt8) (w : World) (hA : Rd w w.heap.size A (bv t)) (hn : t.length = n) (hc : n ≤ c) (hmx : n ≤ 4096) :
    Calls Tryz.prog 88 #[.slice A n c] w fun e w' =>
      ∃ b cap, e = .returned (.tuple #[.slice b (enc t).length cap, .int .i64 0]) ∧ w'.ownsRow w.heap.size 5 1 (.slice b (enc t).length cap) (enc t).length (bv (enc t)) ∧ Below w.heap.size w w' := by
  have HA := Lib.hid hA
  have Hn := Lib.hid hn
  obtain ⟨hs1, hs2⟩ := toks_small t (by omega)
  have hbl := enc_le t (by omega)
  obtain ⟨m, hm⟩ : ∃ m, (toks t).length = m := ⟨_, rfl⟩
  have Hs := Lib.hid (And.intro hs1 hbl)
  have Hm := Lib.hid hm
  rw [hm] at hs2
  have HE : Hid (blockB n (toks t) = enc t) := by show _ = _; rw [← hn]; rfl
  clear hA hn hs1 hbl hm
  go_enter Tryz.func88, Tryz.ntmps88
  go_wp2_with (first
    | (go_at_call 96
       refine (tokens_any A n c t _ HA.out Hn.out hc hmx).mono ?_
       rintro e w1 ⟨b1, c1, rfl, hto, hb1⟩
       rw [Hm.out] at hto ⊢
       have H1 := Lib.hid (And.intro hto hb1)
       clear hto hb1)
    | (go_at_call 97
       refine (block_any n b1 m c1 (toks t) _ (H1.out.1.row Hm.out) Hm.out (by omega) (by omega) (fun k hk => (Hs.out.1 k hk).le) (by rw [HE.out]; exact Hs.out.2)).mono ?_
       rintro e w2 ⟨b2, c2, rfl, hown, hb2⟩
       rw [HE.out] at hown ⊢
       have H2 := Lib.hid (And.intro hown hb2)
       clear hown hb2))
  go_ret2
  exact ⟨b2, c2, rfl, ownsRow_le H2.out.1 H1.out.2.size, H1.out.2.trans (H2.out.2.mono H1.out.2.size)⟩
set_option maxRecDepth 100000 in
set_option maxHeartbeats 2000000 in
theorem equal_any (A A' : Option Addr) (n c n' c' : Nat) (l l' : List UInt8) (w : World) (hA : Rd w w.heap.size A (bv l)) (hn : l.length = n) (hA' : Rd w w.heap.size A' (bv l')) (hn' : l'.length = n') :
    Calls Tryz.prog 89 #[.slice A n c, .slice A' n' c'] w fun e w' => e = .returned (.bool (decide (l = l'))) ∧ w = w' := by
  have h1 := run_str w _ A n c l hn hA
  have h2 := run_str w _ A' n' c' l' hn' hA'
  clear hA hA' hn hn'
  go_enter Tryz.func89, Tryz.ntmps89
  go_wp2
  go_ret
  exact ⟨ret_bool (by rw [Bool.eq_iff_iff]; simp), rfl⟩
theorem ownsRow_below {w w' : World} {base : Nat} {e : TypeId} {size n : Nat} {v : Value} {xs : List Value} (h : w.ownsRow base e size v n xs) (hb : Below w.heap.size w w') : w'.ownsRow base e size v n xs :=
  ownsRow_block h fun k hk => hb.block k (h.lt k hk).2
theorem ownsRow_cap {w : World} {base : Nat} {e : TypeId} {size n c : Nat} {b : Option Addr} {xs : List Value} (h : w.ownsRow base e size (.slice b n c) n xs) : n ≤ c := by
  obtain ⟨h1, h2⟩ := h
  rcases h2 with ⟨hv, h2⟩ | ⟨g, cap, cur, hv, hg, hh, hnc, _⟩
  · omega
  cases hv; exact hnc
/-- What a Decode answers. -/
def DcA (w w' : World) (R : Option (List UInt8)) (e : Ending) : Prop :=
  match R with
  | some x => ∃ b c, e = .returned (.tuple #[.slice b x.length c, .int .i64 0]) ∧ w'.ownsRow w.heap.size 5 1 (.slice b x.length c) x.length (bv x)
  | none => ∃ er : Int, er ≠ 0 ∧ e = .returned (.tuple #[.slice none 0 0, .int .i64 er])
set_option maxRecDepth 100000 in
set_option maxHeartbeats 4000000 in
theorem decode_any (A : Option Addr) (L c : Nat) (b : List UInt8) (w : World) (hA : Rd w w.heap.size A (bv b)) (hL : b.length = L) (hmx : L ≤ 1000000000) :
    Calls Tryz.prog 74 #[.slice A L c] w fun e w' => DcA w w' (decP b) e ∧ Below w.heap.size w w' := by
  have HRD := Lib.hid (read_any A L c b w hA hL hmx)
  have HA := Lib.hid hA
  have HL := Lib.hid hL
  clear hA hL
  generalize hR : decP b = R
  cases hrp : readP b with
  | none =>
    have HE : Hid (R = none) := by show _ = _; rw [← hR, decP, hrp]
    rw [hrp] at HRD
    clear hR hrp
    go_enter Tryz.func74, Tryz.ntmps74
    go_wp2_with (go_at_call 86
                 refine HRD.out.mono ?_
                 rintro e w1 ⟨⟨er, her, rfl⟩, hb1⟩
                 have her' : (er == 0) = false := by simpa using her
                 have H1 := Lib.hid (And.intro her hb1)
                 clear her hb1)
    go_ret2
    refine ⟨?_, H1.out.2⟩
    rw [HE.out]
    exact ⟨er, H1.out.1, rfl⟩
  | some ts =>
    have hsm := readP_small hrp
    rw [hrp] at HRD
    obtain ⟨m, hm⟩ : ∃ m, ts.length = m := ⟨_, rfl⟩
    have HR0 : Hid ((if enc (textP ts) = b then some (textP ts) else none) = R) := by show _ = _; rw [← hR, decP, hrp]
    have hx4 := textP_le ts
    obtain ⟨x, hx⟩ : ∃ x, textP ts = x := ⟨_, rfl⟩
    rw [hx] at HR0 hx4
    obtain ⟨q, hq⟩ : ∃ q, x.length = q := ⟨_, rfl⟩
    rw [hq] at hx4
    have Hq := Lib.hid hq
    have Hm := Lib.hid hm
    have Hsm := Lib.hid hsm
    have HXT : Hid (∀ (w w' : World) (e : Ending), ExA w w' (expandL ts []) e → ∃ vb c er, e = .returned (.tuple #[.slice vb q c, .int .i64 er]) ∧ w'.ownsRow w.heap.size 5 1 (.slice vb q c) q (bv x)) := by
      intro w w' e h
      cases he : expandL ts [] with
      | none =>
        rw [he] at h
        obtain ⟨er, _, rfl⟩ := h
        have hx0 : x = [] := by rw [← hx]; unfold textP; rw [he]; rfl
        subst hx0
        subst hq
        exact ⟨none, 0, er, rfl, World.ownsRow_nil _ _ _ _⟩
      | some y =>
        rw [he] at h
        obtain ⟨vb, c, rfl, ho⟩ := h
        have hx0 : x = y := by rw [← hx]; unfold textP; rw [he]; rfl
        subst hx0
        subst hq
        exact ⟨vb, c, 0, rfl, ho⟩
    clear hR hrp hsm hm hx hq
    have hm9 : m ≤ 4096 := by have := Hsm.out.2; rw [Hm.out] at this; exact this
    go_enter Tryz.func74, Tryz.ntmps74
    by_cases heq : enc x = b
    · have HE : Hid (R = some x) := by show _ = _; rw [← HR0.out, if_pos heq]
      have HD : Hid (decide (enc x = b) = true) := decide_eq_true heq
      clear heq
      go_wp2_with (first
        | (go_at_call 86
           refine HRD.out.mono ?_
           rintro e w1 ⟨⟨vb1, c1, rfl, hto⟩, hb1⟩
           rw [Hm.out] at hto ⊢
           have H1 := Lib.hid (And.intro hto hb1)
           clear hto hb1)
        | (go_at_call 87
           refine (expand_any vb1 m c1 ts _ (H1.out.1.row Hm.out) Hm.out (by omega) (fun k hk => (Hsm.out.1 k hk).le)).mono ?_
           rintro e w2 ⟨hx, hb2⟩
           obtain ⟨vb2, c2, er2, rfl, ho2⟩ := HXT.out _ _ _ hx
           have hc2 := ownsRow_cap ho2
           have H2 := Lib.hid (And.intro (ownsRow_le ho2 H1.out.2.size) (H1.out.2.trans (hb2.mono H1.out.2.size)))
           clear hx ho2 hb2)
        | (go_at_call 88
           refine (encode_any vb2 q c2 x _ (ownsRow_rd H2.out.1) Hq.out hc2 hx4).mono ?_
           rintro e w3 ⟨vb3, c3, rfl, ho3, hb3⟩
           have H3 := Lib.hid ho3
           have H4 := Lib.hid (And.intro (ownsRow_below H2.out.1 hb3) (H2.out.2.trans (hb3.mono H2.out.2.size)))
           clear ho3 hb3)
        | (go_at_call 89
           refine (equal_any vb3 A _ c3 L c (enc x) b _ (ownsRow_rd H3.out) rfl ((HA.out.below H4.out.2).mono H4.out.2.size) HL.out).mono ?_
           rintro e w4 ⟨rfl, rfl⟩
           rw [HD.out]))
      go_ret2
      refine ⟨?_, H4.out.2⟩
      rw [HE.out]
      refine ⟨vb2, c2, by rw [Hq.out]; rfl, ?_⟩
      rw [Hq.out]
      exact H4.out.1
    have HE : Hid (R = none) := by show _ = _; rw [← HR0.out, if_neg heq]
    have HD : Hid (decide (enc x = b) = false) := decide_eq_false heq
    clear heq
    go_wp2_with (first
      | (go_at_call 86
         refine HRD.out.mono ?_
         rintro e w1 ⟨⟨vb1, c1, rfl, hto⟩, hb1⟩
         rw [Hm.out] at hto ⊢
         have H1 := Lib.hid (And.intro hto hb1)
         clear hto hb1)
      | (go_at_call 87
         refine (expand_any vb1 m c1 ts _ (H1.out.1.row Hm.out) Hm.out (by omega) (fun k hk => (Hsm.out.1 k hk).le)).mono ?_
         rintro e w2 ⟨hx, hb2⟩
         obtain ⟨vb2, c2, er2, rfl, ho2⟩ := HXT.out _ _ _ hx
         have hc2 := ownsRow_cap ho2
         have H2 := Lib.hid (And.intro (ownsRow_le ho2 H1.out.2.size) (H1.out.2.trans (hb2.mono H1.out.2.size)))
         clear hx ho2 hb2)
      | (go_at_call 88
         refine (encode_any vb2 q c2 x _ (ownsRow_rd H2.out.1) Hq.out hc2 hx4).mono ?_
         rintro e w3 ⟨vb3, c3, rfl, ho3, hb3⟩
         have H3 := Lib.hid ho3
         have H4 := Lib.hid (And.intro (ownsRow_below H2.out.1 hb3) (H2.out.2.trans (hb3.mono H2.out.2.size)))
         clear ho3 hb3)
      | (go_at_call 89
         refine (equal_any vb3 A _ c3 L c (enc x) b _ (ownsRow_rd H3.out) rfl ((HA.out.below H4.out.2).mono H4.out.2.size) HL.out).mono ?_
         rintro e w4 ⟨rfl, rfl⟩
         rw [HD.out]))
    go_ret2
    refine ⟨?_, H4.out.2⟩
    rw [HE.out]
    exact ⟨20, by decide, rfl⟩
end Go.Proofs.YtmhlgbpgdhhfnaaGreat
