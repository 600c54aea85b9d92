import Derived.Test.YtmhlgbpgdhhfnaaGreatV06
set_option linter.unusedVariables false
set_option linter.unusedSimpArgs false
namespace Go.Proofs.YtmhlgbpgdhhfnaaGreat
open Go.RowKit Go.Maps Sqz

/-! Tokens, of the program -/
theorem info_tok : (Tryz.prog.info? 112).map (fun i => (i.zero, i.size, i.bytes)) = some (some (.agg #[.slice none 0 0, .int .i64 0, .int .i64 0]), 3, 40) := by kernel_rfl
theorem FD.chg {w w' : World} {p : Nat} {ad : Addr} {n c : Nat} {last ahead : Nat → Nat} {S : Nat → Prop} (h : FD w p ad n c last ahead) (hc : Chg S w w') (hp : ¬ S p) : FD w' p ad n c last ahead :=
  let ⟨ar, h1, h2⟩ := h; ⟨ar, h1.chg hc hp, h2⟩
/-- What Tokens answers. -/
def TkA (w w' : World) (ts : List Tok) (e : Ending) : Prop := ∃ b c, e = .returned (.tuple #[.slice b ts.length c, .int .i64 0]) ∧ TO w' w.heap.size (.slice b ts.length c) ts ∧ Below w.heap.size w w'
/-- What the loop of Tokens keeps. -/
structure TkL (w wr : World) (ad : Addr) (n c : Nat) (t : List UInt8) (a b : Nat) (v : Value) (ts : List Tok) (last ahead : Nat → Nat) : Prop where
  fd : FD wr w.heap.size ad n c last ahead
  find : Find t a last ahead
  to_ : TO wr (w.heap.size + 1) v ts
  bel : Below w.heap.size w wr
  len : ts.length ≤ a
  rest : rest t a b ts = toks t
theorem TO.le {w : World} {B B' : Nat} {v : Value} {ts : List Tok} (h : TO w B v ts) (hb : B' ≤ B) : TO w B' v ts :=
  let ⟨ms, h1, h2, h3⟩ := h; ⟨ms, h1, ownsRow_le h2 hb, fun x hx => ⟨(h3 x hx).1, fun ad e => ⟨Nat.le_trans hb ((h3 x hx).2 ad e).1, ((h3 x hx).2 ad e).2⟩⟩⟩
theorem find_next {t : List UInt8} {a n : Nat} {last ahead : Nat → Nat} (hn : t.length = n) (h : Find t a last ahead) :
    Find t (a + 1) (if a + 5 ≤ n then fun h => if h = numb t a then a + 1 else last h else last) (if a + 5 ≤ n then fun j => if j = a then last (numb t a) else ahead j else ahead) := by
  by_cases h5 : a + 5 ≤ n
  · rw [if_pos h5, if_pos h5]; exact h.pass (by omega)
  rw [if_neg h5, if_neg h5]; exact h.skip (by omega)
theorem rd_newB (w : World) {b : Nat} (hb : w.heap.size = b) (ar : Array Value) (t : TypeId) : Rd (w.alloc (.cells ar t)) (b + 1) (some ⟨b, 0, none⟩) ar.toList := by
  subst hb; exact rd_new w ar t
theorem bestR_in {t : List UInt8} {a n rl rd : Nat} (hn : t.length = n) (hlt : a < n) (hr : bestR t a = (rl, rd)) (h0 : rl ≠ 0) : 5 ≤ rl ∧ a + rl ≤ n ∧ rl ≤ 258 ∧ rd ≤ 2048 := by
  rcases bestR_spec t a (by omega) with ⟨e, _⟩ | ⟨h5, hB⟩
  · rw [e] at hr; cases hr; exact absurd rfl h0
  rw [hr] at h5 hB
  have hin := al_in t (a - rd) a (by omega)
  have hle := al_le t (a - rd) a
  have h3 := hB.win
  have h4 := hB.len
  simp only at h3 h4 h5
  rw [h4] at hin hle
  exact ⟨h5, by omega, hle, h3⟩
theorem flush_len (t : List UInt8) (b a : Nat) (ts : List Tok) : (flush t b a ts).length ≤ ts.length + 1 := by unfold flush; split <;> simp
theorem lit_len {t : List UInt8} {a b n : Nat} (hn : t.length = n) (ha : a ≤ n) : ((t.take a).drop b).length = a - b := by simp; omega
set_option maxRecDepth 100000 in
set_option maxHeartbeats 4000000 in
theorem tokens_any (A : Option Addr) (n c : Nat) (t : List UInt8) (w : World) (hA : Rd w w.heap.size A (bv t)) (hn : t.length = n) (hc : n ≤ c) (hmx : n ≤ 4096) :
    Calls Tryz.prog 96 #[.slice A n c] w fun e w' => TkA w w' (toks t) e := by
  obtain ⟨hsz, h0, hz⟩ := finder_cells (.slice A n c)
  obtain ⟨i0, hi0, hz0, hs0, hy0⟩ := info_parts info_tok
  have Hsz := Lib.hid hsz
  have H0 := Lib.hid h0
  have Hz := Lib.hid hz
  have HA := Lib.hid hA
  have Hn := Lib.hid hn
  clear hsz h0 hz hA hn
  have f0 : ¬ (4096 : Int) < n := by omega
  go_enter Tryz.func96, Tryz.ntmps96
  rcases Nat.eq_zero_or_pos n with rfl | hpos
  · have ht0 : t = [] := List.eq_nil_of_length_eq_zero Hn.out
    have HR0 : Hid (toks t = []) := by subst ht0; rfl
    go_wp2
    go_loopw [5, 6, 7] (fun u s a wr => u = .slice none 0 0 ∧ s = .int .i64 0 ∧ a = .int .i64 0 ∧ Below w.heap.size w wr) (fun _ _ _ _ => 0)
    case atStart => exact ⟨rfl, rfl, rfl, (Below.refl _ _).alloc (Nat.le_refl _) _⟩
    case round =>
      obtain ⟨rfl, rfl, rfl, hb⟩ := hrel
      go_wp2
      go_ret2
      rw [HR0.out]
      exact ⟨none, 0, rfl, TO.nil _ _, hb⟩
  obtain ⟨ad, rfl, had, _⟩ := HA.out.some_ (by rw [bv_len, Hn.out]; exact hpos)
  have HAW : Hid (∀ W : World, Below w.heap.size w W → Rd W W.heap.size (some ad) (bv t)) := fun W hb => (HA.out.below hb).mono hb.size
  have hk0 : TkL w (w.alloc (.cells (Tryz.zeroCells127.setIfInBounds 0 (.slice (some ad) n c)) 127)) ad n c t 0 0 (.slice none 0 0) [] (fun _ => 0) (fun _ => 0) :=
    ⟨⟨_, Box.new w _ _, Hsz.out, H0.out, fun h hh => Hz.out _ (by omega) (by omega), fun j hj => Hz.out _ (by omega) (by omega)⟩, Find.start t, TO.nil _ _, (Below.refl _ _).alloc (Nat.le_refl _) _, Nat.le_refl _, rfl⟩
  have HK0 := Lib.hid hk0
  clear hk0
  go_wp2
  go_loopw [5, 6, 7] (fun u s x wr => ∃ (a b : Nat) (ts : List Tok) (last ahead : Nat → Nat), s = .int .i64 b ∧ x = .int .i64 a ∧ b ≤ a ∧ a ≤ n ∧ TkL w wr ad n c t a b u ts last ahead) (fun _ _ x _ => n - (intOf x).toNat)
  case atStart => exact ⟨0, 0, [], _, _, rfl, rfl, Nat.le_refl _, Nat.zero_le _, HK0.out⟩
  case round =>
    obtain ⟨a, b, ts, last, ahead, rfl, rfl, hba, han, hk⟩ := hrel
    obtain ⟨vb, vc, rfl⟩ := hk.to_.slice
    have hwl : w.heap.size < wr.heap.size := hk.fd.lt
    have HK := Lib.hid hk
    clear hk
    by_cases hlt : a < n
    · obtain ⟨rl, rd, hr⟩ : ∃ rl rd, bestR t a = (rl, rd) := ⟨_, _, rfl⟩
      have HB : Hid (bestP t a = (rl, rd)) := (bestP_same t a (by rw [Hn.out]; omega)).trans hr
      have HR := Lib.hid hr
      clear hr
      by_cases h0 : rl = 0
      · subst h0
        go_wp2_with (first
          | (go_at_call 99
             refine (match_any ad c n t a wr w.heap.size last ahead HK.out.fd HK.out.find (HAW.out wr HK.out.bel) Hn.out hlt hc hmx).mono ?_
             rintro e w1 ⟨rfl, hb1⟩
             rw [HB.out]
             have hbx := Box.new w1 112 #[.slice none 0 0, .int .i64 (rd : Nat), .int .i64 (0 : Nat)]
             have hxc := hbx.cell
             have hxf := hbx.free
             have hxl := hbx.lt
             have hs1 := hb1.size
             have HB1 := Lib.hid hb1
             have HX1 := Lib.hid hbx
             clear hb1 hbx
             have HBW : Hid (Below wr.heap.size wr (w1.alloc (.cells #[.slice none 0 0, .int .i64 (rd : Nat), .int .i64 (0 : Nat)] 112))) := HB1.out.alloc hs1 _)
          | (go_at_call 100
             refine (passes_any ad c n t a (w1.alloc (.cells #[.slice none 0 0, .int .i64 (rd : Nat), .int .i64 (0 : Nat)] 112)) w.heap.size last ahead (HK.out.fd.below (HBW.out.mono (Nat.le_refl _)) hwl) (HAW.out _ (HK.out.bel.trans (HBW.out.mono HK.out.bel.size))) Hn.out hlt hc hmx).mono ?_
             rintro e w2 ⟨rfl, hf2, hc2⟩
             have H2 := Lib.hid (And.intro hf2 hc2)
             clear hf2 hc2))
        go_roundw
        case rel =>
          have hto : TO w2 (w.heap.size + 1) (.slice vb ts.length vc) ts := (HK.out.to_.below HBW.out).chg H2.out.2 (fun k hk => by subst hk; exact Nat.lt_succ_self _)
          exact ⟨a + 1, b, ts, _, _, rfl, by go_num, by omega, by omega, ⟨H2.out.1, find_next Hn.out HK.out.find, hto, (HK.out.bel.trans (HBW.out.mono HK.out.bel.size)).trans (H2.out.2.below (by have := (HK.out.bel.trans (HBW.out.mono HK.out.bel.size)).size; omega) (fun k hk => Nat.le_of_eq hk.symm)), by have := HK.out.len; omega, by rw [← rest_none (by rw [Hn.out]; exact hlt) (by rw [HR.out])]; exact HK.out.rest⟩⟩
        case measure => simp [intOf]; omega
      obtain ⟨hr5, hrn, hr8, hrd⟩ := bestR_in Hn.out hlt HR.out h0
      have h0' : ((rl : Int) == 0) = false := by simp; omega
      clear h0
      have hvl : Hid (∀ j, (Value.slice vb ts.length vc).ownBlock = some j → j < wr.heap.size) := by
        obtain ⟨ms, _, h2, _⟩ := HK.out.to_
        exact fun j e => (h2.lt j e).2
      have htl : ts.length ≤ 4096 := by have := HK.out.len; omega
      have hsl := fun W => run_part2 W (some ad) n c b (a - b) (b : Int) (a : Int) rfl (by omega) (by omega)
      by_cases hb : b < a
      · have HF : Hid (flush t b a ts = ts ++ [⟨(t.take a).drop b, 0, 0⟩]) := if_pos hb
        have HLL : Hid (((t.take a).drop b).length = a - b) := lit_len Hn.out han
        have HLR : Hid (∀ W : World, Below w.heap.size w W → Rd W W.heap.size (tailA (some ad) c b) (bv ((t.take a).drop b))) := fun W hW => by
          rw [List.drop_take]
          exact ((HAW.out W hW).tail_ (cap := c) b (by rw [Hn.out]; exact hc)).take_ (a - b)
        generalize (t.take a).drop b = lit at *
        go_wp2_with (first
          | (go_at_call 99
             refine (match_any ad c n t a wr w.heap.size last ahead HK.out.fd HK.out.find (HAW.out wr HK.out.bel) Hn.out hlt hc hmx).mono ?_
             rintro e w1 ⟨rfl, hb1⟩
             rw [HB.out]
             have hbx := Box.new w1 112 #[.slice none 0 0, .int .i64 (rd : Nat), .int .i64 (rl : Nat)]
             have hxc := hbx.cell
             have hxf := hbx.free
             have hxl := hbx.lt
             have hs1 := hb1.size
             have HB1 := Lib.hid hb1
             have HX1 := Lib.hid hbx
             clear hb1 hbx
             have HBW : Hid (Below wr.heap.size wr (w1.alloc (.cells #[.slice none 0 0, .int .i64 (rd : Nat), .int .i64 (rl : Nat)] 112))) := HB1.out.alloc hs1 _)
          | (go_at_call 101
             refine (literal_any (tailA (some ad) c b) (a - b) (c - b) lit _ (HLR.out _ (HK.out.bel.trans (HBW.out.mono HK.out.bel.size))) HLL.out (by omega)).mono ?_
             rintro e w2 ⟨lA, lc, rfl, hl1, hl2, hb2⟩
             have HBW2 : Hid (Below wr.heap.size wr w2) := HBW.out.trans (hb2.mono HBW.out.size)
             have hx2 := HX1.out.below hb2 (by simp)
             have hxc := hx2.cell
             have hxf := hx2.free
             have hxl := hx2.lt
             have HX2 := Lib.hid hx2
             have HL2 := Lib.hid (And.intro hl1 hl2)
             have hs2 := HBW2.out.size
             clear hx2 hl1 hl2 hb2)
          | (at_builtin
             obtain ⟨ms, hm1, hm2, hm3⟩ := HK.out.to_.below (HBW2.out.alloc hs2 (.cells #[.slice lA (a - b) lc, .int .i64 0, .int .i64 0] 112))
             refine wpList_app _ rfl (.tmp 33) (.tmp 39) _ rfl (w.heap.size + 1) 112 i0 _ 3 40 Tryz.underlying96 hi0 hz0 hs0 hy0 rfl (by omega) (.slice vb ts.length vc) ts.length (ms.flatMap tmc) rfl hm2 _ _ 1 1 _ rfl rfl (rd_new w2 _ _) (by simp [Value.oneCell']) (by unfold maxLen; omega) (by omega) (by simp <;> omega) ?_
             intro v3 w3 hown hg hvv
             obtain ⟨b3, c3, rfl⟩ := ownsRow_slice hown
             have hb3 : Below (w.heap.size + 1) wr w3 := ((HBW2.out.alloc hs2 (.cells #[.slice lA (a - b) lc, .int .i64 0, .int .i64 0] 112)).mono hwl).grown hg (by simp <;> omega) (fun j e => (hm2.lt j e).1)
             have hx3 := (HX2.out.alloc (.cells #[.slice lA (a - b) lc, .int .i64 0, .int .i64 0] 112)).grown hg (fun e => by have := hvl.out _ e.symm; have := hs1; omega)
             have hto : TO w3 (w.heap.size + 1) (.slice b3 (ts.length + 1) c3) (ts ++ [⟨lit, 0, 0⟩]) := by
               have := TO.push hm2 hm3 ⟨lA, lc, ⟨lit, 0, 0⟩⟩ ⟨(HL2.out.1.below ((Below.refl w2.heap.size w2).alloc (Nat.le_refl _) _)).mono (by simp), fun ad' e => by
                 obtain ⟨q1, q2⟩ := HL2.out.2 ad' e
                 refine ⟨by (try simp at q1); omega, by simp; omega, fun e2 => ?_⟩
                 have := hvl.out _ e2.symm
                 (try simp at q1); omega⟩ (by rw [← hm1, List.length_map]) (by rw [show tmc ⟨lA, lc, ⟨lit, 0, 0⟩⟩ = [.slice lA (a - b) lc, .int .i64 0, .int .i64 0] by simp only [tmc, HLL.out]; rfl]; exact hown) hg hvv
               rw [hm1] at this
               exact this
             have hxc := hx3.cell
             have hxf := hx3.free
             have hxl := hx3.lt
             have H3 := Lib.hid (And.intro hto hb3)
             have HX3 := Lib.hid hx3
             have H3N : Hid ((Value.slice b3 (ts.length + 1) c3).ownBlock ≠ some w1.heap.size) := by
               show _ ≠ _
               rcases hvv with e | e <;> rw [e]
               · intro e2; have := hvl.out _ e2; omega
               simp at hs2 ⊢; omega
             have hs3 := hb3.size
             clear hm1 hm2 hm3 hown hg hvv hto hb3 hx3)
          | (at_builtin
             obtain ⟨ms, hm1, hm2, hm3⟩ := H3.out.1.below ((Below.refl w3.heap.size w3).alloc (Nat.le_refl _) (.cells #[.slice none 0 0, .int .i64 (rd : Nat), .int .i64 (rl : Nat)] 112))
             try rw [show (ts ++ [(⟨lit, 0, 0⟩ : Tok)]).length = ts.length + 1 by simp] at hm2
             refine wpList_app _ rfl (.tmp 41) (.tmp 43) _ rfl (w.heap.size + 1) 112 i0 _ 3 40 Tryz.underlying96 hi0 hz0 hs0 hy0 rfl (by omega) (.slice b3 (ts.length + 1) c3) (ts.length + 1) (ms.flatMap tmc) rfl hm2 _ _ 1 1 _ rfl rfl (rd_newB w3 (by simp) _ _) (by simp [Value.oneCell']) (by unfold maxLen; omega) (by omega) (by simp <;> omega) ?_
             intro v4 w4 hown hg hvv
             obtain ⟨b4, c4, rfl⟩ := ownsRow_slice hown
             have hb4 : Below (w.heap.size + 1) wr w4 := (H3.out.2.alloc (by omega) _).grown hg (by simp <;> omega) (fun j e => (hm2.lt j e).1)
             have hto : TO w4 (w.heap.size + 1) (.slice b4 (ts.length + 1 + 1) c4) (flush t b a ts ++ [⟨[], rd, rl⟩]) := by
               have := TO.push hm2 hm3 ⟨none, 0, ⟨[], rd, rl⟩⟩ ⟨Rd.nil _ _ _, fun ad' e => by cases e⟩ (by have := congrArg List.length hm1; simp at this; omega) hown hg hvv
               rw [hm1] at this
               rw [HF.out]
               exact this
             have H4 := Lib.hid (And.intro hto hb4)
             have hx4 := (HX3.out.alloc (.cells #[.slice none 0 0, .int .i64 (rd : Nat), .int .i64 (rl : Nat)] 112)).grown hg (fun e => H3N.out e.symm)
             have hxc := hx4.cell
             have hxf := hx4.free
             have hxl := hx4.lt
             clear hm1 hm2 hm3 hown hg hvv hto hb4 hx4))
        go_loopw [7, 47] (fun x y wz => ∃ (k : Nat) (last' ahead' : Nat → Nat), k ≤ rl ∧ x = .int .i64 ((a + k : Nat) : Int) ∧ y = .int .i64 k ∧ FD wz w.heap.size ad n c last' ahead' ∧ Find t (a + k) last' ahead' ∧ TO wz (w.heap.size + 1) (.slice b4 (ts.length + 1 + 1) c4) (flush t b a ts ++ [⟨[], rd, rl⟩]) ∧ Below w.heap.size w wz) (fun _ y _ => rl - (intOf y).toNat)
        case atStart => exact ⟨0, last, ahead, Nat.zero_le _, rfl, rfl, HK.out.fd.below H4.out.2 (Nat.lt_succ_self _), HK.out.find, H4.out.1, HK.out.bel.trans (H4.out.2.mono (Nat.le_succ _))⟩
        case round =>
          obtain ⟨k, last', ahead', hk, rfl, rfl, hfd, hfi, hto, hbz⟩ := hrel
          have HZ := Lib.hid (And.intro hfd (And.intro hfi (And.intro hto hbz)))
          clear hfd hfi hto hbz
          by_cases hkl : k < rl
          · go_wp2_with (go_at_call 100
                         refine (passes_any ad c n t (a + k) wr w.heap.size last' ahead' HZ.out.1 (HAW.out wr HZ.out.2.2.2) Hn.out (by omega) hc hmx).mono ?_
                         rintro e w5 ⟨rfl, hf5, hc5⟩
                         have H5 := Lib.hid (And.intro hf5 hc5)
                         clear hf5 hc5)
            go_roundw
            case rel => exact ⟨k + 1, _, _, by omega, by go_num, by go_num, H5.out.1, find_next Hn.out HZ.out.2.1, HZ.out.2.2.1.chg H5.out.2 (fun k hk => by subst hk; exact Nat.lt_succ_self _), HZ.out.2.2.2.trans (H5.out.2.below HZ.out.2.2.2.size (fun k hk => Nat.le_of_eq hk.symm))⟩
            case measure => simp [intOf]; omega
          obtain rfl : k = rl := by omega
          go_wp2
          go_roundw
          case rel =>
            refine ⟨a + k, a + k, _, last', ahead', rfl, rfl, Nat.le_refl _, by omega, ⟨HZ.out.1, HZ.out.2.1, HZ.out.2.2.1, HZ.out.2.2.2, ?_, ?_⟩⟩
            · have := flush_len t b a ts
              have := HK.out.len
              simp only [List.length_append, List.length_cons, List.length_nil]
              omega
            have := rest_some (b := b) (ts := ts) (show a < t.length by rw [Hn.out]; exact hlt) (by rw [HR.out]; show ¬ k = 0; omega)
            rw [HR.out] at this
            simp only at this
            rw [← this]
            exact HK.out.rest
          case measure => simp [intOf]; omega
      have HF : Hid (flush t b a ts = ts) := if_neg hb
      go_wp2_with (first
        | (go_at_call 99
           refine (match_any ad c n t a wr w.heap.size last ahead HK.out.fd HK.out.find (HAW.out wr HK.out.bel) Hn.out hlt hc hmx).mono ?_
           rintro e w1 ⟨rfl, hb1⟩
           rw [HB.out]
           have hbx := Box.new w1 112 #[.slice none 0 0, .int .i64 (rd : Nat), .int .i64 (rl : Nat)]
           have hxc := hbx.cell
           have hxf := hbx.free
           have hxl := hbx.lt
           have hs1 := hb1.size
           have HB1 := Lib.hid hb1
           have HX1 := Lib.hid hbx
           clear hb1 hbx
           have HBW : Hid (Below wr.heap.size wr (w1.alloc (.cells #[.slice none 0 0, .int .i64 (rd : Nat), .int .i64 (rl : Nat)] 112))) := HB1.out.alloc hs1 _)
        | (at_builtin
           obtain ⟨ms, hm1, hm2, hm3⟩ := (HK.out.to_.below HBW.out).below ((Below.refl _ _).alloc (Nat.le_refl _) (.cells #[.slice none 0 0, .int .i64 (rd : Nat), .int .i64 (rl : Nat)] 112))
           try rw [show (ts ++ [(⟨lit, 0, 0⟩ : Tok)]).length = ts.length + 1 by simp] at hm2
           refine wpList_app _ rfl (.tmp 41) (.tmp 43) _ rfl (w.heap.size + 1) 112 i0 _ 3 40 Tryz.underlying96 hi0 hz0 hs0 hy0 rfl (by omega) (.slice vb (ts.length) vc) (ts.length) (ms.flatMap tmc) rfl hm2 _ _ 1 1 _ rfl rfl (rd_newB (w1.alloc (.cells #[.slice none 0 0, .int .i64 (rd : Nat), .int .i64 (rl : Nat)] 112)) (by simp) _ _) (by simp [Value.oneCell']) (by unfold maxLen; omega) (by omega) (by simp <;> omega) ?_
           intro v4 w4 hown hg hvv
           obtain ⟨b4, c4, rfl⟩ := ownsRow_slice hown
           have hb4 : Below (w.heap.size + 1) wr w4 := ((HBW.out.mono hwl).alloc (by simp <;> omega) _).grown hg (by simp <;> omega) (fun j e => (hm2.lt j e).1)
           have hto : TO w4 (w.heap.size + 1) (.slice b4 (ts.length + 1) c4) (flush t b a ts ++ [⟨[], rd, rl⟩]) := by
             have := TO.push hm2 hm3 ⟨none, 0, ⟨[], rd, rl⟩⟩ ⟨Rd.nil _ _ _, fun ad' e => by cases e⟩ (by have := congrArg List.length hm1; simp at this; omega) hown hg hvv
             rw [hm1] at this
             rw [HF.out]
             exact this
           have H4 := Lib.hid (And.intro hto hb4)
           have hx4 := (HX1.out.alloc (.cells #[.slice none 0 0, .int .i64 (rd : Nat), .int .i64 (rl : Nat)] 112)).grown hg (fun e => by have := hvl.out _ e.symm; omega)
           have hxc := hx4.cell
           have hxf := hx4.free
           have hxl := hx4.lt
           clear hm1 hm2 hm3 hown hg hvv hto hb4 hx4))
      go_loopw [7, 47] (fun x y wz => ∃ (k : Nat) (last' ahead' : Nat → Nat), k ≤ rl ∧ x = .int .i64 ((a + k : Nat) : Int) ∧ y = .int .i64 k ∧ FD wz w.heap.size ad n c last' ahead' ∧ Find t (a + k) last' ahead' ∧ TO wz (w.heap.size + 1) (.slice b4 (ts.length + 1) c4) (flush t b a ts ++ [⟨[], rd, rl⟩]) ∧ Below w.heap.size w wz) (fun _ y _ => rl - (intOf y).toNat)
      case atStart => exact ⟨0, last, ahead, Nat.zero_le _, rfl, rfl, HK.out.fd.below H4.out.2 (Nat.lt_succ_self _), HK.out.find, H4.out.1, HK.out.bel.trans (H4.out.2.mono (Nat.le_succ _))⟩
      case round =>
        obtain ⟨k, last', ahead', hk, rfl, rfl, hfd, hfi, hto, hbz⟩ := hrel
        have HZ := Lib.hid (And.intro hfd (And.intro hfi (And.intro hto hbz)))
        clear hfd hfi hto hbz
        by_cases hkl : k < rl
        · go_wp2_with (go_at_call 100
                       refine (passes_any ad c n t (a + k) wr w.heap.size last' ahead' HZ.out.1 (HAW.out wr HZ.out.2.2.2) Hn.out (by omega) hc hmx).mono ?_
                       rintro e w5 ⟨rfl, hf5, hc5⟩
                       have H5 := Lib.hid (And.intro hf5 hc5)
                       clear hf5 hc5)
          go_roundw
          case rel => exact ⟨k + 1, _, _, by omega, by go_num, by go_num, H5.out.1, find_next Hn.out HZ.out.2.1, HZ.out.2.2.1.chg H5.out.2 (fun k hk => by subst hk; exact Nat.lt_succ_self _), HZ.out.2.2.2.trans (H5.out.2.below HZ.out.2.2.2.size (fun k hk => Nat.le_of_eq hk.symm))⟩
          case measure => simp [intOf]; omega
        obtain rfl : k = rl := by omega
        go_wp2
        go_roundw
        case rel =>
          refine ⟨a + k, a + k, _, last', ahead', rfl, rfl, Nat.le_refl _, by omega, ⟨HZ.out.1, HZ.out.2.1, HZ.out.2.2.1, HZ.out.2.2.2, ?_, ?_⟩⟩
          · have := flush_len t b a ts
            have := HK.out.len
            simp only [List.length_append, List.length_cons, List.length_nil]
            omega
          have := rest_some (b := b) (ts := ts) (show a < t.length by rw [Hn.out]; exact hlt) (by rw [HR.out]; show ¬ k = 0; omega)
          rw [HR.out] at this
          simp only at this
          rw [← this]
          exact HK.out.rest
        case measure => simp [intOf]; omega
    have han' : a = n := by omega
    subst han'
    have HE : Hid (toks t = flush t b a ts) := by show _ = _; rw [← HK.out.rest, rest_end (by rw [Hn.out]; exact hlt)]
    have hvl : Hid (∀ j, (Value.slice vb ts.length vc).ownBlock = some j → j < wr.heap.size) := by
      obtain ⟨ms, _, h2, _⟩ := HK.out.to_
      exact fun j e => (h2.lt j e).2
    have htl : ts.length ≤ 4096 := by have := HK.out.len; omega
    by_cases hb : b < a
    · have HF : Hid (flush t b a ts = ts ++ [⟨(t.take a).drop b, 0, 0⟩]) := if_pos hb
      have HLL : Hid (((t.take a).drop b).length = a - b) := lit_len Hn.out (Nat.le_refl _)
      have HLR : Hid (∀ W : World, Below w.heap.size w W → Rd W W.heap.size (tailA (some ad) c b) (bv ((t.take a).drop b))) := fun W hW => by
        rw [List.drop_take]
        exact ((HAW.out W hW).tail_ (cap := c) b (by rw [Hn.out]; exact hc)).take_ (a - b)
      generalize (t.take a).drop b = lit at *
      have hsl := fun W => run_tail W 22 Tryz.underlying22 sizeU8 (some ad) a c b (by omega)
      have HBW : Hid (Below wr.heap.size wr wr) := Below.refl _ _
      have hs1 : wr.heap.size ≤ wr.heap.size := Nat.le_refl _
      go_wp2_with (first
        | (go_at_call 101
           refine (literal_any (tailA (some ad) c b) (a - b) (c - b) lit _ (HLR.out _ (HK.out.bel.trans (HBW.out.mono HK.out.bel.size))) HLL.out (by omega)).mono ?_
           rintro e w2 ⟨lA, lc, rfl, hl1, hl2, hb2⟩
           have HBW2 : Hid (Below wr.heap.size wr w2) := HBW.out.trans (hb2.mono HBW.out.size)
           have HL2 := Lib.hid (And.intro hl1 hl2)
           have hs2 := HBW2.out.size
           clear hl1 hl2 hb2)
        | (at_builtin
           obtain ⟨ms, hm1, hm2, hm3⟩ := HK.out.to_.below (HBW2.out.alloc hs2 (.cells #[.slice lA (a - b) lc, .int .i64 0, .int .i64 0] 112))
           refine wpList_app _ rfl (.tmp 60) (.tmp 65) _ rfl (w.heap.size + 1) 112 i0 _ 3 40 Tryz.underlying96 hi0 hz0 hs0 hy0 rfl (by omega) (.slice vb ts.length vc) ts.length (ms.flatMap tmc) rfl hm2 _ _ 1 1 _ rfl rfl (rd_new w2 _ _) (by simp [Value.oneCell']) (by unfold maxLen; omega) (by omega) (by simp <;> omega) ?_
           intro v3 w3 hown hg hvv
           obtain ⟨b3, c3, rfl⟩ := ownsRow_slice hown
           have hb3 : Below (w.heap.size + 1) wr w3 := ((HBW2.out.alloc hs2 (.cells #[.slice lA (a - b) lc, .int .i64 0, .int .i64 0] 112)).mono hwl).grown hg (by simp <;> omega) (fun j e => (hm2.lt j e).1)
           have hto : TO w3 (w.heap.size + 1) (.slice b3 (ts.length + 1) c3) (ts ++ [⟨lit, 0, 0⟩]) := by
             have := TO.push hm2 hm3 ⟨lA, lc, ⟨lit, 0, 0⟩⟩ ⟨(HL2.out.1.below ((Below.refl w2.heap.size w2).alloc (Nat.le_refl _) _)).mono (by simp), fun ad' e => by
               obtain ⟨q1, q2⟩ := HL2.out.2 ad' e
               refine ⟨by (try simp at q1); omega, by simp; omega, fun e2 => ?_⟩
               have := hvl.out _ e2.symm
               (try simp at q1); omega⟩ (by rw [← hm1, List.length_map]) (by rw [show tmc ⟨lA, lc, ⟨lit, 0, 0⟩⟩ = [.slice lA (a - b) lc, .int .i64 0, .int .i64 0] by simp only [tmc, HLL.out]; rfl]; exact hown) hg hvv
             rw [hm1] at this
             exact this
           have H3 := Lib.hid (And.intro hto hb3)
           have hs3 := hb3.size
           clear hm1 hm2 hm3 hown hg hvv hto hb3))
      go_ret2
      rw [HE.out, HF.out]
      refine ⟨b3, c3, by simp, ?_, HK.out.bel.trans (H3.out.2.mono (Nat.le_succ _))⟩
      have := H3.out.1.le (Nat.le_succ w.heap.size)
      simpa using this
    have HF : Hid (flush t b a ts = ts) := if_neg hb
    go_wp2
    go_ret2
    rw [HE.out, HF.out]
    exact ⟨vb, vc, rfl, HK.out.to_.le (Nat.le_succ _), HK.out.bel⟩
end Go.Proofs.YtmhlgbpgdhhfnaaGreat
