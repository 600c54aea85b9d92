import Derived.Test.YtmhlgbpgdhhfnaaGreatV12
set_option linter.unusedVariables false
set_option linter.unusedSimpArgs false
namespace Go.Proofs.YtmhlgbpgdhhfnaaGreat
open Go.RowKit Go.Maps Sqz

/-! chronicleref2.Tokens -/
/-- A row of pieces of the call's own, what they hold lies below H. -/
def TOH (w : World) (B H : Nat) (v : Value) (ts : List Tok) : Prop :=
  ∃ ms : List TM, ms.map TM.k = ts ∧ w.ownsRow B 112 3 v ts.length (ms.flatMap tmc) ∧ ∀ x ∈ ms, Rd w H x.A (bv x.k.lit) ∧ ∀ ad, x.A = some ad → B ≤ ad.block ∧ ad.block < H ∧ some ad.block ≠ v.ownBlock
section
variable {w w' : World} {B H H' : Nat} {v v' : Value} {ts : List Tok}
theorem TOH.nil (w : World) (B H : Nat) : TOH w B H (.slice none 0 0) [] := ⟨[], rfl, World.ownsRow_nil _ _ _ _, fun x hx => by cases hx⟩
theorem TOH.to_ (h : TOH w B H v ts) (hH : H ≤ w.heap.size) : TO w B v ts :=
  let ⟨ms, h1, h2, h3⟩ := h
  ⟨ms, h1, h2, fun x hx => ⟨(h3 x hx).1.mono hH, fun ad e => ⟨((h3 x hx).2 ad e).1, Nat.lt_of_lt_of_le ((h3 x hx).2 ad e).2.1 hH, ((h3 x hx).2 ad e).2.2⟩⟩⟩
theorem TOH.slice (h : TOH w B H v ts) : ∃ b c, v = .slice b ts.length c := let ⟨_, _, h2, _⟩ := h; ownsRow_slice h2
theorem TOH.lt (h : TOH w B H v ts) : ∀ j, v.ownBlock = some j → B ≤ j ∧ j < w.heap.size := let ⟨_, _, h2, _⟩ := h; fun j e => h2.lt j e
theorem TOH.keep (h : TOH w B H v ts) (hb : ∀ k, k < H → w'.heap[k]? = w.heap[k]?) (hv : ∀ k, v.ownBlock = some k → w'.heap[k]? = w.heap[k]?) : TOH w' B H v ts := by
  obtain ⟨ms, h1, h2, h3⟩ := h
  refine ⟨ms, h1, ownsRow_block h2 hv, fun x hx => ?_⟩
  obtain ⟨g1, g2⟩ := h3 x hx
  exact ⟨g1.keep fun p hp => cell_of_block (hb _ hp), g2⟩
theorem TOH.push {ms : List TM} {n : Nat} (h2 : w.ownsRow B 112 3 v n (ms.flatMap tmc)) (h3 : ∀ x ∈ ms, Rd w H x.A (bv x.k.lit) ∧ ∀ ad, x.A = some ad → B ≤ ad.block ∧ ad.block < H ∧ some ad.block ≠ v.ownBlock)
    (x : TM) (hHH : H ≤ H') (hH : H' ≤ w.heap.size) (hx : Rd w H' x.A (bv x.k.lit) ∧ ∀ ad, x.A = some ad → B ≤ ad.block ∧ ad.block < H' ∧ some ad.block ≠ v.ownBlock) (hn : n = ms.length)
    (ho : w'.ownsRow B 112 3 v' (n + 1) (ms.flatMap tmc ++ tmc x)) (hg : w.grownBy w' v.ownBlock) (hv : v'.ownBlock = v.ownBlock ∨ v'.ownBlock = some w.heap.size) : TOH w' B H' v' (ms.map TM.k ++ [x.k]) := by
  have key : ∀ y : TM, (Rd w H' y.A (bv y.k.lit) ∧ ∀ ad, y.A = some ad → B ≤ ad.block ∧ ad.block < H' ∧ some ad.block ≠ v.ownBlock) → Rd w' H' y.A (bv y.k.lit) ∧ ∀ ad, y.A = some ad → B ≤ ad.block ∧ ad.block < H' ∧ some ad.block ≠ v'.ownBlock := by
    intro y ⟨g1, g2⟩
    have hc := Chg.of_grown hg
    refine ⟨fun j u hj => ?_, fun ad he => ?_⟩
    · obtain ⟨ad, he, hb, hcell⟩ := g1 j u hj
      obtain ⟨b1, b2, b3⟩ := g2 ad he
      refine ⟨ad, he, hb, ?_⟩
      rw [← hcell]
      exact cell_of_block (by rw [add_block]; exact hc.block _ (by omega) b3)
    obtain ⟨b1, b2, b3⟩ := g2 ad he
    refine ⟨b1, b2, ?_⟩
    rcases hv with hv | hv <;> rw [hv]
    · exact b3
    intro e; injection e with e; omega
  refine ⟨ms ++ [x], by simp, ?_, fun y hy => ?_⟩
  · have e : (ms ++ [x]).flatMap tmc = ms.flatMap tmc ++ tmc x := by simp
    rw [e, List.length_append, List.length_map, ← hn]
    exact ho
  rcases List.mem_append.1 hy with hy | hy
  · obtain ⟨g1, g2⟩ := h3 y hy
    exact key y ⟨g1.mono hHH, fun ad e => ⟨(g2 ad e).1, Nat.lt_of_lt_of_le (g2 ad e).2.1 hHH, (g2 ad e).2.2⟩⟩
  rw [List.mem_singleton.1 hy]; exact key x hx
end
/-- What the loop of the document's Tokens keeps. -/
structure RTk (w wr : World) (t : List UInt8) (n a b : Nat) (v y : Value) (ts : List Tok) (H q : Nat) : Prop where
  toh : TOH wr w.heap.size H v ts
  lit : wr.ownsRow w.heap.size 5 1 y q (bv ((t.take a).drop b))
  bel : Below w.heap.size w wr
  hH : w.heap.size ≤ H
  hH2 : H ≤ wr.heap.size
  yH : ∀ k, y.ownBlock = some k → H ≤ k
  yv : ∀ k, y.ownBlock = some k → v.ownBlock ≠ some k
  len : ts.length ≤ a
  rest : rest t a b ts = toks t
set_option maxRecDepth 100000 in
set_option maxHeartbeats 4000000 in
theorem tokensR_any (A : Option Addr) (n c : Nat) (t : List UInt8) (w : World) (hA : Rd w w.heap.size A (bv t)) (hn : t.length = n) (hmx : n ≤ 4096) :
    Calls Tryz.prog 81 #[.slice A n c] w fun e w' => TkA w w' (toks t) e := by
  obtain ⟨i0, hi0, hz0, hs0, hy0⟩ := info_parts info_tok
  obtain ⟨i1, hi1, hz1, hs1, hy1⟩ := info_parts info_u8
  have HA := Lib.hid hA
  have Hn := Lib.hid hn
  clear hA hn
  have f0 : ¬ (4096 : Int) < n := by omega
  go_enter Tryz.func81, Tryz.ntmps81
  go_wp2
  go_loopw [4, 5, 6] (fun u y x wr => ∃ (a b q : Nat) (ts : List Tok) (H : Nat), x = .int .i64 a ∧ b ≤ a ∧ a ≤ n ∧ q + b = a ∧ RTk w wr t n a b u y ts H q) (fun _ _ x _ => n - (intOf x).toNat)
  case atStart => exact ⟨0, 0, 0, [], w.heap.size, rfl, Nat.le_refl _, Nat.zero_le _, rfl, ⟨TOH.nil _ _ _, World.ownsRow_nil _ _ _ _, Below.refl _ _, Nat.le_refl _, Nat.le_refl _, fun k e => by simp [Value.ownBlock] at e, fun k e => by simp [Value.ownBlock] at e, Nat.le_refl _, rfl⟩⟩
  case round =>
    obtain ⟨a, b, q, ts, H, rfl, hba, han, hq, hk⟩ := hrel
    obtain ⟨vb, vc, rfl⟩ := hk.toh.slice
    obtain ⟨yb, yc, rfl⟩ := ownsRow_slice hk.lit
    have htl : ts.length ≤ 4096 := by have := hk.len; omega
    have hbs := hk.bel.size
    have hlitl : ((t.take a).drop b).length = q := by rw [lit_len Hn.out han]; omega
    have HLL := Lib.hid hlitl
    have HK := Lib.hid hk
    have hvl := Lib.hid hk.toh.lt
    have hyl : Hid (∀ j, (Value.slice yb q yc).ownBlock = some j → w.heap.size ≤ j ∧ j < wr.heap.size) := fun j e => hk.lit.lt j e
    clear hk hlitl
    by_cases hlt : a < n
    · obtain ⟨rl, rd, hr⟩ : ∃ rl rd, bestR t a = (rl, rd) := ⟨_, _, rfl⟩
      have HBC := Lib.hid (bestR_any A c n t a wr ((HA.out.below HK.out.bel).mono hbs) Hn.out (by omega) (by omega))
      rw [hr] at HBC
      have HR := Lib.hid hr
      clear hr
      by_cases h0 : rl = 0
      · subst h0
        have g1 : a < t.length := by rw [Hn.out]; exact hlt
        obtain ⟨ad, rfl, had, p0⟩ := HA.out a (.int .u8 (t[a]'g1).toNat) (by simp [bv, g1])
        replace p0 := (HK.out.bel.cell (p := ad.add a) (by rw [add_block]; exact had)).trans p0
        have HTK : Hid (bv ((t.take (a + 1)).drop b) = bv ((t.take a).drop b) ++ [.int .u8 (t[a]'g1).toNat]) := by
          show _ = _
          rw [List.take_succ_eq_append_getElem g1, List.drop_append_of_le_length (by simp; omega), bv_app]
          rfl
        generalize (t[a]'g1).toNat = y at p0 HTK
        go_wp2_with (first
          | (go_at_call 92
             refine HBC.out.mono ?_
             rintro e w1 ⟨rfl, x1, rfl⟩
             have hc1 : ∀ p : Addr, (wr.drewN x1).cell? p = wr.cell? p := fun _ => rfl
             simp only)
          | (at_builtin
             refine wpList_app _ rfl (.tmp 24) (.tmp 29) _ rfl w.heap.size 5 i1 _ 1 1 Tryz.underlying22 hi1 hz1 hs1 hy1 rfl (by omega) (.slice yb q yc) q _ rfl (ownsRow_below HK.out.lit ((below_drewN (Below.refl _ _) x1).alloc (Nat.le_refl _) (.cells #[.int .u8 (y : Nat)] 5))) _ _ 1 1 _ rfl rfl (rd_newB _ rfl _ _) (by simp [Value.oneCell']) (by unfold maxLen; omega) (by omega) (by simp <;> omega) ?_
             intro v3 w3 hown hg hvv
             have hb3 : Below w.heap.size w w3 := ((below_drewN HK.out.bel x1).alloc hbs (.cells #[.int .u8 (y : Nat)] 5)).grown hg (by simp <;> omega) (fun j e => (hyl.out j e).1)
             have hvl3 : ∀ k, v3.ownBlock = some k → k = wr.heap.size + 1 ∨ (Value.slice yb q yc).ownBlock = some k := by
               intro k e
               rcases hvv with h | h
               · exact .inr (h.symm.trans e)
               rw [h] at e; cases e; exact .inl (by simp)
             have hgr := Chg.of_grown hg
             have hkp : ∀ k, k < wr.heap.size → (Value.slice yb q yc).ownBlock ≠ some k → w3.heap[k]? = wr.heap[k]? := fun k hk hne =>
               (hgr.block k (by simp <;> omega) (fun e => hne e.symm)).trans (Below.heap_alloc _ _ k hk)
             have H3 : RTk w w3 t n (a + 1) b (.slice vb ts.length vc) v3 ts H (q + 1) :=
               ⟨HK.out.toh.keep (fun k hk => hkp k (Nat.lt_of_lt_of_le hk HK.out.hH2) (fun e => by have := HK.out.yH k e; omega)) (fun k e => hkp k (hvl.out k e).2 (fun e2 => HK.out.yv k e2 e)),
                 by rw [HTK.out]; exact hown, hb3, HK.out.hH, Nat.le_trans HK.out.hH2 (by have := hgr.size; simp at this; omega),
                 fun k e => by
                   rcases hvl3 k e with h | h
                   · have := HK.out.hH2; omega
                   exact HK.out.yH k h,
                 fun k e e2 => by
                   rcases hvl3 k e with h | h
                   · have := (hvl.out k e2).2; omega
                   exact HK.out.yv k h e2,
                 Nat.le_succ_of_le HK.out.len, by rw [← rest_none (by rw [Hn.out]; exact hlt) (by rw [HR.out])]; exact HK.out.rest⟩
             have H4 := Lib.hid H3
             clear hown hg hvv hb3 hvl3 hgr hkp H3))
        go_roundw
        case rel => exact ⟨a + 1, b, q + 1, ts, H, by go_num, by omega, by omega, by omega, H4.out⟩
        case measure => simp [intOf]; omega
      obtain ⟨hr5, hrn, hr8, hrd⟩ := bestR_in Hn.out hlt HR.out h0
      have h0' : ((rl : Int) == 0) = false := by simp; omega
      have hrest := rest_some (b := b) (ts := ts) (show a < t.length by rw [Hn.out]; exact hlt) (by rw [HR.out]; exact h0)
      rw [HR.out] at hrest
      simp only at hrest
      have HREST : Hid (rest t (a + rl) (a + rl) (flush t b a ts ++ [⟨[], rd, rl⟩]) = toks t) := by show _ = _; rw [← hrest]; exact HK.out.rest
      have HDR : Hid ((t.take (a + rl)).drop (a + rl) = []) := List.drop_eq_nil_of_le (by simp; omega)
      clear h0 hrest
      by_cases hb : b < a
      · have HF : Hid (flush t b a ts = ts ++ [⟨(t.take a).drop b, 0, 0⟩]) := if_pos hb
        have hq0 : (0 : Int) < q := by omega
        obtain ⟨lit, hlit⟩ : ∃ lit, (t.take a).drop b = lit := ⟨_, rfl⟩
        have HLIT := Lib.hid hlit
        rw [hlit] at HF HLL
        clear hlit
        go_wp2_with (first
          | (go_at_call 92
             refine HBC.out.mono ?_
             rintro e w1 ⟨rfl, x1, rfl⟩
             have hc1 : ∀ p : Addr, (wr.drewN x1).cell? p = wr.cell? p := fun _ => rfl
             simp only)
          | (at_builtin
             obtain ⟨ms, hm1, hm2, hm3⟩ := HK.out.toh.keep (w' := ((wr.drewN x1).alloc (.cells #[.slice yb q yc, .int .i64 0, .int .i64 0] 112))) (fun k hk => Below.heap_alloc _ _ k (Nat.lt_of_lt_of_le hk HK.out.hH2)) (fun k e => Below.heap_alloc _ _ k (hvl.out k e).2)
             try rw [show (ts ++ [(⟨lit, 0, 0⟩ : Tok)]).length = ts.length + 1 by simp] at hm2
             refine wpList_app _ rfl (.tmp 36) (.tmp 39) _ rfl w.heap.size 112 i0 _ 3 40 Tryz.underlying96 hi0 hz0 hs0 hy0 rfl (by omega) (.slice vb (ts.length) vc) (ts.length) (ms.flatMap tmc) rfl hm2 _ _ 1 1 _ rfl rfl (rd_newB (wr.drewN x1) rfl _ _) (by simp [Value.oneCell']) (by unfold maxLen; omega) (by omega) (by simp <;> omega) ?_
             intro v3 w3 hown hg hvv
             obtain ⟨b3, c3, rfl⟩ := ownsRow_slice hown
             have hb3 : Below w.heap.size w w3 := ((below_drewN HK.out.bel x1).alloc hbs (.cells #[.slice yb q yc, .int .i64 0, .int .i64 0] 112)).grown hg (by simp <;> omega) (fun j e => (hm2.lt j e).1)
             have hto : TOH w3 w.heap.size (wr.heap.size) (.slice b3 (ts.length + 1) c3) (ts ++ [⟨lit, 0, 0⟩]) := by
               have := TOH.push hm2 hm3 ⟨yb, yc, ⟨lit, 0, 0⟩⟩ HK.out.hH2 (by simp) ⟨by have h := ownsRow_rd (ownsRow_below HK.out.lit ((below_drewN (Below.refl _ _) x1).alloc (Nat.le_refl _) (.cells #[.slice yb q yc, .int .i64 0, .int .i64 0] 112))); rw [HLIT.out] at h; intro j u hj; obtain ⟨ad', he, _, hc⟩ := h j u hj; exact ⟨ad', he, (hyl.out ad'.block (by simp [Value.ownBlock, he])).2, hc⟩, fun ad' e => ⟨(hyl.out ad'.block (by simp [Value.ownBlock, show yb = some ad' from e])).1, (hyl.out ad'.block (by simp [Value.ownBlock, show yb = some ad' from e])).2, fun e2 => HK.out.yv ad'.block (by simp [Value.ownBlock, show yb = some ad' from e]) e2.symm⟩⟩ (by have := congrArg List.length hm1; simp at this; omega) (by rw [show tmc ⟨yb, yc, ⟨lit, 0, 0⟩⟩ = [.slice yb q yc, .int .i64 0, .int .i64 0] by simp only [tmc, HLL.out]; rfl]; exact hown) hg hvv
               rw [hm1] at this
               exact this
             have hgs := (Chg.of_grown hg).size
             simp at hgs
             have H3 := Lib.hid (And.intro hto hb3)
             have hs3 := hb3.size
             clear hm1 hm2 hm3 hown hg hvv hb3 hto)
          | (at_builtin
             obtain ⟨ms, hm1, hm2, hm3⟩ := H3.out.1.keep (w' := w3.alloc (.cells #[.slice none 0 0, .int .i64 (rd : Nat), .int .i64 (rl : Nat)] 112)) (fun k hk => Below.heap_alloc _ _ k (by omega)) (fun k e => Below.heap_alloc _ _ k (H3.out.1.lt k e).2)
             try rw [show (ts ++ [(⟨lit, 0, 0⟩ : Tok)]).length = ts.length + 1 by simp] at hm2
             refine wpList_app _ rfl (.tmp 41) (.tmp 45) _ rfl w.heap.size 112 i0 _ 3 40 Tryz.underlying96 hi0 hz0 hs0 hy0 rfl (by omega) (.slice b3 (ts.length + 1) c3) (ts.length + 1) (ms.flatMap tmc) rfl hm2 _ _ 1 1 _ rfl rfl (rd_newB w3 rfl _ _) (by simp [Value.oneCell']) (by unfold maxLen; omega) (by omega) (by simp <;> omega) ?_
             intro v4 w4 hown hg hvv
             obtain ⟨b4, c4, rfl⟩ := ownsRow_slice hown
             have hb4 : Below w.heap.size w w4 := (H3.out.2.alloc hs3 (.cells #[.slice none 0 0, .int .i64 (rd : Nat), .int .i64 (rl : Nat)] 112)).grown hg (by simp <;> omega) (fun j e => (hm2.lt j e).1)
             have hto : TOH w4 w.heap.size (wr.heap.size) (.slice b4 (ts.length + 1 + 1) c4) (flush t b a ts ++ [⟨[], rd, rl⟩]) := by
               have := TOH.push hm2 hm3 ⟨none, 0, ⟨[], rd, rl⟩⟩ (Nat.le_refl _) (by simp; omega) ⟨Rd.nil _ _ _, fun ad e => by cases e⟩ (by have := congrArg List.length hm1; simp at this; omega) hown hg hvv
               rw [hm1] at this
               rw [HF.out]
               exact this
             have hgs := (Chg.of_grown hg).size
             simp at hgs
             have H4 : RTk w w4 t n (a + rl) (a + rl) (.slice b4 (ts.length + 1 + 1) c4) (.slice none 0 0) (flush t b a ts ++ [⟨[], rd, rl⟩]) wr.heap.size 0 :=
               ⟨hto, by rw [HDR.out]; exact World.ownsRow_nil _ _ _ _, hb4, hbs, by omega, fun k e => by simp [Value.ownBlock] at e, fun k e => by simp [Value.ownBlock] at e, by have := flush_len t b a ts; have := HK.out.len; simp only [List.length_append, List.length_cons, List.length_nil]; omega, HREST.out⟩
             have H5 := Lib.hid H4
             clear hm1 hm2 hm3 hown hg hvv hb4 hto H4))
        go_roundw
        case rel => exact ⟨a + rl, a + rl, 0, _, _, by go_num, Nat.le_refl _, by omega, by omega, H5.out⟩
        case measure => simp [intOf]; omega
      have HF : Hid (flush t b a ts = ts) := if_neg hb
      obtain rfl : q = 0 := by omega
      go_wp2_with (first
        | (go_at_call 92
           refine HBC.out.mono ?_
           rintro e w1 ⟨rfl, x1, rfl⟩
           have hc1 : ∀ p : Addr, (wr.drewN x1).cell? p = wr.cell? p := fun _ => rfl
           simp only)
        | (at_builtin
           obtain ⟨ms, hm1, hm2, hm3⟩ := HK.out.toh.keep (w' := ((wr.drewN x1).alloc (.cells #[.slice none 0 0, .int .i64 (rd : Nat), .int .i64 (rl : Nat)] 112))) (fun k hk => Below.heap_alloc _ _ k (Nat.lt_of_lt_of_le hk HK.out.hH2)) (fun k e => Below.heap_alloc _ _ k (hvl.out k e).2)
           try rw [show (ts ++ [(⟨lit, 0, 0⟩ : Tok)]).length = ts.length + 1 by simp] at hm2
           refine wpList_app _ rfl (.tmp 41) (.tmp 45) _ rfl w.heap.size 112 i0 _ 3 40 Tryz.underlying96 hi0 hz0 hs0 hy0 rfl (by omega) (.slice vb (ts.length) vc) (ts.length) (ms.flatMap tmc) rfl hm2 _ _ 1 1 _ rfl rfl (rd_newB (wr.drewN x1) rfl _ _) (by simp [Value.oneCell']) (by unfold maxLen; omega) (by omega) (by simp <;> omega) ?_
           intro v4 w4 hown hg hvv
           obtain ⟨b4, c4, rfl⟩ := ownsRow_slice hown
           have hb4 : Below w.heap.size w w4 := ((below_drewN HK.out.bel x1).alloc hbs (.cells #[.slice none 0 0, .int .i64 (rd : Nat), .int .i64 (rl : Nat)] 112)).grown hg (by simp <;> omega) (fun j e => (hm2.lt j e).1)
           have hto : TOH w4 w.heap.size (H) (.slice b4 (ts.length + 1) c4) (flush t b a ts ++ [⟨[], rd, rl⟩]) := by
             have := TOH.push hm2 hm3 ⟨none, 0, ⟨[], rd, rl⟩⟩ (Nat.le_refl _) (by have := HK.out.hH2; simp; omega) ⟨Rd.nil _ _ _, fun ad e => by cases e⟩ (by have := congrArg List.length hm1; simp at this; omega) hown hg hvv
             rw [hm1] at this
             rw [HF.out]
             exact this
           have hgs := (Chg.of_grown hg).size
           simp at hgs
           have hgr := Chg.of_grown hg
           have hkp : ∀ k, (Value.slice yb 0 yc).ownBlock = some k → w4.heap[k]? = wr.heap[k]? := fun k e =>
             (hgr.block k (by have := (hyl.out k e).2; simp <;> omega) (fun e2 => HK.out.yv k e e2.symm)).trans (Below.heap_alloc _ _ k (hyl.out k e).2)
           have H4 : RTk w w4 t n (a + rl) (a + rl) (.slice b4 (ts.length + 1) c4) (.slice yb 0 yc) (flush t b a ts ++ [⟨[], rd, rl⟩]) H 0 :=
             ⟨hto, by
               have := ownsRow_block HK.out.lit hkp
               rw [List.eq_nil_of_length_eq_zero HLL.out] at this
               rw [HDR.out]; exact this, hb4, HK.out.hH, by have := HK.out.hH2; omega, HK.out.yH, fun k e e2 => by
               rcases hvv with h | h
               · exact HK.out.yv k e (h.symm.trans e2)
               rw [h] at e2; have := (hyl.out k e).2; simp at e2; omega, by have := flush_len t b a ts; have := HK.out.len; simp only [List.length_append, List.length_cons, List.length_nil]; omega, HREST.out⟩
           have H5 := Lib.hid H4
           clear hm1 hm2 hm3 hown hg hvv hb4 hto H4 hgr hkp))
      go_roundw
      case rel => exact ⟨a + rl, a + rl, 0, _, _, by go_num, Nat.le_refl _, by omega, by omega, H5.out⟩
      case measure => simp [intOf]; omega
    have HAN : Hid (a = n) := by show _ = _; omega
    have HE : Hid (toks t = flush t b a ts) := by show _ = _; rw [← HK.out.rest, rest_end (by rw [Hn.out]; exact hlt)]
    by_cases hb : b < a
    · have HF : Hid (flush t b a ts = ts ++ [⟨(t.take a).drop b, 0, 0⟩]) := if_pos hb
      have hq0 : (0 : Int) < q := by omega
      obtain ⟨lit, hlit⟩ : ∃ lit, (t.take a).drop b = lit := ⟨_, rfl⟩
      have HLIT := Lib.hid hlit
      rw [hlit] at HF HLL
      clear hlit
      go_wp2_with (first
        | (at_builtin
           obtain ⟨ms, hm1, hm2, hm3⟩ := HK.out.toh.keep (w' := (wr.alloc (.cells #[.slice yb q yc, .int .i64 0, .int .i64 0] 112))) (fun k hk => Below.heap_alloc _ _ k (Nat.lt_of_lt_of_le hk HK.out.hH2)) (fun k e => Below.heap_alloc _ _ k (hvl.out k e).2)
           try rw [show (ts ++ [(⟨lit, 0, 0⟩ : Tok)]).length = ts.length + 1 by simp] at hm2
           refine wpList_app _ rfl (.tmp 53) (.tmp 56) _ rfl w.heap.size 112 i0 _ 3 40 Tryz.underlying96 hi0 hz0 hs0 hy0 rfl (by omega) (.slice vb (ts.length) vc) (ts.length) (ms.flatMap tmc) rfl hm2 _ _ 1 1 _ rfl rfl (rd_newB wr rfl _ _) (by simp [Value.oneCell']) (by unfold maxLen; omega) (by omega) (by simp <;> omega) ?_
           intro v3 w3 hown hg hvv
           obtain ⟨b3, c3, rfl⟩ := ownsRow_slice hown
           have hb3 : Below w.heap.size w w3 := ((HK.out.bel).alloc hbs (.cells #[.slice yb q yc, .int .i64 0, .int .i64 0] 112)).grown hg (by simp <;> omega) (fun j e => (hm2.lt j e).1)
           have hto : TOH w3 w.heap.size (wr.heap.size) (.slice b3 (ts.length + 1) c3) (ts ++ [⟨lit, 0, 0⟩]) := by
             have := TOH.push hm2 hm3 ⟨yb, yc, ⟨lit, 0, 0⟩⟩ HK.out.hH2 (by simp) ⟨by have h := ownsRow_rd (ownsRow_below HK.out.lit ((Below.refl wr.heap.size wr).alloc (Nat.le_refl _) (.cells #[.slice yb q yc, .int .i64 0, .int .i64 0] 112))); rw [HLIT.out] at h; intro j u hj; obtain ⟨ad', he, _, hc⟩ := h j u hj; exact ⟨ad', he, (hyl.out ad'.block (by simp [Value.ownBlock, he])).2, hc⟩, fun ad' e => ⟨(hyl.out ad'.block (by simp [Value.ownBlock, show yb = some ad' from e])).1, (hyl.out ad'.block (by simp [Value.ownBlock, show yb = some ad' from e])).2, fun e2 => HK.out.yv ad'.block (by simp [Value.ownBlock, show yb = some ad' from e]) e2.symm⟩⟩ (by have := congrArg List.length hm1; simp at this; omega) (by rw [show tmc ⟨yb, yc, ⟨lit, 0, 0⟩⟩ = [.slice yb q yc, .int .i64 0, .int .i64 0] by simp only [tmc, HLL.out]; rfl]; exact hown) hg hvv
             rw [hm1] at this
             exact this
           have hgs := (Chg.of_grown hg).size
           simp at hgs
           have H3 := Lib.hid (And.intro hto hb3)
           have hs3 := hb3.size
           clear hm1 hm2 hm3 hown hg hvv hb3 hto))
      go_ret2
      rw [HE.out, HF.out]
      refine ⟨b3, c3, by simp, ?_, H3.out.2⟩
      have := H3.out.1.to_ (by omega)
      simpa using this
    have HF : Hid (flush t b a ts = ts) := if_neg hb
    obtain rfl : q = 0 := by omega
    go_wp2
    go_ret2
    rw [HE.out, HF.out]
    exact ⟨vb, vc, rfl, HK.out.toh.to_ HK.out.hH2, HK.out.bel⟩
end Go.Proofs.YtmhlgbpgdhhfnaaGreat
