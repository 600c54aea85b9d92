import Derived.Test.YtmhlgbpgdhhfnaaGreatV05
import Derived.Laws.CopyOwn
import Derived.Laws.MakeOwn
import Derived.Laws.Tables
import Derived.Deep.Cut
import Derived.Deep.RegionWith
import Derived.Deep.RegionLaw
import Derived.WalkMore
import Derived.Deep.LoopGhost
set_option linter.unusedVariables false
set_option linter.unusedSimpArgs false
namespace Go.Proofs.YtmhlgbpgdhhfnaaGreat
open Go.RowKit Go.Maps Sqz

/-! Rows of pieces. -/
structure TM where
  A : Option Addr
  c : Nat
  k : Tok
def tmc (x : TM) : List Value := [.slice x.A x.k.lit.length x.c, .int .i64 x.k.dist, .int .i64 x.k.len]
theorem tm_get (l : List TM) (i : Nat) (hi : i < l.length) :
    (l.flatMap tmc)[i * 3]? = some (.slice l[i].A l[i].k.lit.length l[i].c) ∧ (l.flatMap tmc)[i * 3 + 1]? = some (.int .i64 l[i].k.dist) ∧ (l.flatMap tmc)[i * 3 + 2]? = some (.int .i64 l[i].k.len) := by
  induction l generalizing i with
  | nil => simp at hi
  | cons p l ih =>
    cases i with
    | zero => simp [tmc]
    | succ i =>
      have := ih i (by simpa using hi)
      have e : (i + 1) * 3 = 3 + i * 3 := by omega
      simp only [List.flatMap_cons, e, List.getElem_cons_succ]
      have hl : (tmc p).length = 3 := rfl
      refine ⟨?_, ?_, ?_⟩
      · rw [List.getElem?_append_right (by omega), hl, show 3 + i * 3 - 3 = i * 3 by omega]; exact this.1
      · rw [List.getElem?_append_right (by omega), hl, show 3 + i * 3 + 1 - 3 = i * 3 + 1 by omega]; exact this.2.1
      rw [List.getElem?_append_right (by omega), hl, show 3 + i * 3 + 2 - 3 = i * 3 + 2 by omega]; exact this.2.2
/-- The pieces ts are read behind A. -/
def TRow (w : World) (B : Nat) (A : Option Addr) (ts : List Tok) : Prop := ∃ ms : List TM, ms.map TM.k = ts ∧ Rd w B A (ms.flatMap tmc) ∧ ∀ x ∈ ms, Rd w B x.A (bv x.k.lit)
section
variable {w w' : World} {B B' : Nat} {A : Option Addr} {ts : List Tok} {v : Value} {S : Nat → Prop}
theorem TRow.below (h : TRow w B A ts) (hb : Below B w w') : TRow w' B A ts := let ⟨ms, h1, h2, h3⟩ := h; ⟨ms, h1, h2.below hb, fun x hx => (h3 x hx).below hb⟩
theorem TRow.mono (h : TRow w B A ts) (hB : B ≤ B') : TRow w B' A ts := let ⟨ms, h1, h2, h3⟩ := h; ⟨ms, h1, h2.mono hB, fun x hx => (h3 x hx).mono hB⟩
theorem TRow.at_ (h : TRow w B A ts) {i : Nat} (hi : i < ts.length) :
    ∃ ad lA lc, A = some ad ∧ ad.block < B ∧ w.cell? (ad.add (i * 3)) = some (.slice lA ts[i].lit.length lc) ∧
      w.cell? ⟨(ad.add (i * 3)).block, (ad.add (i * 3)).off + 1, none⟩ = some (.int .i64 ts[i].dist) ∧ w.cell? ⟨(ad.add (i * 3)).block, (ad.add (i * 3)).off + 2, none⟩ = some (.int .i64 ts[i].len) ∧ Rd w B lA (bv ts[i].lit) := by
  obtain ⟨ms, rfl, h2, h3⟩ := h
  have hi' : i < ms.length := by simpa using hi
  obtain ⟨g1, g2, g3⟩ := tm_get ms i hi'
  obtain ⟨ad, rfl, hb, c1⟩ := h2 _ _ g1
  obtain ⟨a2, e2, _, c2⟩ := h2 _ _ g2
  obtain ⟨a3, e3, _, c3⟩ := h2 _ _ g3
  cases e2; cases e3
  rw [← add_add'] at c2 c3
  simp only [List.getElem_map]
  exact ⟨ad, _, _, rfl, hb, c1, c2, c3, h3 _ (List.getElem_mem hi')⟩
theorem cell_of_block {w w' : World} {p : Addr} (h : w'.heap[p.block]? = w.heap[p.block]?) : w'.cell? p = w.cell? p := by unfold World.cell?; rw [h]
/-- A row of pieces of the call's own; what the pieces hold lies in blocks of its own, all from B on. -/
def TO (w : World) (B : Nat) (v : Value) (ts : List Tok) : Prop :=
  ∃ ms : List TM, ms.map TM.k = ts ∧ w.ownsRow B 112 3 v ts.length (ms.flatMap tmc) ∧ ∀ x ∈ ms, Rd w w.heap.size x.A (bv x.k.lit) ∧ ∀ ad, x.A = some ad → B ≤ ad.block ∧ ad.block < w.heap.size ∧ some ad.block ≠ v.ownBlock
theorem TO.nil (w : World) (B : Nat) : TO w B (.slice none 0 0) [] := ⟨[], rfl, World.ownsRow_nil _ _ _ _, fun x hx => by cases hx⟩
theorem TO.chg (h : TO w B v ts) (hc : Chg S w w') (hS : ∀ k, S k → k < B) : TO w' B v ts := by
  obtain ⟨ms, h1, h2, h3⟩ := h
  refine ⟨ms, h1, ownsRow_block h2 (fun k hk => ?_), fun x hx => ?_⟩
  · obtain ⟨a1, a2⟩ := h2.lt k hk
    exact hc.block k a2 fun hs => by have := hS k hs; omega
  obtain ⟨g1, g2⟩ := h3 x hx
  refine ⟨?_, fun ad he => ⟨(g2 ad he).1, Nat.lt_of_lt_of_le (g2 ad he).2.1 hc.size, (g2 ad he).2.2⟩⟩
  intro j u hj
  obtain ⟨ad, he, hb, hcell⟩ := g1 j u hj
  obtain ⟨b1, b2, _⟩ := g2 ad he
  refine ⟨ad, he, Nat.lt_of_lt_of_le hb hc.size, ?_⟩
  rw [← hcell]
  exact cell_of_block (by rw [add_block]; exact hc.block _ b2 fun hs => by have := hS _ hs; omega)
theorem TO.below (h : TO w B v ts) (hb : Below w.heap.size w w') : TO w' B v ts := h.chg (Chg.of_below hb fun _ => False) (fun _ e => e.elim)
theorem TO.push {v' : Value} {ms : List TM} {n : Nat} (h2 : w.ownsRow B 112 3 v n (ms.flatMap tmc)) (h3 : ∀ x ∈ ms, Rd w w.heap.size x.A (bv x.k.lit) ∧ ∀ ad, x.A = some ad → B ≤ ad.block ∧ ad.block < w.heap.size ∧ some ad.block ≠ v.ownBlock)
    (x : TM) (hx : Rd w w.heap.size x.A (bv x.k.lit) ∧ ∀ ad, x.A = some ad → B ≤ ad.block ∧ ad.block < w.heap.size ∧ some ad.block ≠ v.ownBlock) (hn : n = ms.length)
    (ho : w'.ownsRow B 112 3 v' (n + 1) (ms.flatMap tmc ++ tmc x)) (hg : w.grownBy w' v.ownBlock) (hv : v'.ownBlock = v.ownBlock ∨ v'.ownBlock = some w.heap.size) : TO w' B v' (ms.map TM.k ++ [x.k]) := by
  have key : ∀ y : TM, (Rd w w.heap.size y.A (bv y.k.lit) ∧ ∀ ad, y.A = some ad → B ≤ ad.block ∧ ad.block < w.heap.size ∧ some ad.block ≠ v.ownBlock) → Rd w' w'.heap.size y.A (bv y.k.lit) ∧ ∀ ad, y.A = some ad → B ≤ ad.block ∧ ad.block < w'.heap.size ∧ some ad.block ≠ v'.ownBlock := by
    intro y ⟨g1, g2⟩
    have hc := Chg.of_grown hg
    refine ⟨fun j u hj => ?_, fun ad he => ?_⟩
    · obtain ⟨ad, he, hb, hcell⟩ := g1 j u hj
      obtain ⟨b1, b2, b3⟩ := g2 ad he
      refine ⟨ad, he, Nat.lt_of_lt_of_le hb hc.size, ?_⟩
      rw [← hcell]
      exact cell_of_block (by rw [add_block]; exact hc.block _ b2 b3)
    obtain ⟨b1, b2, b3⟩ := g2 ad he
    refine ⟨b1, Nat.lt_of_lt_of_le b2 hc.size, ?_⟩
    rcases hv with hv | hv <;> rw [hv]
    · exact b3
    intro e; injection e with e; omega
  refine ⟨ms ++ [x], by simp, ?_, fun y hy => ?_⟩
  · have e : (ms ++ [x]).flatMap tmc = ms.flatMap tmc ++ tmc x := by simp
    rw [e, List.length_append, List.length_map, ← hn]
    exact ho
  rcases List.mem_append.1 hy with hy | hy
  · exact key y (h3 y hy)
  rw [List.mem_singleton.1 hy]; exact key x hx
theorem TO.row {b : Option Addr} {n c : Nat} (h : TO w B (.slice b n c) ts) (hn : ts.length = n) : TRow w w.heap.size b ts := by
  obtain ⟨ms, h1, h2, h3⟩ := h
  rw [hn] at h2
  exact ⟨ms, h1, ownsRow_rd h2, fun x hx => (h3 x hx).1⟩
theorem TO.slice (h : TO w B v ts) : ∃ b c, v = .slice b ts.length c := let ⟨_, _, h2, _⟩ := h; ownsRow_slice h2
end
end Go.Proofs.YtmhlgbpgdhhfnaaGreat
namespace Go.Proofs.YtmhlgbpgdhhfnaaGreat
open Go.RowKit Go.Maps Sqz

/-! finder.match -/
theorem hd_cs_le (t : List UInt8) (h q : Nat) : hd (Cs t q h) ≤ q := by
  cases e : Cs t q h with
  | nil => exact Nat.zero_le _
  | cons p tl => have := (cs_mem t h q p).1 (by rw [e]; simp); show p + 1 ≤ q; omega
theorem FD.below {w w' : World} {p : Nat} {ad : Addr} {n c : Nat} {last ahead : Nat → Nat} {B : Nat} (h : FD w p ad n c last ahead) (hb : Below B w w') (hp : p < B) : FD w' p ad n c last ahead :=
  let ⟨ar, h1, h2⟩ := h; ⟨ar, h1.below hb hp, h2⟩
set_option maxRecDepth 100000 in
set_option maxHeartbeats 2000000 in
theorem match_any (ad : Addr) (c n : Nat) (t : List UInt8) (i : Nat) (w : World) (p : Nat) (last ahead : Nat → Nat) (hF : FD w p ad n c last ahead) (hf : Find t i last ahead) (hA : Rd w w.heap.size (some ad) (bv t)) (hn : t.length = n) (hi : i < n) (hc : n ≤ c) (hmx : n ≤ 4096) :
    Calls Tryz.prog 99 #[.pointer (some ⟨p, 0, none⟩), .int .i64 i] w fun e w' => e = .returned (.agg #[.slice none 0 0, .int .i64 (bestP t i).2, .int .i64 (bestP t i).1]) ∧ Below w.heap.size w w' := by
  have hpl := FD.lt hF
  have hp := FD.text hF
  by_cases h5 : i + 5 ≤ n
  · have HB : Hid (bestP t i = tryC t i (Cs t i (numb t i)) (0, 0)) := by show _ = _; rw [bestP, if_pos (by omega)]
    have hlt := numb_lt t i
    have hla := hf.last _ hlt
    have hle := hd_cs_le t (numb t i) i
    have HF := Lib.hid hF
    have Hf := Lib.hid hf
    have Hla := Lib.hid hla
    have HN : Hid (∀ W : World, Below w.heap.size w W → Calls Tryz.prog 103 #[.pointer (some ⟨p, 0, none⟩), .int .i64 i] W fun e w' => e = .returned (.int .i64 (numb t i)) ∧ W = w') :=
      fun W hb => number_any ad c n t i W p ((hF.below hb hpl).text) ((hA.below hb).mono hb.size) hn h5 hc (by omega)
    have HAl : Hid (∀ (W : World) (q : Nat), Below w.heap.size w W → q ≤ i → Calls Tryz.prog 104 #[.pointer (some ⟨p, 0, none⟩), .int .i64 q, .int .i64 i] W fun e w' => e = .returned (.int .i64 (al t q i)) ∧ ∃ m, w' = W.drewN m) :=
      fun W q hb hq => alike_any (some ad) c n t i q W p ((hF.below hb hpl).text) ((hA.below hb).mono hb.size) hn (by omega) hq (by omega)
    clear hF hf hA hla
    generalize numb t i = hh at *
    go_enter Tryz.func99, Tryz.ntmps99
    have f1 : ((hh : Nat) : Int).toNat = hh := by omega
    have f2 : ((hh : Nat) : Int) < 1024 := by omega
    have f3 : (0 : Int) ≤ (hh : Nat) := by omega
    have f8 : ¬ ((n : Int) < (i : Int) + 5) := by omega
    go_wp2
    go_step3
    go_wp2
    have hbw : Below w.heap.size w ((w.alloc (.cells #[.slice none 0 0, .int .i64 0, .int .i64 0] 112)).alloc (.cells #[.slice none 0 0, .int .i64 0, .int .i64 0] 112)) := ((Below.refl _ _).alloc (Nat.le_refl _) _).alloc (by simp) _
    have hb0 : Box ((w.alloc (.cells #[.slice none 0 0, .int .i64 0, .int .i64 0] 112)).alloc (.cells #[.slice none 0 0, .int .i64 0, .int .i64 0] 112)) w.heap.size 112 #[.slice none 0 0, .int .i64 0, .int .i64 0] := (Box.new w _ _).alloc _
    have hb1 : Box ((w.alloc (.cells #[.slice none 0 0, .int .i64 0, .int .i64 0] 112)).alloc (.cells #[.slice none 0 0, .int .i64 0, .int .i64 0] 112)) (w.heap.size + 1) 112 #[.slice none 0 0, .int .i64 0, .int .i64 0] := by
      have := Box.new (w.alloc (.cells #[.slice none 0 0, .int .i64 0, .int .i64 0] 112)) 112 #[.slice none 0 0, .int .i64 0, .int .i64 0]
      simpa using this
    generalize hW : World.alloc (World.alloc w _) _ = W1 at *
    clear hW
    have HNW : Hid (∀ m, Calls Tryz.prog 103 #[.pointer (some ⟨p, 0, none⟩), .int .i64 i] (W1.drewN m) fun e w' => e = .returned (.int .i64 hh) ∧ (W1.drewN m) = w') := fun m => HN.out _ (below_drewN hbw m)
    have hlc := (HF.out.below hbw hpl).lastc hh hlt
    go_quiet ((go_at_call 103; exact Calls.quiet_of (quiet_two (HNW.out _))))
    go_wp2
    go_step3
    go_wp2
    have hb0' := hb0.drewN nq
    have hb1' := hb1.drewN nq
    have hbw' := below_drewN hbw nq
    generalize World.drewN W1 nq = W2 at *
    clear hb0 hb1 hbw HNW HN hlc
    go_loopw [6] (fun u wr => ∃ (q : Nat) (b : Nat × Nat), q ≤ i ∧ u = .int .i64 (hd (Cs t q hh) : Nat) ∧ Box wr w.heap.size 112 #[.slice none 0 0, .int .i64 0, .int .i64 0] ∧ Box wr (w.heap.size + 1) 112 #[.slice none 0 0, .int .i64 (b.2 : Nat), .int .i64 (b.1 : Nat)] ∧ Below w.heap.size w wr ∧ tryC t i (Cs t i hh) (0, 0) = tryC t i (Cs t q hh) b)
      (fun u _ => (intOf u).toNat)
    case atStart => exact ⟨i, (0, 0), Nat.le_refl _, by rw [Hla.out], hb0', hb1', hbw', rfl⟩
    case round =>
      clear hb0' hb1' hbw'
      obtain ⟨q, ⟨bl, bd⟩, hq, rfl, hx0, hx1, hbb, htr⟩ := hrel
      simp only at hx1 htr
      have HT := Lib.hid htr
      clear htr
      have hc0 := hx0.cell
      have hc1 := hx1.cell
      have hfr1 := hx1.free
      have hfr0 := hx0.free
      have hl1 := hx1.lt
      have hl0 := hx0.lt
      have HX := Lib.hid (And.intro hx0 (And.intro hx1 hbb))
      clear hx0 hx1 hbb
      cases hcs : Cs t q hh with
      | nil =>
        rw [hcs] at HT
        have HE : Hid (bestP t i = (bl, bd)) := by show _ = _; rw [HB.out, HT.out, tryC]
        rw [show ((hd [] : Nat) : Int) = 0 from rfl]
        go_wp2
        rw [Exit.noGoto_ret]
        refine bodyPost_ret (v := .agg #[.slice none 0 0, .int .i64 (bd : Nat), .int .i64 (bl : Nat)]) ?_ rfl ?_
        · simp [results, Tryz.results99, go_sem, hc0, hl0]
        rw [HE.out]
        refine ⟨rfl, ?_⟩
        have hB := HX.out.2.2
        repeat (first | with_reducible exact hB | with_reducible exact below_drewN hB _ | refine Below.setCell ?_ (by simp) _)
      | cons z zs =>
        rw [hcs] at HT
        obtain ⟨hz1, hz2, hz3, hz4⟩ := Hf.out.next hq hcs
        subst hz4
        have hahc := (HF.out.below HX.out.2.2 hpl).aheadc z (by omega)
        rw [hz3] at hahc
        have hzle := hd_cs_le t hh z
        have Hz4 := Lib.hid hz3
        clear hz3 hcs
        have HALz := Lib.hid (HAl.out wr z HX.out.2.2 (by omega))
        have HT2 : Hid (tryC t i (Cs t i hh) (0, 0) = if 2048 < i - z then (bl, bd) else if al t z i < 5 ∨ al t z i ≤ bl then tryC t i (Cs t z hh) (bl, bd) else if al t z i = 258 then (258, i - z) else tryC t i (Cs t z hh) (al t z i, i - z)) := by
          show _ = _; rw [HT.out, tryC]
        clear HT
        have hal := al_le t z i
        generalize al t z i = L at *
        have e1 : ((hd (z :: Cs t z hh) : Nat) : Int) = (z : Int) + 1 := rfl
        rw [e1]
        have hhp : z < q := hz1
        by_cases c0 : 2048 < i - z
        · have HE : Hid (bestP t i = (bl, bd)) := by show _ = _; rw [HB.out, HT2.out, if_pos c0]
          have c0' : (2048 : Int) < (i : Int) - z := by omega
          go_wp2
          rw [Exit.noGoto_ret]
          refine bodyPost_ret (v := .agg #[.slice none 0 0, .int .i64 (bd : Nat), .int .i64 (bl : Nat)]) ?_ rfl ?_
          · simp [results, Tryz.results99, go_sem, hc0, hl0]
          rw [HE.out]
          refine ⟨rfl, ?_⟩
          have hB := HX.out.2.2
          repeat (first | with_reducible exact hB | with_reducible exact below_drewN hB _ | refine Below.setCell ?_ (by simp) _)
        have HT3 : Hid (tryC t i (Cs t i hh) (0, 0) = if L < 5 ∨ L ≤ bl then tryC t i (Cs t z hh) (bl, bd) else if L = 258 then (258, i - z) else tryC t i (Cs t z hh) (L, i - z)) := by show _ = _; rw [HT2.out, if_neg c0]
        have c0' : ¬ (2048 : Int) < (i : Int) - z := by omega
        clear HT2
        by_cases c5 : L < 5 ∨ L ≤ bl
        · have HT4 : Hid (tryC t i (Cs t i hh) (0, 0) = tryC t i (Cs t z hh) (bl, bd)) := by show _ = _; rw [HT3.out, if_pos c5]
          clear HT3
          by_cases c6 : L < 5
          · have c6' : (L : Int) < 5 := by omega
            clear c5
            go_wp2_with (go_at_call 104; refine HALz.out.mono ?_; rintro e w' ⟨rfl, y, hwy⟩; subst hwy)
            go_roundw
            case rel =>
              refine ⟨z, (bl, bd), by omega, rfl, ?_, ?_, ?_, HT4.out⟩
              · have hB := HX.out.1
                repeat (first | with_reducible exact hB | with_reducible exact hB.drewN _ | refine Box.far ?_ (by simp) _)
              · exact HX.out.2.1.drewN y
              have hB := below_drewN HX.out.2.2 y
              repeat (first | with_reducible exact hB | refine Below.setCell ?_ (by simp) _)
            case measure => simp [intOf]; omega
          have c7 : L ≤ bl := by omega
          have c6' : ¬ (L : Int) < 5 := by omega
          have c7' : (L : Int) ≤ bl := by omega
          clear c5
          go_wp2_with (go_at_call 104; refine HALz.out.mono ?_; rintro e w' ⟨rfl, y, hwy⟩; subst hwy)
          go_roundw
          case rel =>
            refine ⟨z, (bl, bd), by omega, rfl, ?_, ?_, ?_, HT4.out⟩
            · have hB := HX.out.1
              repeat (first | with_reducible exact hB | with_reducible exact hB.drewN _ | refine Box.far ?_ (by simp) _)
            · exact HX.out.2.1.drewN y
            have hB := below_drewN HX.out.2.2 y
            repeat (first | with_reducible exact hB | refine Below.setCell ?_ (by simp) _)
          case measure => simp [intOf]; omega
        have HT4 : Hid (tryC t i (Cs t i hh) (0, 0) = if L = 258 then (258, i - z) else tryC t i (Cs t z hh) (L, i - z)) := by show _ = _; rw [HT3.out, if_neg c5]
        have c6' : ¬ (L : Int) < 5 := by omega
        have c7' : ¬ (L : Int) ≤ bl := by omega
        clear HT3 c5
        by_cases c8 : L = 258
        · have HE : Hid (bestP t i = (258, i - z)) := by show _ = _; rw [HB.out, HT4.out, if_pos c8]
          subst c8
          go_wp2_with (go_at_call 104; refine HALz.out.mono ?_; rintro e w' ⟨rfl, y, hwy⟩; subst hwy)
          rw [Exit.noGoto_ret]
          refine bodyPost_ret (v := .agg #[.slice none 0 0, .int .i64 ((i : Int) - z), .int .i64 258]) ?_ rfl ?_
          · simp [results, Tryz.results99, go_sem, hc0, hl0]
          rw [HE.out]
          have e7 : (((i - z : Nat)) : Int) = (i : Int) - z := by omega
          have e8 : ((258 : Nat) : Int) = 258 := rfl
          simp only [e7, e8]
          refine ⟨trivial, ?_⟩
          have hB := HX.out.2.2
          repeat (first | with_reducible exact hB | with_reducible exact below_drewN hB _ | refine Below.setCell ?_ (by simp) _)
        have HT5 : Hid (tryC t i (Cs t i hh) (0, 0) = tryC t i (Cs t z hh) (L, i - z)) := by show _ = _; rw [HT4.out, if_neg c8]
        have c8' : ((L : Int) == 258) = false := by simp; omega
        go_wp2_with (go_at_call 104; refine HALz.out.mono ?_; rintro e w' ⟨rfl, y, hwy⟩; subst hwy)
        go_roundw
        case rel =>
          refine ⟨z, (L, i - z), by omega, rfl, ?_, ?_, ?_, HT5.out⟩
          · have hB := HX.out.1
            repeat (first | with_reducible exact hB | with_reducible exact hB.drewN _ | refine Box.far ?_ (by simp) _)
          · have hC := (((HX.out.2.1.drewN y).set_ 0 (.slice none 0 0)).set_ 1 (.int .i64 ((i : Int) - z))).set_ 2 (.int .i64 (L : Nat))
            have e7 : (((i - z : Nat)) : Int) = (i : Int) - z := by omega
            simpa [e7] using hC
          have hB := below_drewN HX.out.2.2 y
          repeat (first | with_reducible exact hB | refine Below.setCell ?_ (by simp) _)
        case measure => simp [intOf]; omega
  have HE : Hid (bestP t i = (0, 0)) := by show _ = _; rw [bestP, if_neg (by omega)]
  have f8 : (n : Int) < (i : Int) + 5 := by omega
  clear hf hA hn
  go_enter Tryz.func99, Tryz.ntmps99
  go_wp2
  go_step3
  go_wp2
  rw [Exit.noGoto_ret]
  refine bodyPost_ret (v := .agg #[.slice none 0 0, .int .i64 (0 : Nat), .int .i64 (0 : Nat)]) ?_ rfl ?_
  · simp [results, Tryz.results99, go_sem]
  rw [HE.out]
  refine ⟨rfl, ?_⟩
  have hB : Below w.heap.size w ((w.alloc (.cells #[.slice none 0 0, .int .i64 0, .int .i64 0] 112)).alloc (.cells #[.slice none 0 0, .int .i64 0, .int .i64 0] 112)) := ((Below.refl _ _).alloc (Nat.le_refl _) _).alloc (by simp) _
  repeat (first | with_reducible exact hB | with_reducible exact below_drewN hB _ | refine Below.setCell ?_ (by simp) _)
end Go.Proofs.YtmhlgbpgdhhfnaaGreat
namespace Go.Proofs.YtmhlgbpgdhhfnaaGreat
open Go.RowKit Go.Maps Sqz

/-! added: a text behind a piece -/
theorem addT_snoc (d : Nat) : ∀ (n : Nat) (y : List UInt8), addT d (n + 1) y = addT d n y ++ [(addT d n y).getD ((addT d n y).length - d) 0]
  | 0, y => rfl
  | n + 1, y => by
    show addT d (n + 1) (y ++ [_]) = _
    rw [addT_snoc d n (y ++ _)]
    rfl
set_option maxRecDepth 100000 in
set_option maxHeartbeats 2000000 in
theorem added_any (B : Nat) (v : Value) (x : List UInt8) (k : Tok) (A : Option Addr) (n l c : Nat) (w : World) (hv : w.ownsRow B 5 1 v n (bv x)) (hA : Rd w B A (bv k.lit)) (hB : B ≤ w.heap.size)
    (hd : 0 < k.len → 1 ≤ k.dist ∧ k.dist ≤ n) (hn : x.length = n) (hl : k.lit.length = l) (hx : n + l + k.len ≤ 4096) :
    Calls Tryz.prog 95 #[v, .agg #[.slice A l c, .int .i64 k.dist, .int .i64 k.len]] w fun e w' =>
      ∃ v', e = .returned v' ∧ w'.ownsRow B 5 1 v' (n + l + k.len) (bv (addT k.dist k.len (x ++ k.lit))) ∧ Below B w w' := by
  obtain ⟨i0, hi0, hz0, hs0, hy0⟩ := info_parts info_u8
  obtain ⟨lit, d, m⟩ := k
  simp only at *
  have hvl : ∀ j, v.ownBlock = some j → j < w.heap.size := fun j e => (hv.lt j e).2
  have hvB : ∀ j, v.ownBlock = some j → B ≤ j := fun j e => (hv.lt j e).1
  obtain ⟨vb, vc, rfl⟩ := ownsRow_slice hv
  have HW := Lib.hid hv
  have HAr := Lib.hid hA
  have Hl := Lib.hid hl
  have Hn := Lib.hid hn
  have HBl := Lib.hid (And.intro hvl hvB)
  clear hv hA hl hn hvl hvB
  go_enter Tryz.func95, Tryz.ntmps95
  go_wp2_with (at_builtin
               refine wpList_app _ rfl (.tmp 5) (.tmp 7) _ rfl B 5 i0 _ 1 1 Tryz.underlying22 hi0 hz0 hs0 hy0 rfl (by omega) (.slice vb n vc) n (bv x) rfl (HW.out.alloc _) B A l c (bv lit) rfl (by rw [bv_len, Nat.mul_one, Hl.out]) (HAr.out.below ((Below.refl _ _).alloc hB _)) (one_bv _) (by unfold maxLen; omega) (by omega) (by simp <;> omega) ?_
               intro v1 w1 hown hg hvv
               have hb1 : Below B w w1 := ((Below.refl B w).alloc hB _).grown hg (by simp <;> omega) HBl.out.2
               have hx1 : Box w1 w.heap.size 112 #[.slice A l c, .int .i64 d, .int .i64 m] := (Box.new w _ _).grown hg (fun e => by have := HBl.out.1 _ e.symm; omega)
               have hne : v1.ownBlock ≠ some w.heap.size := by
                 rcases hvv with e | e <;> rw [e]
                 · intro e; have := HBl.out.1 _ e; omega
                 simp
               rw [← bv_app] at hown
               have hsz : w.heap.size < w1.heap.size := hx1.lt
               have hxc := hx1.cell
               have H1 := Lib.hid (And.intro hown (And.intro hb1 (And.intro hx1 hne)))
               clear hown hg hvv hb1 hne)
  go_loopw [0, 11] (fun u s wr => ∃ j : Nat, j ≤ m ∧ s = .int .i64 j ∧ wr.ownsRow B 5 1 u (n + l + j) (bv (addT d j (x ++ lit))) ∧ Below B w wr ∧ Box wr w.heap.size 112 #[.slice A l c, .int .i64 d, .int .i64 m] ∧ u.ownBlock ≠ some w.heap.size) (fun _ s _ => m - (intOf s).toNat)
  case atStart => exact ⟨0, Nat.zero_le _, rfl, H1.out.1, H1.out.2.1, H1.out.2.2.1, H1.out.2.2.2⟩
  case round =>
    clear hxc hsz
    obtain ⟨j, hj, rfl, hrow, hb, hbx, hne⟩ := hrel
    have hlen : (addT d j (x ++ lit)).length = n + l + j := by rw [addT_len, List.length_append, Hn.out, Hl.out]
    obtain ⟨rb, rc, rfl⟩ := ownsRow_slice hrow
    by_cases hlt : j < m
    · have hdd := hd (by omega)
      obtain ⟨y, hy⟩ : ∃ y, (addT d j (x ++ lit)).getD (n + l + j - d) 0 = y := ⟨_, rfl⟩
      have HY : Hid (addT d (j + 1) (x ++ lit) = addT d j (x ++ lit) ++ [y]) := by show _ = _; rw [addT_snoc, hlen, hy]
      obtain ⟨ra, era, _, p0⟩ := ownsRow_rd hrow (n + l + j - d) (.int .u8 y.toNat) (by
        have h1 : n + l + j - d < (addT d j (x ++ lit)).length := by omega
        rw [List.getD_eq_getElem?_getD, List.getElem?_eq_getElem h1] at hy
        simp only [Option.getD_some] at hy
        simp [bv, h1, hy])
      subst era
      have hxc := hbx.cell
      have HR := Lib.hid (And.intro hrow (And.intro hb (And.intro hbx hne)))
      have hlr := hbx.lt
      clear hrow hb hbx hne hy hlen
      generalize addT d j (x ++ lit) = z at HY HR
      have hyl := y.toNat_lt
      have f1 : ((n : Int) + l + j - d).toNat = n + l + j - d := by omega
      go_wp2_with (at_builtin
                   refine wpList_app _ rfl (.tmp 13) (.tmp 22) _ rfl B 5 i0 _ 1 1 Tryz.underlying22 hi0 hz0 hs0 hy0 rfl (by omega) (.slice (some ra) (n + l + j) rc) (n + l + j) _ rfl (HR.out.1.alloc _) _ _ 1 1 _ rfl rfl (rd_new _ _ _) (by simp [Value.oneCell']) (by unfold maxLen; omega) (by omega) (by have := HR.out.2.1.size; simp <;> omega) ?_
                   intro v2 w2 hown hg hvv
                   have hb2 : Below B w w2 := (HR.out.2.1.alloc (Nat.le_trans hB HR.out.2.1.size) (.cells #[.int .u8 y.toNat] 5)).grown hg (by have := HR.out.2.1.size; simp <;> omega) (fun j e => (HR.out.1.lt j e).1)
                   have hx2 := (HR.out.2.2.1.alloc (.cells #[.int .u8 y.toNat] 5)).grown hg (fun e => HR.out.2.2.2 e.symm)
                   have hne2 : v2.ownBlock ≠ some w.heap.size := by
                     rcases hvv with e | e <;> rw [e]
                     · exact HR.out.2.2.2
                     simp <;> omega
                   have H2 := Lib.hid (And.intro hown (And.intro hb2 (And.intro hx2 hne2)))
                   clear hown hg hvv hb2 hx2 hne2)
      go_roundw
      case rel =>
        refine ⟨j + 1, by omega, by go_num, ?_, H2.out.2.1, H2.out.2.2.1, H2.out.2.2.2⟩
        rw [HY.out, bv_app]
        exact H2.out.1
      case measure => simp [intOf]; omega
    obtain rfl : j = m := by omega
    have HR := Lib.hid (And.intro hrow hb)
    have hxc := hbx.cell
    clear hrow hb
    go_wp2
    go_ret
    exact ⟨_, rfl, HR.out.1, HR.out.2⟩
end Go.Proofs.YtmhlgbpgdhhfnaaGreat
namespace Go.Proofs.YtmhlgbpgdhhfnaaGreat
open Go.RowKit Go.Maps Sqz

/-! Expand, of the program -/
/-- What Expand answers: the text, or an error. -/
def ExA (w w' : World) (o : Option (List UInt8)) (e : Ending) : Prop :=
  match o with
  | some x => ∃ b c, e = .returned (.tuple #[.slice b x.length c, .int .i64 0]) ∧ w'.ownsRow w.heap.size 5 1 (.slice b x.length c) x.length (bv x)
  | none => ∃ er : Int, er ≠ 0 ∧ e = .returned (.tuple #[.slice none 0 0, .int .i64 er])
theorem drop_next {α : Type} {l : List α} {j : Nat} (h : j < l.length) : l.drop j = l[j] :: l.drop (j + 1) := (List.getElem_cons_drop h).symm
set_option maxRecDepth 100000 in
set_option maxHeartbeats 2000000 in
theorem expand_any (A : Option Addr) (n c : Nat) (ts : List Tok) (w : World) (hT : TRow w w.heap.size A ts) (hn : ts.length = n) (hmx : n ≤ 1000000000) (hsm : ∀ k ∈ ts, k.lit.length ≤ 1000000000 ∧ k.dist ≤ 1000000000 ∧ k.len ≤ 1000000000) :
    Calls Tryz.prog 87 #[.slice A n c] w fun e w' => ExA w w' (expandL ts []) e ∧ Below w.heap.size w w' := by
  have HT := Lib.hid hT
  have Hn := Lib.hid hn
  have Hsm := Lib.hid hsm
  clear hT hn hsm
  generalize hR : expandL ts [] = R
  have HR := Lib.hid hR
  clear hR
  go_enter Tryz.func87, Tryz.ntmps87
  go_wp2
  go_loopw [4, 9] (fun u s wr => ∃ (j : Nat) (x : List UInt8) (m : Nat), j ≤ n ∧ s = .int .i64 j ∧ x.length = m ∧ m ≤ 4096 ∧ wr.ownsRow w.heap.size 5 1 u m (bv x) ∧ Below w.heap.size w wr ∧ expandL (ts.drop j) x = R) (fun _ s _ => n - (intOf s).toNat)
  case atStart => exact ⟨0, [], 0, Nat.zero_le _, rfl, rfl, by omega, World.ownsRow_nil _ _ _ _, Below.refl _ _, HR.out⟩
  case round =>
    obtain ⟨j, x, m, hj, rfl, hxm, hm4, hrow, hb, hex⟩ := hrel
    obtain ⟨vb, vc, rfl⟩ := ownsRow_slice hrow
    by_cases hlt : j < n
    · have hjl : j < ts.length := by rw [Hn.out]; exact hlt
      rw [drop_next hjl] at hex
      obtain ⟨ad, lA, lc, rfl, had, p0, p1, p2, hL⟩ := (HT.out.below hb).at_ hjl
      obtain ⟨h1, h2, h3⟩ := Hsm.out _ (List.getElem_mem hjl)
      generalize ts[j] = k at *
      obtain ⟨lit, d, l⟩ := k
      simp only at *
      obtain ⟨q, hq⟩ : ∃ q, lit.length = q := ⟨_, rfl⟩
      rw [hq] at p0 h1
      have HX := Lib.hid hex
      have HL := Lib.hid hL
      have HROW := Lib.hid (And.intro hrow hb)
      have Hq := Lib.hid hq
      have Hxm := Lib.hid hxm
      clear hex hL hrow hq hxm
      have HRT0 : rgt q d l m = rightT ⟨lit, d, l⟩ m := by rw [← Hq.out]; exact rgt_tok ⟨lit, d, l⟩ m
      by_cases hr : rightT ⟨lit, d, l⟩ m = true
      · have HRT : Hid (rgt q d l m = true) := HRT0.trans hr
        have HX2 : Hid ((if 4096 < m + q + l then none else expandL (ts.drop (j + 1)) (addT d l (x ++ lit))) = R) := by
          show _ = _
          rw [← HX.out, expandL]; simp only [Hxm.out, Hq.out]; rw [if_pos hr]
        have hrd : 0 < l → 1 ≤ d ∧ d ≤ m := by
          intro hl
          unfold rightT at hr
          split at hr
          · have := of_decide_eq_true hr; simp only at this; omega
          have := of_decide_eq_true hr; simp only at this; omega
        clear HX hr HRT0
        by_cases hbig : 4096 < m + q + l
        · have HE : Hid (R = none) := by show _ = _; rw [← HX2.out, if_pos hbig]
          have g1 : (4096 : Int) < (m : Int) + q + l := by omega
          go_wp2_with (go_at_call 94; refine (right_any lA lc q d l m _ h1 h2 h3 (by omega)).mono ?_; rintro e w1 ⟨rfl, hb1⟩; rw [HRT.out]; have hbx : Box w1 wr.heap.size 112 #[.slice lA q lc, .int .i64 d, .int .i64 l] := (Box.new wr _ _).below hb1 (by simp); have hxc := hbx.cell; have hxf := hbx.free; have hxl := hbx.lt; have HB1 := Lib.hid (And.intro hb1 hbx); clear hb1 hbx)
          go_ret2
          refine ⟨?_, ((HROW.out.2.alloc HROW.out.2.size _).trans (HB1.out.1.mono (by have := HROW.out.2.size; simp; omega)))⟩
          rw [HE.out]
          exact ⟨2, by decide, rfl⟩
        have HX3 : Hid (expandL (ts.drop (j + 1)) (addT d l (x ++ lit)) = R) := by show _ = _; rw [← HX2.out, if_neg hbig]
        have g1 : ¬ (4096 : Int) < (m : Int) + q + l := by omega
        clear HX2
        go_wp2_with (first
          | (go_at_call 94; refine (right_any lA lc q d l m _ h1 h2 h3 (by omega)).mono ?_; rintro e w1 ⟨rfl, hb1⟩; rw [HRT.out]; have hbx : Box w1 wr.heap.size 112 #[.slice lA q lc, .int .i64 d, .int .i64 l] := (Box.new wr _ _).below hb1 (by simp); have hxc := hbx.cell; have hxf := hbx.free; have hxl := hbx.lt; have HB1 := Lib.hid (And.intro hb1 hbx); clear hb1 hbx)
          | (go_at_call 95
             refine (added_any w.heap.size (.slice vb m vc) x ⟨lit, d, l⟩ lA m q lc w1 (ownsRow_block HROW.out.1 (fun k hk => (HB1.out.1.block k (by have := (HROW.out.1.lt k hk).2; simp; omega)).trans (Below.heap_alloc _ _ k (HROW.out.1.lt k hk).2))) (HL.out.below (((Below.refl w.heap.size wr).alloc HROW.out.2.size _).trans (HB1.out.1.mono (by have := HROW.out.2.size; simp; omega)))) (((HROW.out.2.alloc HROW.out.2.size _).trans (HB1.out.1.mono (by have := HROW.out.2.size; simp; omega)))).size hrd Hxm.out Hq.out (by simp only; omega)).mono ?_
             rintro e w2 ⟨v2, rfl, ho2, hb2⟩
             have HO2 := Lib.hid (And.intro ho2 ((((HROW.out.2.alloc HROW.out.2.size _).trans (HB1.out.1.mono (by have := HROW.out.2.size; simp; omega)))).trans hb2))
             clear ho2 hb2))
        go_roundw
        case rel =>
          refine ⟨j + 1, addT d l (x ++ lit), m + q + l, by omega, by go_num, by rw [addT_len, List.length_append, Hxm.out, Hq.out], by omega, HO2.out.1, HO2.out.2, HX3.out⟩
        case measure => simp [intOf]; omega
      have hrf : rightT ⟨lit, d, l⟩ m = false := by simpa using hr
      have HRT : Hid (rgt q d l m = false) := HRT0.trans hrf
      have HE : Hid (R = none) := by
        show _ = _
        rw [← HX.out, expandL]; simp only [Hxm.out]; rw [if_neg hr]
      clear HX hr HRT0 hrf
      go_wp2_with (go_at_call 94; refine (right_any lA lc q d l m _ h1 h2 h3 (by omega)).mono ?_; rintro e w1 ⟨rfl, hb1⟩; rw [HRT.out]; have hbx : Box w1 wr.heap.size 112 #[.slice lA q lc, .int .i64 d, .int .i64 l] := (Box.new wr _ _).below hb1 (by simp); have hxc := hbx.cell; have hxf := hbx.free; have hxl := hbx.lt; have HB1 := Lib.hid (And.intro hb1 hbx); clear hb1 hbx)
      go_ret2
      refine ⟨?_, ((HROW.out.2.alloc HROW.out.2.size _).trans (HB1.out.1.mono (by have := HROW.out.2.size; simp; omega)))⟩
      rw [HE.out]
      exact ⟨21, by decide, rfl⟩
    obtain rfl : j = n := by omega
    rw [List.drop_eq_nil_of_le (by rw [Hn.out]; exact Nat.le_refl _), expandL] at hex
    subst hex
    have HROW := Lib.hid (And.intro hrow hb)
    clear hrow hb
    go_wp2
    go_ret2
    subst hxm
    exact ⟨⟨_, _, rfl, HROW.out.1⟩, HROW.out.2⟩
end Go.Proofs.YtmhlgbpgdhhfnaaGreat
namespace Go.Proofs.YtmhlgbpgdhhfnaaGreat
open Go.RowKit Go.Maps Sqz

/-! literal; the finder made -/
def isZ : Value → Bool
  | .int .i64 0 => true
  | _ => false
theorem isZ_eq : ∀ {v : Value}, isZ v = true → v = .int .i64 0
  | .int .i64 0, _ => rfl
theorem zero_size : Tryz.zeroCells127.size = 5121 := by kernel_rfl
set_option maxRecDepth 100000 in
theorem zero_z : (Tryz.zeroCells127.toList.tail.all isZ) = true := by kernel_rfl
/-- The finder's cells when it is made. -/
theorem finder_cells (v : Value) : (Tryz.zeroCells127.setIfInBounds 0 v).size = 5121 ∧ (Tryz.zeroCells127.setIfInBounds 0 v)[0]? = some v ∧ ∀ j, 1 ≤ j → j < 5121 → (Tryz.zeroCells127.setIfInBounds 0 v)[j]? = some (.int .i64 0) := by
  have h1 := zero_size
  have h3 := zero_z
  generalize Tryz.zeroCells127 = ar at *
  refine ⟨by simp [h1], by simp [h1], fun j h0 hj => ?_⟩
  obtain ⟨k, rfl⟩ : ∃ k, j = k + 1 := ⟨j - 1, by omega⟩
  rw [Array.getElem?_setIfInBounds, if_neg (by omega)]
  have hg : k < ar.toList.tail.length := by simp [h1]; omega
  have e := List.all_eq_true.1 h3 _ (List.getElem_mem hg)
  have e2 := isZ_eq e
  have e3 : ar.toList.tail[k]? = some (.int .i64 0) := by rw [List.getElem?_eq_getElem hg, e2]
  rw [← e3]
  simp
set_option maxRecDepth 100000 in
set_option maxHeartbeats 2000000 in
theorem literal_any (A : Option Addr) (n c : Nat) (l : List UInt8) (w : World) (hA : Rd w w.heap.size A (bv l)) (hn : l.length = n) (hmx : n ≤ 4096) :
    Calls Tryz.prog 101 #[.slice A n c] w fun e w' =>
      ∃ A' c', e = .returned (.agg #[.slice A' n c', .int .i64 0, .int .i64 0]) ∧ Rd w' w'.heap.size A' (bv l) ∧ (∀ ad, A' = some ad → w.heap.size ≤ ad.block ∧ ad.block < w'.heap.size) ∧ Below w.heap.size w w' := by
  obtain ⟨i0, hi0, hz0, hs0, hy0⟩ := info_parts info_u8
  have hmk : ∀ W, (Instr.makeSlice 22 (.int .i64 n) (.int .i64 n)).run Tryz.prog W = .ok (.slice (some ⟨W.heap.size, 0, none⟩) n n) (W.alloc (.cells (Array.replicate n (.int .u8 0)) 5)) := fun W => by
    have h := run_make (P := Tryz.prog) W 22 5 i0 _ Tryz.underlying22 hi0 hz0 .i64 .i64 n n (by omega) (by omega) (by rw [hy0]; omega) (by omega)
    rw [h, hs0]
    simp only [Int.toNat_natCast, Nat.mul_one]
    congr 3
    simp [madeCells, Value.cells]
    apply Array.ext
    · simp
    intro i h1 h2; simp [Nat.mod_one]
  have HA := Lib.hid hA
  have Hn := Lib.hid hn
  have hbl := bv_len l
  rw [hn] at hbl
  obtain ⟨cs, hcs⟩ : ∃ cs, cs = bv l := ⟨_, rfl⟩
  have Hcs := Lib.hid hcs
  have hone : ∀ v ∈ cs, v.oneCell' = true := by rw [hcs]; exact one_bv l
  rw [← hcs] at hbl
  clear hA hn hcs
  have Hone := Lib.hid hone
  have Hbl := Lib.hid hbl
  clear hone hbl
  have Hb0 : Hid (Below (w.heap.size + 1) (w.alloc (.cells #[.slice none 0 0, .int .i64 0, .int .i64 0] 112)) ((w.alloc (.cells #[.slice none 0 0, .int .i64 0, .int .i64 0] 112)).alloc (.cells (Array.replicate n (.int .u8 0)) 5))) := (Below.refl _ _).alloc (by simp) _
  have Hg0 : Hid (((w.alloc (.cells #[.slice none 0 0, .int .i64 0, .int .i64 0] 112)).alloc (.cells (Array.replicate n (.int .u8 0)) 5)).heap[w.heap.size + 1]? = some (.cells (List.replicate n (.int .u8 0)).toArray 5 (0, 0))) := by
    show _ = _
    have := heap_alloc_new (w.alloc (.cells #[.slice none 0 0, .int .i64 0, .int .i64 0] 112)) (.cells (Array.replicate n (.int .u8 0)) 5)
    simpa using this
  have Hpos : Hid (0 < cs.length → (some ⟨w.heap.size + 1, 0, none⟩ : Option Addr) = some ⟨w.heap.size + 1, 0, none⟩ ∧ ∃ ad, A = some ad ∧ ∀ j v, cs[j]? = some v → ((w.alloc (.cells #[.slice none 0 0, .int .i64 0, .int .i64 0] 112)).alloc (.cells (Array.replicate n (.int .u8 0)) 5)).cell? (ad.add j) = some v) := by
    intro hp
    obtain ⟨ad, rfl, _, h⟩ := HA.out.some_ (by rw [← Hcs.out]; exact hp)
    refine ⟨rfl, ad, rfl, fun j v hj => ?_⟩
    rw [Hcs.out] at hj
    obtain ⟨ad', e, hlt, hc⟩ := HA.out j v hj
    cases e
    have hb : Below w.heap.size w ((w.alloc (.cells #[.slice none 0 0, .int .i64 0, .int .i64 0] 112)).alloc (.cells (Array.replicate n (.int .u8 0)) 5)) := ((Below.refl _ _).alloc (Nat.le_refl _) _).alloc (by simp) _
    exact (hb.cell (by rw [add_block]; exact hlt)).trans hc
  have Hmin : Hid (cs.length = Nat.min n n) := by show _ = _; rw [Hbl.out]; exact (Nat.min_self n).symm
  have Hfit : Hid (0 + cs.length ≤ (List.replicate n (Value.int .u8 0)).length) := by show _ ≤ _; rw [Hbl.out]; simp
  have Hinf : Hid ((Tryz.prog.info? 5).map (·.size) = some 1) := by show _ = _; rw [hi0]; simp [hs0]
  go_enter Tryz.func101, Tryz.ntmps101
  go_wp2_with (with_reducible refine wpList_copy_splice rfl (.tmp 7) (.tmp 8) _ _ rfl 5 Tryz.underlying22 Hinf.out (some ⟨w.heap.size + 1, 0, none⟩) A n n n c rfl rfl (w.heap.size + 1) 0 (List.replicate n (.int .u8 0)) 5 Hg0.out cs Hmin.out Hpos.out Hfit.out Hone.out (w.heap.size + 1) (w.alloc (.cells #[.slice none 0 0, .int .i64 0, .int .i64 0] 112)) Hb0.out (Nat.le_refl _) ?_
               go_loud (intro w2 hg2 hb2
                        have hx2 : Box w2 w.heap.size 112 #[.slice none 0 0, .int .i64 0, .int .i64 0] := (Box.new w _ _).below hb2 (Nat.lt_succ_self _)
                        have hxc := hx2.cell
                        have hxf := hx2.free
                        have hxl := hx2.lt
                        have H2 := Lib.hid hb2
                        clear hb2 hx2))
  refine bodyPost_ret (v := .agg #[.slice (some ⟨w.heap.size + 1, 0, none⟩) n n, .int .i64 0, .int .i64 0]) ?_ rfl ?_
  · simp [results, Tryz.results101, go_sem, hxc, hxl]
  have hw : Below w.heap.size w w2 := ((Below.refl _ _).alloc (Nat.le_refl _) _).trans (H2.out.mono (by omega))
  have hsz : w.heap.size + 1 < w2.heap.size := by
    have := hg2.out
    rcases Nat.lt_or_ge (w.heap.size + 1) w2.heap.size with h | h
    · exact h
    rw [Array.getElem?_eq_none h] at this; cases this
  have hcs : splice (List.replicate n (.int .u8 0)) 0 cs = bv l := by
    rw [Hcs.out]
    have := bv_len l
    rw [Hn.out] at this
    simp [splice, this]
  have hr : Rd w2 w2.heap.size (some ⟨w.heap.size + 1, 0, none⟩) (bv l) := by
    intro j u hj
    refine ⟨_, rfl, hsz, ?_⟩
    have e : (⟨w.heap.size + 1, 0, none⟩ : Addr).add j = ⟨w.heap.size + 1, j, none⟩ := by unfold Addr.add; split <;> simp_all
    have h2 := hg2.out
    rw [hcs] at h2
    rw [e, cell_of_row w2 _ j _ _ _ h2]
    simpa using hj
  have hr' : Rd (((w2.setCell ⟨w.heap.size, 0, none⟩ (.slice (some ⟨w.heap.size + 1, 0, none⟩) n n)).setCell ⟨w.heap.size, 1, none⟩ (.int .i64 0)).setCell ⟨w.heap.size, 2, none⟩ (.int .i64 0)) w2.heap.size (some ⟨w.heap.size + 1, 0, none⟩) (bv l) := by
    intro j u hj
    obtain ⟨ad, he, hb, hc⟩ := hr j u hj
    cases he
    refine ⟨_, rfl, hb, ?_⟩
    rw [← hc]
    have hne : w.heap.size + 1 ≠ w.heap.size := by omega
    refine cell_of_block ?_
    rw [add_block]
    exact ((Below.heap_setCell _ _ _ _ hne).trans (Below.heap_setCell _ _ _ _ hne)).trans (Below.heap_setCell _ _ _ _ hne)
  refine ⟨some ⟨w.heap.size + 1, 0, none⟩, ⟨n, rfl⟩, hr'.mono (Nat.le_of_eq (by simp [World.setCell])), fun ad e => ?_, ?_⟩
  · cases e; exact ⟨by simp, by simpa [World.setCell] using hsz⟩
  exact ((hw.setCell (by simp) _).setCell (by simp) _).setCell (by simp) _
end Go.Proofs.YtmhlgbpgdhhfnaaGreat
