import Derived.Test.YtmhlgbpgdhhfnaaGreatV35
import Derived.Test.YtmhlgbpgdhhfnaaGreatV36
import Derived.Test.YtmhlgbpgdhhfnaaGreatV34
set_option linter.unusedVariables false
set_option linter.unusedSimpArgs false
namespace Go.Proofs.YtmhlgbpgdhhfnaaGreat
open Go.RowKit Go.Maps Sqz

/-! chronicleref5.Look -/
/-- The world in Look's loop: z, z + 1 its answers' variables, p what it says of the segment. -/
structure LkW (w wr : World) (p : Nat) (i : Inf) (at_ : Nat) (lst : Int) (done : List PL) (u : Value) : Prop where
  row : wr.ownsRow (p + 1) 35 9 u done.length (done.flatMap plc)
  box : Box wr p 24 #[.int .i64 i.topic, .int .i64 i.num, .int .i64 i.base, .int .i64 at_, .int .i64 done.length, .int .i64 lst, .bool false]
  z2 : Box wr w.heap.size 24 #[.int .i64 0, .int .i64 0, .int .i64 0, .int .i64 0, .int .i64 0, .int .i64 0, .bool false]
  z4 : Box wr (w.heap.size + 1) 28 #[.int .i64 0, .int .i64 0]
  bel : Below w.heap.size w wr
  hp : w.heap.size + 1 < p
section
variable {w wr w' : World} {p at_ : Nat} {i : Inf} {lst : Int} {done : List PL} {u : Value}
theorem LkW.on (h : LkW w wr p i at_ lst done u) (hb : Below wr.heap.size wr w') : LkW w w' p i at_ lst done u :=
  ⟨ownsRow_block h.row fun k hk => hb.block k (h.row.lt k hk).2, h.box.below hb h.box.lt, h.z2.below hb h.z2.lt, h.z4.below hb h.z4.lt, h.bel.trans (hb.mono h.bel.size), h.hp⟩
/-- A row read as one slice. -/
theorem LkW.sl (h : LkW w wr p i at_ lst done u) : ∃ b c, u = .slice b done.length c := ownsRow_slice h.row
/-- Another record. -/
theorem LkW.push {w1 w2 : World} {u' : Value} {x : PL} {m : Nat} (h : LkW w wr p i at_ lst done u) (hb : Below wr.heap.size wr w1) (ho : w2.ownsRow (p + 1) 35 9 u' (done.length + 1) (done.flatMap plc ++ plc x)) (hg : w1.grownBy w2 u.ownBlock) :
    LkW w (((w2.setCell ⟨p, 3, none⟩ (.int .i64 (m : Int))).setCell ⟨p, 4, none⟩ (.int .i64 ((done.length : Int) + 1))).setCell ⟨p, 5, none⟩ (.int .i64 x.1.off)) p i m x.1.off (done ++ [x]) u' := by
  have h1 := h.on hb
  have hne : ∀ k, u.ownBlock = some k → p + 1 ≤ k := fun k hk => (h1.row.lt k hk).1
  have hp := h.hp
  have b2 : Box w2 p 24 #[.int .i64 i.topic, .int .i64 i.num, .int .i64 i.base, .int .i64 at_, .int .i64 done.length, .int .i64 lst, .bool false] := h1.box.grown hg fun e => by have := hne _ e.symm; omega
  have c2 : Box w2 w.heap.size 24 #[.int .i64 0, .int .i64 0, .int .i64 0, .int .i64 0, .int .i64 0, .int .i64 0, .bool false] := h1.z2.grown hg fun e => by have := hne _ e.symm; omega
  have d2 : Box w2 (w.heap.size + 1) 28 #[.int .i64 0, .int .i64 0] := h1.z4.grown hg fun e => by have := hne _ e.symm; omega
  have e2 : Below w.heap.size w w2 := h1.bel.grown hg h1.bel.size fun j e => by have := hne _ e; omega
  have hC : Chg (fun k => k = p) w2 (((w2.setCell ⟨p, 3, none⟩ (.int .i64 (m : Int))).setCell ⟨p, 4, none⟩ (.int .i64 ((done.length : Int) + 1))).setCell ⟨p, 5, none⟩ (.int .i64 x.1.off)) :=
    Chg.setCell (S := fun k => k = p) (p := ⟨p, 5, none⟩) (Chg.setCell (S := fun k => k = p) (p := ⟨p, 4, none⟩) (Chg.setCell (S := fun k => k = p) (p := ⟨p, 3, none⟩) (Chg.refl _ w2) (.inl rfl) _) (.inl rfl) _) (.inl rfl) _
  have hl2 : p < w2.heap.size := b2.lt
  refine ⟨?_, ?_, c2.chg hC (by omega), d2.chg hC (by omega), e2.trans ((hC.below (B := w.heap.size) e2.size (fun k hk => by omega))), hp⟩
  · have e : (done ++ [x]).flatMap plc = done.flatMap plc ++ plc x := by simp
    rw [e, List.length_append]
    refine ownsRow_block ho fun k hk => hC.block k (ho.lt k hk).2 fun e => ?_
    have := (ho.lt k hk).1
    omega
  have h3 := ((b2.set_ 3 (.int .i64 (m : Int))).set_ 4 (.int .i64 ((done.length : Int) + 1))).set_ 5 (.int .i64 x.1.off)
  simpa using h3
/-- The end: only p and what lies ahead of it has changed since. -/
theorem LkW.end_ (h : LkW w wr p i at_ lst done u) (hC : Chg (fun k => w.heap.size ≤ k ∧ k ≤ p) wr w') : w'.ownsRow w.heap.size 35 9 u done.length (done.flatMap plc) ∧ Below w.heap.size w w' := by
  have hp := h.hp
  refine ⟨ownsRow_le (ownsRow_block h.row fun k hk => hC.block k (h.row.lt k hk).2 fun e => ?_) (by omega), h.bel.trans (hC.below h.bel.size fun k hk => hk.1)⟩
  have := (h.row.lt k hk).1
  omega
end
set_option maxRecDepth 100000 in
set_option maxHeartbeats 16000000 in
theorem lookQ_any (A : Option Addr) (n c : Nat) (b : List UInt8) (w : World) (hA : Rd w w.heap.size A (bv b)) (hn : b.length = n) (hc : n ≤ c) (hmx : n ≤ 1000000000) :
    Calls Tryz.prog 4 #[.slice A n c] w (LkA b w) := by
  obtain ⟨i0, hi0, hz0, hs0, hy0⟩ := info_parts infoPL
  obtain ⟨w1, hw1⟩ : ∃ w1, (w.alloc (.cells #[.int .i64 0, .int .i64 0, .int .i64 0, .int .i64 0, .int .i64 0, .int .i64 0, .bool false] 24)).alloc (.cells #[.int .i64 0, .int .i64 0] 28) = w1 := ⟨_, rfl⟩
  have hb1 : Below w.heap.size w w1 := by rw [← hw1]; exact ((Below.refl _ _).alloc (Nat.le_refl _) _).alloc (by simp) _
  have hz2 : Box w1 w.heap.size 24 #[.int .i64 0, .int .i64 0, .int .i64 0, .int .i64 0, .int .i64 0, .int .i64 0, .bool false] := by rw [← hw1]; exact (Box.new w _ _).alloc _
  have hz4 : Box w1 (w.heap.size + 1) 28 #[.int .i64 0, .int .i64 0] := by
    have := Box.new (w.alloc (.cells #[.int .i64 0, .int .i64 0, .int .i64 0, .int .i64 0, .int .i64 0, .int .i64 0, .bool false] 24)) 28 #[.int .i64 0, .int .i64 0]
    rw [World.size_alloc] at this
    rw [← hw1]; exact this
  have hz1s : w1.heap.size = w.heap.size + 2 := by rw [← hw1]; simp
  have HA := Lib.hid hA
  have HL := Lib.hid hn
  have HI1 := Lib.hid (headInQ_any A n c b w1 ((hA.below hb1).mono hb1.size) hn hc hmx)
  cases hI : headR csum b with
  | none =>
    have HO := Lib.hid (lookO_none hI)
    rw [hI] at HI1
    have HB := Lib.hid (And.intro hb1 (And.intro hz2 (And.intro hz4 hz1s)))
    clear hb1 hz2 hz4 hA hn hI
    go_enter Tryz.func4, Tryz.ntmps4
    go_wp2_with (first
      | (go_at_call 8
         refine HI1.out.mono ?_
         rintro e w2 ⟨rfl, hb2⟩
         unfold HIv
         have hzb := HB.out.2.1.below hb2 HB.out.2.1.lt
         have hyb := HB.out.2.2.1.below hb2 HB.out.2.2.1.lt
         have hzc := hzb.cell
         have hzf := hzb.free
         have hzl := hzb.lt
         have hyc := hyb.cell
         have hyf := hyb.free
         have hyl := hyb.lt
         have H2 := Lib.hid (HB.out.1.trans (hb2.mono HB.out.1.size))
         clear hb2 hzb hyb HI1))
    refine bodyPost_ret (v := .tuple #[.agg #[.int .i64 0, .int .i64 0, .int .i64 0, .int .i64 0, .int .i64 0, .int .i64 0, .bool false], .slice none 0 0, .agg #[.int .i64 50, .int .i64 0]]) ?_ rfl ?_
    · simp [results, Tryz.results4, go_sem, hzc, hzl, hyc, hyl]
    unfold LkA
    rw [HO.out]
    refine ⟨_, rfl, World.ownsRow_nil _ _ _ _, ?_⟩
    have hB := H2.out
    have hsz := H2.out.size
    repeat (first | with_reducible exact hB | with_reducible refine Below.setCell ?_ (by simp <;> omega) _ | with_reducible refine Below.alloc ?_ (by simp <;> omega) _)
  | some i =>
    obtain ⟨q1, q2, q3, q4, q5, q6, q7, q8, q9⟩ := headR_ok hI
    obtain ⟨R, hR⟩ : ∃ R, scanAll b i.last = R := ⟨_, rfl⟩
    have hS0 := Sc.start b i.last q5
    rw [hR] at hS0
    have HS0 := Lib.hid hS0
    have HSeal := Lib.hid (fun at_ lst done => lookO_seal (at_ := at_) (lst := lst) (done := done) hI)
    have HOpen := Lib.hid (fun at_ lst done => lookO_open (at_ := at_) (lst := lst) (done := done) hI)
    rw [hR] at HSeal HOpen
    rw [hI] at HI1
    have HB := Lib.hid (And.intro hb1 (And.intro hz2 (And.intro hz4 hz1s)))
    clear hb1 hz2 hz4 hA hn hI hS0 hR
    obtain ⟨topic, num, base, size, count, last, sealed⟩ := i
    simp only at q1 q2 q3 q4 q6 q7 q8 q9 HSeal HOpen HS0
    subst q1 q2 q4 q3
    go_enter Tryz.func4, Tryz.ntmps4
    go_wp2_with (first
      | (go_at_call 8
         refine HI1.out.mono ?_
         rintro e w2 ⟨rfl, hb2⟩
         unfold HIv
         try unfold infV
         try dsimp only
         have hzb := HB.out.2.1.below hb2 HB.out.2.1.lt
         have hyb := HB.out.2.2.1.below hb2 HB.out.2.2.1.lt
         have hzc := hzb.cell
         have hzf := hzb.free
         have hzl := hzb.lt
         have hyc := hyb.cell
         have hyf := hyb.free
         have hyl := hyb.lt
         have H2 := Lib.hid (And.intro (HB.out.1.trans (hb2.mono HB.out.1.size)) (And.intro hzb (And.intro hyb (show w.heap.size + 1 < w2.heap.size by have := hb2.size; have := HB.out.2.2.2; omega))))
         clear hb2 hzb hyb HI1))
    have hwp : LkW w (w2.alloc (.cells #[.int .i64 (topic : Nat), .int .i64 (num : Nat), .int .i64 base, .int .i64 21, .int .i64 0, .int .i64 (base - 1), .bool false] 24)) w2.heap.size ⟨topic, num, base, 21, 0, base - 1, false⟩ 21 (base - 1) [] (.slice none 0 0) := by
      refine ⟨World.ownsRow_nil _ _ _ _, Box.new w2 _ _, H2.out.2.1.alloc _, H2.out.2.2.1.alloc _, H2.out.1.alloc H2.out.1.size _, H2.out.2.2.2⟩
    generalize w2.alloc (.cells #[.int .i64 (topic : Nat), .int .i64 (num : Nat), .int .i64 base, .int .i64 21, .int .i64 0, .int .i64 (base - 1), .bool false] 24) = wL at hwp ⊢
    generalize w2.heap.size = p at hwp ⊢
    have HWP := Lib.hid hwp
    clear hwp H2 hzc hzf hzl hyc hyf hyl HB
    go_loopw [7] (fun u wr => ∃ (at_ : Nat) (lst : Int) (done : List PL), LkW w wr p ⟨topic, num, base, 21, 0, base - 1, false⟩ at_ lst done u ∧ Sc b R at_ lst done) (fun u _ => n + 1 - lenV u)
    case atStart => exact ⟨21, base - 1, [], HWP.out, HS0.out⟩
    case round =>
      obtain ⟨at_, lst, done, hk, hsc⟩ := hrel
      obtain ⟨vb, vc, rfl⟩ := hk.sl
      have hat : at_ ≤ n := by rw [← HL.out]; exact hsc.1
      have hdl : done.length ≤ n := Nat.le_trans hsc.2.1 hat
      have hpc := hk.box.cell
      have hpf := hk.box.free
      have hpl := hk.box.lt
      have hsl : ∀ W, (Instr.slice 22 (.slice A n c) (some (.int .i64 (at_ : Int))) none none).run Tryz.prog W = .ok (.slice (tailA A c at_) (n - at_) (c - at_)) W := fun W => run_tail W 22 Tryz.underlying22 sizeU8 A n c at_ hat
      have HDC := Lib.hid (decodeQ_any (tailA A c at_) (n - at_) (c - at_) (b.drop at_) wr (((HA.out.below hk.bel).mono hk.bel.size).tail_ (cap := c) at_ (by rw [HL.out]; exact hc)) (by rw [List.length_drop, HL.out]) (by omega) (by omega))
      have HK := Lib.hid hk
      have HSC := Lib.hid hsc
      clear hk hsc
      have hhp := HK.out.hp
      cases hd : dcd (b.drop at_) with
      | inl e =>
        have hee := dcd_err hd
        have HR : Hid (R = (at_, lst, done)) := HSC.out.err hd
        have he1 : (e != 0) = true := by rcases hee with rfl | rfl <;> rfl
        rw [show decRR csum rdR (b.drop at_) = .inl e from hd] at HDC
        clear hd hee
        go_upto_region 11 with (first
          | (go_at_call 9
             refine HDC.out.mono ?_
             rintro e w5 ⟨rfl, hb5⟩
             dsimp only [DRv, recV]
             have hk5 := HK.out.on hb5
             have hpc5 := hk5.box.cell
             have hpf5 := hk5.box.free
             have hpl5 := hk5.box.lt
             have H5 := Lib.hid (And.intro hb5 hk5)
             clear hb5 hk5 HDC))
        have hk6 := H5.out.2.on ((Below.refl w5.heap.size w5).alloc (Nat.le_refl _) (.cells #[.int .i64 0, .int .i64 0, .int .i64 0, .int .i64 0, .int .i64 0, .string ⟨#[]⟩, .string ⟨#[]⟩] 33))
        generalize w5.alloc (.cells #[.int .i64 0, .int .i64 0, .int .i64 0, .int .i64 0, .int .i64 0, .string ⟨#[]⟩, .string ⟨#[]⟩] 33) = w6 at hk6 ⊢
        have HK6 := Lib.hid hk6
        have hpc6 := hk6.box.cell
        have hpf6 := hk6.box.free
        have hpl6 := hk6.box.lt
        have hzc6 := hk6.z2.cell
        have hzf6 := hk6.z2.free
        have hzl6 := hk6.z2.lt
        have hyc6 := hk6.z4.cell
        have hyf6 := hk6.z4.free
        have hyl6 := hk6.z4.lt
        have HT6 := Lib.hid (And.intro (((HA.out.below hk6.bel).mono hk6.bel.size).take_ at_) (((HA.out.below hk6.bel).tail_ (cap := c) at_ (by rw [HL.out]; exact hc)).take_ 17))
        have hsl3 : ∀ W, (Instr.slice 22 (.slice A n c) none (some (.int .i64 (at_ : Int))) none).run Tryz.prog W = .ok (.slice A at_ c) W := fun W => run_head2 W A n c at_ (at_ : Int) rfl (by omega)
        have HTO := Lib.hid (tailOf_any A at_ c done.length lst (b.take at_) w6.drew (HT6.out.1.below ((Below.refl _ _).drew)) (by rw [List.length_take, HL.out]; omega) (by unfold maxLen; omega) (by omega))
        clear hk6 hpc hpf hpl hpc5 hpf5 hpl5 hsl
        go_still_tail 8, (by kernel_rfl)
        change wpList _ _ _ _ _ w6.drew
        have hw17 : IntKind.i64.wrap ((at_ : Int) + 17) = (at_ : Int) + 17 := IntWalk.i64_in _ (by omega)
        by_cases hg : n < at_ + 17
        · have hg1 : decide ((at_ : Int) + 17 ≤ n) = false := decide_eq_false (by omega)
          have HNN : Hid (¬ (at_ + 17 ≤ b.length ∧ (b.drop at_).take 17 = tailS (b.take at_) done.length lst)) := fun h => by have := h.1; rw [HL.out] at this; omega
          clear HA HT6
          by_cases hnn : at_ = n
          · have hq : ((at_ : Int) == (n : Int)) = true := by simp; omega
            have HO := Lib.hid (HOpen.out at_ lst done HR.out HNN.out 0 (by rw [HL.out]; simp; omega))
            clear hnn
            go_wp2_with (first
              | (go_at_call 10
                 refine HTO.out.mono ?_
                 rintro e w7 ⟨bt, ct, rfl, ho7, hb7⟩
                 have hk7 := HK6.out.on (((Below.refl w6.heap.size w6).drew).trans hb7)
                 have hpc7 := hk7.box.cell
                 have hpf7 := hk7.box.free
                 have hpl7 := hk7.box.lt
                 have hzc7 := hk7.z2.cell
                 have hzf7 := hk7.z2.free
                 have hzl7 := hk7.z2.lt
                 have hyc7 := hk7.z4.cell
                 have hyf7 := hk7.z4.free
                 have hyl7 := hk7.z4.lt
                 have H7 := Lib.hid (And.intro hk7 (And.intro (ownsRow_rd ho7) hb7))
                 clear hk7 ho7 hb7 HTO hpc6 hpf6 hpl6 hzc6 hzf6 hzl6 hyc6 hyf6 hyl6)
              | (go_at_call 11
                 refine (same5_any (tailA A c at_) bt 17 (c - at_) 17 ct ((b.drop at_).take 17) (tailS (b.take at_) done.length lst) _ ((HT6.out.2.below (((Below.refl w6.heap.size w6).drew.mono (HK6.out.bel.size)).trans (H7.out.2.2.mono (HK6.out.bel.size)))).mono (Nat.le_trans HK6.out.bel.size (by simpa using H7.out.2.2.size))) (by rw [List.length_take, List.length_drop, HL.out]; omega) H7.out.2.1 rfl (by omega) (by omega)).mono ?_
                 rintro e w8 ⟨rfl, mm, rfl⟩
                 rw [HDD.out]))
            obtain ⟨wz, hwz⟩ : ∃ wz, World.drew w7 = wz := ⟨_, rfl⟩
            have hC0 : Chg (fun k => w.heap.size ≤ k ∧ k ≤ p) w7 wz := by
              rw [← hwz]
              exact Chg.drew (Chg.refl _ _)
            have hbz : Box wz p 24 #[.int .i64 topic, .int .i64 num, .int .i64 base, .int .i64 (at_ : Int), .int .i64 done.length, .int .i64 lst, .bool false] := by
              rw [← hwz]
              simpa using H7.out.1.box.drew
            have hzz : Box wz w.heap.size 24 #[.int .i64 0, .int .i64 0, .int .i64 0, .int .i64 0, .int .i64 0, .int .i64 0, .bool false] := by
              rw [← hwz]
              exact H7.out.1.z2.drew
            have hyz : Box wz (w.heap.size + 1) 28 #[.int .i64 0, .int .i64 0] := by
              rw [← hwz]
              exact H7.out.1.z4.drew
            have hS0 : (fun w' : World => w'.cell? ⟨p, 0, none⟩ = some (.int .i64 topic) ∧ w'.cell? ⟨p, 1, none⟩ = some (.int .i64 num) ∧ w'.cell? ⟨p, 2, none⟩ = some (.int .i64 base) ∧ w'.cell? ⟨p, 3, none⟩ = some (.int .i64 (at_ : Int)) ∧ w'.cell? ⟨p, 4, none⟩ = some (.int .i64 done.length) ∧ w'.cell? ⟨p, 5, none⟩ = some (.int .i64 lst) ∧ w'.cell? ⟨p, 6, none⟩ = some (.bool false)) wz := ⟨hbz.cell 0, hbz.cell 1, hbz.cell 2, hbz.cell 3, hbz.cell 4, hbz.cell 5, hbz.cell 6⟩
            have hnz : p ≠ w.heap.size := by omega
            have hq7 := (((((((hbz.far (p := ⟨w.heap.size, 0, none⟩) hnz (.int .i64 topic)).far (p := ⟨w.heap.size, 1, none⟩) hnz (.int .i64 num)).far (p := ⟨w.heap.size, 2, none⟩) hnz (.int .i64 base)).far (p := ⟨w.heap.size, 3, none⟩) hnz (.int .i64 (at_ : Int))).far (p := ⟨w.heap.size, 4, none⟩) hnz (.int .i64 done.length)).far (p := ⟨w.heap.size, 5, none⟩) hnz (.int .i64 lst)).far (p := ⟨w.heap.size, 6, none⟩) hnz (.bool false))
            have hS1 : (fun w' : World => w'.cell? ⟨p, 0, none⟩ = some (.int .i64 topic) ∧ w'.cell? ⟨p, 1, none⟩ = some (.int .i64 num) ∧ w'.cell? ⟨p, 2, none⟩ = some (.int .i64 base) ∧ w'.cell? ⟨p, 3, none⟩ = some (.int .i64 (at_ : Int)) ∧ w'.cell? ⟨p, 4, none⟩ = some (.int .i64 done.length) ∧ w'.cell? ⟨p, 5, none⟩ = some (.int .i64 lst) ∧ w'.cell? ⟨p, 6, none⟩ = some (.bool false)) (World.setCell (World.setCell (World.setCell (World.setCell (World.setCell (World.setCell (World.setCell wz ⟨w.heap.size, 0, none⟩ (.int .i64 topic)) ⟨w.heap.size, 1, none⟩ (.int .i64 num)) ⟨w.heap.size, 2, none⟩ (.int .i64 base)) ⟨w.heap.size, 3, none⟩ (.int .i64 (at_ : Int))) ⟨w.heap.size, 4, none⟩ (.int .i64 done.length)) ⟨w.heap.size, 5, none⟩ (.int .i64 lst)) ⟨w.heap.size, 6, none⟩ (.bool false)) := ⟨hq7.cell 0, hq7.cell 1, hq7.cell 2, hq7.cell 3, hq7.cell 4, hq7.cell 5, hq7.cell 6⟩
            have hzc := hzz.cell
            have hzf := hzz.free
            have hzl := hzz.lt
            have hyc := hyz.cell
            have hyf := hyz.free
            have hyl := hyz.lt
            clear hq7 hpc7 hpf7 hpl7 hzc7 hzf7 hzl7 hyc7 hyf7 hyl7 hbz hzz hyz
            refine WT.start (fun w' : World => w'.cell? ⟨p, 0, none⟩ = some (.int .i64 topic) ∧ w'.cell? ⟨p, 1, none⟩ = some (.int .i64 num) ∧ w'.cell? ⟨p, 2, none⟩ = some (.int .i64 base) ∧ w'.cell? ⟨p, 3, none⟩ = some (.int .i64 (at_ : Int)) ∧ w'.cell? ⟨p, 4, none⟩ = some (.int .i64 done.length) ∧ w'.cell? ⟨p, 5, none⟩ = some (.int .i64 lst) ∧ w'.cell? ⟨p, 6, none⟩ = some (.bool false)) 7 (by kernel_rfl) ?_
            rw [hwz]
            clear hwz
            refine WT.take 0 (v := ?_) rfl (by kernel_rfl) (by kernel_rfl) (by kernel_rfl) (by kernel_rfl) (fun _ _ _ h => h) (Or.inl ⟨by rfl, ?hy⟩) hS0 ?_
            case hy => first | (intro w hSw; go_simp; done) | (intro w hSw; go_simp; with_reducible rfl)
            simp only [Act.put, List.setIfInBounds_toArray, List.set_cons_zero, List.set_cons_succ]
            refine WT.take 1 (v := ?_) rfl (by kernel_rfl) (by kernel_rfl) (by kernel_rfl) (by kernel_rfl) (fun _ _ _ h => h) (Or.inl ⟨by rfl, ?hy⟩) hS0 ?_
            case hy => first | (intro w hSw; go_simp; done) | (intro w hSw; go_simp; with_reducible rfl)
            simp only [Act.put, List.setIfInBounds_toArray, List.set_cons_zero, List.set_cons_succ]
            refine WT.take 2 (v := ?_) rfl (by kernel_rfl) (by kernel_rfl) (by kernel_rfl) (by kernel_rfl) (fun _ _ _ h => h) (Or.inl ⟨by rfl, ?hy⟩) hS0 ?_
            case hy => first | (intro w hSw; go_simp; done) | (intro w hSw; go_simp; with_reducible rfl)
            simp only [Act.put, List.setIfInBounds_toArray, List.set_cons_zero, List.set_cons_succ]
            refine WT.take 3 (v := ?_) rfl (by kernel_rfl) (by kernel_rfl) (by kernel_rfl) (by kernel_rfl) (fun _ _ _ h => h) (Or.inl ⟨by rfl, ?hy⟩) hS0 ?_
            case hy => first | (intro w hSw; go_simp; done) | (intro w hSw; go_simp; with_reducible rfl)
            simp only [Act.put, List.setIfInBounds_toArray, List.set_cons_zero, List.set_cons_succ]
            refine WT.take 4 (v := ?_) rfl (by kernel_rfl) (by kernel_rfl) (by kernel_rfl) (by kernel_rfl) (fun _ _ _ h => h) (Or.inl ⟨by rfl, ?hy⟩) hS0 ?_
            case hy => first | (intro w hSw; go_simp; done) | (intro w hSw; go_simp; with_reducible rfl)
            simp only [Act.put, List.setIfInBounds_toArray, List.set_cons_zero, List.set_cons_succ]
            refine WT.step 5 rfl (by kernel_rfl) (by decide) fun K hK => ?_
            go_simp
            refine hK.out _ _ hS1 ?_
            clear hK K
            refine WT.step 6 rfl (by kernel_rfl) (by decide) fun K hK => ?_
            go_simp
            refine hK.out _ _ hS1 ?_
            clear hK K
            refine WT.last 7 rfl (by kernel_rfl) rfl fun K hK => ?_
            go_simp
            refine hK.out _ _ ?_
            clear hK K
            refine WT.done (by kernel_rfl) ?_
            go_wp2
            refine bodyPost_ret (v := .tuple #[.agg #[.int .i64 topic, .int .i64 num, .int .i64 base, .int .i64 (at_ : Int), .int .i64 done.length, .int .i64 lst, .bool false], .slice vb done.length vc, .agg #[.int .i64 0, .int .i64 (at_ : Int)]]) ?_ rfl ?_
            · simp [results, Tryz.results4, go_sem, hzc, hzl, hyc, hyl]
            unfold LkA
            rw [HO.out]
            refine ⟨_, rfl, ?_⟩
            refine H7.out.1.end_ ?_
            repeat (first | with_reducible exact hC0 | with_reducible refine Chg.setCell ?_ (.inl ⟨by simp, by simp <;> omega⟩) _)
          have hq : ((at_ : Int) == (n : Int)) = false := by simp; omega
          have HO := Lib.hid (HOpen.out at_ lst done HR.out HNN.out 50 (by rw [HL.out]; simp; omega))
          clear hnn
          go_wp2_with (first
            | (go_at_call 10
               refine HTO.out.mono ?_
               rintro e w7 ⟨bt, ct, rfl, ho7, hb7⟩
               have hk7 := HK6.out.on (((Below.refl w6.heap.size w6).drew).trans hb7)
               have hpc7 := hk7.box.cell
               have hpf7 := hk7.box.free
               have hpl7 := hk7.box.lt
               have hzc7 := hk7.z2.cell
               have hzf7 := hk7.z2.free
               have hzl7 := hk7.z2.lt
               have hyc7 := hk7.z4.cell
               have hyf7 := hk7.z4.free
               have hyl7 := hk7.z4.lt
               have H7 := Lib.hid (And.intro hk7 (And.intro (ownsRow_rd ho7) hb7))
               clear hk7 ho7 hb7 HTO hpc6 hpf6 hpl6 hzc6 hzf6 hzl6 hyc6 hyf6 hyl6)
            | (go_at_call 11
               refine (same5_any (tailA A c at_) bt 17 (c - at_) 17 ct ((b.drop at_).take 17) (tailS (b.take at_) done.length lst) _ ((HT6.out.2.below (((Below.refl w6.heap.size w6).drew.mono (HK6.out.bel.size)).trans (H7.out.2.2.mono (HK6.out.bel.size)))).mono (Nat.le_trans HK6.out.bel.size (by simpa using H7.out.2.2.size))) (by rw [List.length_take, List.length_drop, HL.out]; omega) H7.out.2.1 rfl (by omega) (by omega)).mono ?_
               rintro e w8 ⟨rfl, mm, rfl⟩
               rw [HDD.out]))
          obtain ⟨wz, hwz⟩ : ∃ wz, World.drew w7 = wz := ⟨_, rfl⟩
          have hC0 : Chg (fun k => w.heap.size ≤ k ∧ k ≤ p) w7 wz := by
            rw [← hwz]
            exact Chg.drew (Chg.refl _ _)
          have hbz : Box wz p 24 #[.int .i64 topic, .int .i64 num, .int .i64 base, .int .i64 (at_ : Int), .int .i64 done.length, .int .i64 lst, .bool false] := by
            rw [← hwz]
            simpa using H7.out.1.box.drew
          have hzz : Box wz w.heap.size 24 #[.int .i64 0, .int .i64 0, .int .i64 0, .int .i64 0, .int .i64 0, .int .i64 0, .bool false] := by
            rw [← hwz]
            exact H7.out.1.z2.drew
          have hyz : Box wz (w.heap.size + 1) 28 #[.int .i64 0, .int .i64 0] := by
            rw [← hwz]
            exact H7.out.1.z4.drew
          have hS0 : (fun w' : World => w'.cell? ⟨p, 0, none⟩ = some (.int .i64 topic) ∧ w'.cell? ⟨p, 1, none⟩ = some (.int .i64 num) ∧ w'.cell? ⟨p, 2, none⟩ = some (.int .i64 base) ∧ w'.cell? ⟨p, 3, none⟩ = some (.int .i64 (at_ : Int)) ∧ w'.cell? ⟨p, 4, none⟩ = some (.int .i64 done.length) ∧ w'.cell? ⟨p, 5, none⟩ = some (.int .i64 lst) ∧ w'.cell? ⟨p, 6, none⟩ = some (.bool false)) wz := ⟨hbz.cell 0, hbz.cell 1, hbz.cell 2, hbz.cell 3, hbz.cell 4, hbz.cell 5, hbz.cell 6⟩
          have hnz : p ≠ w.heap.size := by omega
          have hq7 := (((((((hbz.far (p := ⟨w.heap.size, 0, none⟩) hnz (.int .i64 topic)).far (p := ⟨w.heap.size, 1, none⟩) hnz (.int .i64 num)).far (p := ⟨w.heap.size, 2, none⟩) hnz (.int .i64 base)).far (p := ⟨w.heap.size, 3, none⟩) hnz (.int .i64 (at_ : Int))).far (p := ⟨w.heap.size, 4, none⟩) hnz (.int .i64 done.length)).far (p := ⟨w.heap.size, 5, none⟩) hnz (.int .i64 lst)).far (p := ⟨w.heap.size, 6, none⟩) hnz (.bool false))
          have hS1 : (fun w' : World => w'.cell? ⟨p, 0, none⟩ = some (.int .i64 topic) ∧ w'.cell? ⟨p, 1, none⟩ = some (.int .i64 num) ∧ w'.cell? ⟨p, 2, none⟩ = some (.int .i64 base) ∧ w'.cell? ⟨p, 3, none⟩ = some (.int .i64 (at_ : Int)) ∧ w'.cell? ⟨p, 4, none⟩ = some (.int .i64 done.length) ∧ w'.cell? ⟨p, 5, none⟩ = some (.int .i64 lst) ∧ w'.cell? ⟨p, 6, none⟩ = some (.bool false)) (World.setCell (World.setCell (World.setCell (World.setCell (World.setCell (World.setCell (World.setCell wz ⟨w.heap.size, 0, none⟩ (.int .i64 topic)) ⟨w.heap.size, 1, none⟩ (.int .i64 num)) ⟨w.heap.size, 2, none⟩ (.int .i64 base)) ⟨w.heap.size, 3, none⟩ (.int .i64 (at_ : Int))) ⟨w.heap.size, 4, none⟩ (.int .i64 done.length)) ⟨w.heap.size, 5, none⟩ (.int .i64 lst)) ⟨w.heap.size, 6, none⟩ (.bool false)) := ⟨hq7.cell 0, hq7.cell 1, hq7.cell 2, hq7.cell 3, hq7.cell 4, hq7.cell 5, hq7.cell 6⟩
          have hzc := hzz.cell
          have hzf := hzz.free
          have hzl := hzz.lt
          have hyc := hyz.cell
          have hyf := hyz.free
          have hyl := hyz.lt
          clear hq7 hpc7 hpf7 hpl7 hzc7 hzf7 hzl7 hyc7 hyf7 hyl7 hbz hzz hyz
          refine WT.start (fun w' : World => w'.cell? ⟨p, 0, none⟩ = some (.int .i64 topic) ∧ w'.cell? ⟨p, 1, none⟩ = some (.int .i64 num) ∧ w'.cell? ⟨p, 2, none⟩ = some (.int .i64 base) ∧ w'.cell? ⟨p, 3, none⟩ = some (.int .i64 (at_ : Int)) ∧ w'.cell? ⟨p, 4, none⟩ = some (.int .i64 done.length) ∧ w'.cell? ⟨p, 5, none⟩ = some (.int .i64 lst) ∧ w'.cell? ⟨p, 6, none⟩ = some (.bool false)) 7 (by kernel_rfl) ?_
          rw [hwz]
          clear hwz
          refine WT.take 0 (v := ?_) rfl (by kernel_rfl) (by kernel_rfl) (by kernel_rfl) (by kernel_rfl) (fun _ _ _ h => h) (Or.inl ⟨by rfl, ?hy⟩) hS0 ?_
          case hy => first | (intro w hSw; go_simp; done) | (intro w hSw; go_simp; with_reducible rfl)
          simp only [Act.put, List.setIfInBounds_toArray, List.set_cons_zero, List.set_cons_succ]
          refine WT.take 1 (v := ?_) rfl (by kernel_rfl) (by kernel_rfl) (by kernel_rfl) (by kernel_rfl) (fun _ _ _ h => h) (Or.inl ⟨by rfl, ?hy⟩) hS0 ?_
          case hy => first | (intro w hSw; go_simp; done) | (intro w hSw; go_simp; with_reducible rfl)
          simp only [Act.put, List.setIfInBounds_toArray, List.set_cons_zero, List.set_cons_succ]
          refine WT.take 2 (v := ?_) rfl (by kernel_rfl) (by kernel_rfl) (by kernel_rfl) (by kernel_rfl) (fun _ _ _ h => h) (Or.inl ⟨by rfl, ?hy⟩) hS0 ?_
          case hy => first | (intro w hSw; go_simp; done) | (intro w hSw; go_simp; with_reducible rfl)
          simp only [Act.put, List.setIfInBounds_toArray, List.set_cons_zero, List.set_cons_succ]
          refine WT.take 3 (v := ?_) rfl (by kernel_rfl) (by kernel_rfl) (by kernel_rfl) (by kernel_rfl) (fun _ _ _ h => h) (Or.inl ⟨by rfl, ?hy⟩) hS0 ?_
          case hy => first | (intro w hSw; go_simp; done) | (intro w hSw; go_simp; with_reducible rfl)
          simp only [Act.put, List.setIfInBounds_toArray, List.set_cons_zero, List.set_cons_succ]
          refine WT.take 4 (v := ?_) rfl (by kernel_rfl) (by kernel_rfl) (by kernel_rfl) (by kernel_rfl) (fun _ _ _ h => h) (Or.inl ⟨by rfl, ?hy⟩) hS0 ?_
          case hy => first | (intro w hSw; go_simp; done) | (intro w hSw; go_simp; with_reducible rfl)
          simp only [Act.put, List.setIfInBounds_toArray, List.set_cons_zero, List.set_cons_succ]
          refine WT.step 5 rfl (by kernel_rfl) (by decide) fun K hK => ?_
          go_simp
          refine hK.out _ _ hS1 ?_
          clear hK K
          refine WT.step 6 rfl (by kernel_rfl) (by decide) fun K hK => ?_
          go_simp
          refine hK.out _ _ hS1 ?_
          clear hK K
          refine WT.last 7 rfl (by kernel_rfl) rfl fun K hK => ?_
          go_simp
          refine hK.out _ _ ?_
          clear hK K
          refine WT.done (by kernel_rfl) ?_
          go_wp2
          refine bodyPost_ret (v := .tuple #[.agg #[.int .i64 topic, .int .i64 num, .int .i64 base, .int .i64 (at_ : Int), .int .i64 done.length, .int .i64 lst, .bool false], .slice vb done.length vc, .agg #[.int .i64 50, .int .i64 (at_ : Int)]]) ?_ rfl ?_
          · simp [results, Tryz.results4, go_sem, hzc, hzl, hyc, hyl]
          unfold LkA
          rw [HO.out]
          refine ⟨_, rfl, ?_⟩
          refine H7.out.1.end_ ?_
          repeat (first | with_reducible exact hC0 | with_reducible refine Chg.setCell ?_ (.inl ⟨by simp, by simp <;> omega⟩) _)
        have hg1 : decide ((at_ : Int) + 17 ≤ n) = true := decide_eq_true (by omega)
        have hsl4 : ∀ W, (Instr.slice 22 (.slice A n c) (some (.int .i64 (at_ : Int))) (some (.int .i64 ((at_ : Int) + 17))) none).run Tryz.prog W = .ok (.slice (tailA A c at_) 17 (c - at_)) W := fun W => run_part2 W A n c at_ 17 (at_ : Int) ((at_ : Int) + 17) rfl (by omega) (by omega)
        by_cases htt : (b.drop at_).take 17 = tailS (b.take at_) done.length lst
        · have HTT := Lib.hid htt
          have HDD : Hid (decide ((b.drop at_).take 17 = tailS (b.take at_) done.length lst) = true) := decide_eq_true htt
          clear htt
          by_cases hnn : at_ + 17 = n
          · have hq : (((at_ : Int) + 17) == (n : Int)) = true := by simp; omega
            have HO := Lib.hid (HSeal.out at_ lst done HR.out (by rw [HL.out]; omega) HTT.out 0 (by rw [HL.out]; simp; omega))
            clear hnn
            go_wp2_with (first
              | (go_at_call 10
                 refine HTO.out.mono ?_
                 rintro e w7 ⟨bt, ct, rfl, ho7, hb7⟩
                 have hk7 := HK6.out.on (((Below.refl w6.heap.size w6).drew).trans hb7)
                 have hpc7 := hk7.box.cell
                 have hpf7 := hk7.box.free
                 have hpl7 := hk7.box.lt
                 have hzc7 := hk7.z2.cell
                 have hzf7 := hk7.z2.free
                 have hzl7 := hk7.z2.lt
                 have hyc7 := hk7.z4.cell
                 have hyf7 := hk7.z4.free
                 have hyl7 := hk7.z4.lt
                 have H7 := Lib.hid (And.intro hk7 (And.intro (ownsRow_rd ho7) hb7))
                 clear hk7 ho7 hb7 HTO hpc6 hpf6 hpl6 hzc6 hzf6 hzl6 hyc6 hyf6 hyl6)
              | (go_at_call 11
                 refine (same5_any (tailA A c at_) bt 17 (c - at_) 17 ct ((b.drop at_).take 17) (tailS (b.take at_) done.length lst) _ ((HT6.out.2.below (((Below.refl w6.heap.size w6).drew.mono (HK6.out.bel.size)).trans (H7.out.2.2.mono (HK6.out.bel.size)))).mono (Nat.le_trans HK6.out.bel.size (by simpa using H7.out.2.2.size))) (by rw [List.length_take, List.length_drop, HL.out]; omega) H7.out.2.1 rfl (by omega) (by omega)).mono ?_
                 rintro e w8 ⟨rfl, mm, rfl⟩
                 rw [HDD.out]))
            obtain ⟨wz, hwz⟩ : ∃ wz, World.drew (World.setCell (World.setCell (w7.drewN mm) ⟨p, 3, none⟩ (.int .i64 ((at_ : Int) + 17))) ⟨p, 6, none⟩ (.bool true)) = wz := ⟨_, rfl⟩
            have hC0 : Chg (fun k => w.heap.size ≤ k ∧ k ≤ p) w7 wz := by
              rw [← hwz]
              exact Chg.drew (Chg.setCell (p := ⟨p, 6, none⟩) (Chg.setCell (p := ⟨p, 3, none⟩) (Chg.drewN (Chg.refl _ _) mm) (.inl ⟨by show w.heap.size ≤ p; omega, Nat.le_refl _⟩) (.int .i64 ((at_ : Int) + 17))) (.inl ⟨by show w.heap.size ≤ p; omega, Nat.le_refl _⟩) (.bool true))
            have hbz : Box wz p 24 #[.int .i64 topic, .int .i64 num, .int .i64 base, .int .i64 ((at_ : Int) + 17), .int .i64 done.length, .int .i64 lst, .bool true] := by
              rw [← hwz]
              simpa using (((H7.out.1.box.drewN mm).set_ 3 (.int .i64 ((at_ : Int) + 17))).set_ 6 (.bool true)).drew
            have hzz : Box wz w.heap.size 24 #[.int .i64 0, .int .i64 0, .int .i64 0, .int .i64 0, .int .i64 0, .int .i64 0, .bool false] := by
              rw [← hwz]
              exact (((H7.out.1.z2.drewN mm).far (p := ⟨p, 3, none⟩) (by show w.heap.size ≠ p; omega) (.int .i64 ((at_ : Int) + 17))).far (p := ⟨p, 6, none⟩) (by show w.heap.size ≠ p; omega) (.bool true)).drew
            have hyz : Box wz (w.heap.size + 1) 28 #[.int .i64 0, .int .i64 0] := by
              rw [← hwz]
              exact (((H7.out.1.z4.drewN mm).far (p := ⟨p, 3, none⟩) (by show w.heap.size + 1 ≠ p; omega) (.int .i64 ((at_ : Int) + 17))).far (p := ⟨p, 6, none⟩) (by show w.heap.size + 1 ≠ p; omega) (.bool true)).drew
            have hS0 : (fun w' : World => w'.cell? ⟨p, 0, none⟩ = some (.int .i64 topic) ∧ w'.cell? ⟨p, 1, none⟩ = some (.int .i64 num) ∧ w'.cell? ⟨p, 2, none⟩ = some (.int .i64 base) ∧ w'.cell? ⟨p, 3, none⟩ = some (.int .i64 ((at_ : Int) + 17)) ∧ w'.cell? ⟨p, 4, none⟩ = some (.int .i64 done.length) ∧ w'.cell? ⟨p, 5, none⟩ = some (.int .i64 lst) ∧ w'.cell? ⟨p, 6, none⟩ = some (.bool true)) wz := ⟨hbz.cell 0, hbz.cell 1, hbz.cell 2, hbz.cell 3, hbz.cell 4, hbz.cell 5, hbz.cell 6⟩
            have hnz : p ≠ w.heap.size := by omega
            have hq7 := (((((((hbz.far (p := ⟨w.heap.size, 0, none⟩) hnz (.int .i64 topic)).far (p := ⟨w.heap.size, 1, none⟩) hnz (.int .i64 num)).far (p := ⟨w.heap.size, 2, none⟩) hnz (.int .i64 base)).far (p := ⟨w.heap.size, 3, none⟩) hnz (.int .i64 ((at_ : Int) + 17))).far (p := ⟨w.heap.size, 4, none⟩) hnz (.int .i64 done.length)).far (p := ⟨w.heap.size, 5, none⟩) hnz (.int .i64 lst)).far (p := ⟨w.heap.size, 6, none⟩) hnz (.bool true))
            have hS1 : (fun w' : World => w'.cell? ⟨p, 0, none⟩ = some (.int .i64 topic) ∧ w'.cell? ⟨p, 1, none⟩ = some (.int .i64 num) ∧ w'.cell? ⟨p, 2, none⟩ = some (.int .i64 base) ∧ w'.cell? ⟨p, 3, none⟩ = some (.int .i64 ((at_ : Int) + 17)) ∧ w'.cell? ⟨p, 4, none⟩ = some (.int .i64 done.length) ∧ w'.cell? ⟨p, 5, none⟩ = some (.int .i64 lst) ∧ w'.cell? ⟨p, 6, none⟩ = some (.bool true)) (World.setCell (World.setCell (World.setCell (World.setCell (World.setCell (World.setCell (World.setCell wz ⟨w.heap.size, 0, none⟩ (.int .i64 topic)) ⟨w.heap.size, 1, none⟩ (.int .i64 num)) ⟨w.heap.size, 2, none⟩ (.int .i64 base)) ⟨w.heap.size, 3, none⟩ (.int .i64 ((at_ : Int) + 17))) ⟨w.heap.size, 4, none⟩ (.int .i64 done.length)) ⟨w.heap.size, 5, none⟩ (.int .i64 lst)) ⟨w.heap.size, 6, none⟩ (.bool true)) := ⟨hq7.cell 0, hq7.cell 1, hq7.cell 2, hq7.cell 3, hq7.cell 4, hq7.cell 5, hq7.cell 6⟩
            have hzc := hzz.cell
            have hzf := hzz.free
            have hzl := hzz.lt
            have hyc := hyz.cell
            have hyf := hyz.free
            have hyl := hyz.lt
            clear hq7 hpc7 hpf7 hpl7 hzc7 hzf7 hzl7 hyc7 hyf7 hyl7 hbz hzz hyz
            refine WT.start (fun w' : World => w'.cell? ⟨p, 0, none⟩ = some (.int .i64 topic) ∧ w'.cell? ⟨p, 1, none⟩ = some (.int .i64 num) ∧ w'.cell? ⟨p, 2, none⟩ = some (.int .i64 base) ∧ w'.cell? ⟨p, 3, none⟩ = some (.int .i64 ((at_ : Int) + 17)) ∧ w'.cell? ⟨p, 4, none⟩ = some (.int .i64 done.length) ∧ w'.cell? ⟨p, 5, none⟩ = some (.int .i64 lst) ∧ w'.cell? ⟨p, 6, none⟩ = some (.bool true)) 7 (by kernel_rfl) ?_
            rw [hwz]
            clear hwz
            refine WT.take 0 (v := ?_) rfl (by kernel_rfl) (by kernel_rfl) (by kernel_rfl) (by kernel_rfl) (fun _ _ _ h => h) (Or.inl ⟨by rfl, ?hy⟩) hS0 ?_
            case hy => first | (intro w hSw; go_simp; done) | (intro w hSw; go_simp; with_reducible rfl)
            simp only [Act.put, List.setIfInBounds_toArray, List.set_cons_zero, List.set_cons_succ]
            refine WT.take 1 (v := ?_) rfl (by kernel_rfl) (by kernel_rfl) (by kernel_rfl) (by kernel_rfl) (fun _ _ _ h => h) (Or.inl ⟨by rfl, ?hy⟩) hS0 ?_
            case hy => first | (intro w hSw; go_simp; done) | (intro w hSw; go_simp; with_reducible rfl)
            simp only [Act.put, List.setIfInBounds_toArray, List.set_cons_zero, List.set_cons_succ]
            refine WT.take 2 (v := ?_) rfl (by kernel_rfl) (by kernel_rfl) (by kernel_rfl) (by kernel_rfl) (fun _ _ _ h => h) (Or.inl ⟨by rfl, ?hy⟩) hS0 ?_
            case hy => first | (intro w hSw; go_simp; done) | (intro w hSw; go_simp; with_reducible rfl)
            simp only [Act.put, List.setIfInBounds_toArray, List.set_cons_zero, List.set_cons_succ]
            refine WT.take 3 (v := ?_) rfl (by kernel_rfl) (by kernel_rfl) (by kernel_rfl) (by kernel_rfl) (fun _ _ _ h => h) (Or.inl ⟨by rfl, ?hy⟩) hS0 ?_
            case hy => first | (intro w hSw; go_simp; done) | (intro w hSw; go_simp; with_reducible rfl)
            simp only [Act.put, List.setIfInBounds_toArray, List.set_cons_zero, List.set_cons_succ]
            refine WT.take 4 (v := ?_) rfl (by kernel_rfl) (by kernel_rfl) (by kernel_rfl) (by kernel_rfl) (fun _ _ _ h => h) (Or.inl ⟨by rfl, ?hy⟩) hS0 ?_
            case hy => first | (intro w hSw; go_simp; done) | (intro w hSw; go_simp; with_reducible rfl)
            simp only [Act.put, List.setIfInBounds_toArray, List.set_cons_zero, List.set_cons_succ]
            refine WT.step 5 rfl (by kernel_rfl) (by decide) fun K hK => ?_
            go_simp
            refine hK.out _ _ hS1 ?_
            clear hK K
            refine WT.step 6 rfl (by kernel_rfl) (by decide) fun K hK => ?_
            go_simp
            refine hK.out _ _ hS1 ?_
            clear hK K
            refine WT.last 7 rfl (by kernel_rfl) rfl fun K hK => ?_
            go_simp
            refine hK.out _ _ ?_
            clear hK K
            refine WT.done (by kernel_rfl) ?_
            go_wp2
            refine bodyPost_ret (v := .tuple #[.agg #[.int .i64 topic, .int .i64 num, .int .i64 base, .int .i64 ((at_ : Int) + 17), .int .i64 done.length, .int .i64 lst, .bool true], .slice vb done.length vc, .agg #[.int .i64 0, .int .i64 ((at_ : Int) + 17)]]) ?_ rfl ?_
            · simp [results, Tryz.results4, go_sem, hzc, hzl, hyc, hyl]
            unfold LkA
            rw [HO.out]
            refine ⟨_, rfl, ?_⟩
            refine H7.out.1.end_ ?_
            repeat (first | with_reducible exact hC0 | with_reducible refine Chg.setCell ?_ (.inl ⟨by simp, by simp <;> omega⟩) _)
          have hq : (((at_ : Int) + 17) == (n : Int)) = false := by simp; omega
          have HO := Lib.hid (HSeal.out at_ lst done HR.out (by rw [HL.out]; omega) HTT.out 50 (by rw [HL.out]; simp; omega))
          clear hnn
          go_wp2_with (first
            | (go_at_call 10
               refine HTO.out.mono ?_
               rintro e w7 ⟨bt, ct, rfl, ho7, hb7⟩
               have hk7 := HK6.out.on (((Below.refl w6.heap.size w6).drew).trans hb7)
               have hpc7 := hk7.box.cell
               have hpf7 := hk7.box.free
               have hpl7 := hk7.box.lt
               have hzc7 := hk7.z2.cell
               have hzf7 := hk7.z2.free
               have hzl7 := hk7.z2.lt
               have hyc7 := hk7.z4.cell
               have hyf7 := hk7.z4.free
               have hyl7 := hk7.z4.lt
               have H7 := Lib.hid (And.intro hk7 (And.intro (ownsRow_rd ho7) hb7))
               clear hk7 ho7 hb7 HTO hpc6 hpf6 hpl6 hzc6 hzf6 hzl6 hyc6 hyf6 hyl6)
            | (go_at_call 11
               refine (same5_any (tailA A c at_) bt 17 (c - at_) 17 ct ((b.drop at_).take 17) (tailS (b.take at_) done.length lst) _ ((HT6.out.2.below (((Below.refl w6.heap.size w6).drew.mono (HK6.out.bel.size)).trans (H7.out.2.2.mono (HK6.out.bel.size)))).mono (Nat.le_trans HK6.out.bel.size (by simpa using H7.out.2.2.size))) (by rw [List.length_take, List.length_drop, HL.out]; omega) H7.out.2.1 rfl (by omega) (by omega)).mono ?_
               rintro e w8 ⟨rfl, mm, rfl⟩
               rw [HDD.out]))
          obtain ⟨wz, hwz⟩ : ∃ wz, World.drew (World.setCell (World.setCell (w7.drewN mm) ⟨p, 3, none⟩ (.int .i64 ((at_ : Int) + 17))) ⟨p, 6, none⟩ (.bool true)) = wz := ⟨_, rfl⟩
          have hC0 : Chg (fun k => w.heap.size ≤ k ∧ k ≤ p) w7 wz := by
            rw [← hwz]
            exact Chg.drew (Chg.setCell (p := ⟨p, 6, none⟩) (Chg.setCell (p := ⟨p, 3, none⟩) (Chg.drewN (Chg.refl _ _) mm) (.inl ⟨by show w.heap.size ≤ p; omega, Nat.le_refl _⟩) (.int .i64 ((at_ : Int) + 17))) (.inl ⟨by show w.heap.size ≤ p; omega, Nat.le_refl _⟩) (.bool true))
          have hbz : Box wz p 24 #[.int .i64 topic, .int .i64 num, .int .i64 base, .int .i64 ((at_ : Int) + 17), .int .i64 done.length, .int .i64 lst, .bool true] := by
            rw [← hwz]
            simpa using (((H7.out.1.box.drewN mm).set_ 3 (.int .i64 ((at_ : Int) + 17))).set_ 6 (.bool true)).drew
          have hzz : Box wz w.heap.size 24 #[.int .i64 0, .int .i64 0, .int .i64 0, .int .i64 0, .int .i64 0, .int .i64 0, .bool false] := by
            rw [← hwz]
            exact (((H7.out.1.z2.drewN mm).far (p := ⟨p, 3, none⟩) (by show w.heap.size ≠ p; omega) (.int .i64 ((at_ : Int) + 17))).far (p := ⟨p, 6, none⟩) (by show w.heap.size ≠ p; omega) (.bool true)).drew
          have hyz : Box wz (w.heap.size + 1) 28 #[.int .i64 0, .int .i64 0] := by
            rw [← hwz]
            exact (((H7.out.1.z4.drewN mm).far (p := ⟨p, 3, none⟩) (by show w.heap.size + 1 ≠ p; omega) (.int .i64 ((at_ : Int) + 17))).far (p := ⟨p, 6, none⟩) (by show w.heap.size + 1 ≠ p; omega) (.bool true)).drew
          have hS0 : (fun w' : World => w'.cell? ⟨p, 0, none⟩ = some (.int .i64 topic) ∧ w'.cell? ⟨p, 1, none⟩ = some (.int .i64 num) ∧ w'.cell? ⟨p, 2, none⟩ = some (.int .i64 base) ∧ w'.cell? ⟨p, 3, none⟩ = some (.int .i64 ((at_ : Int) + 17)) ∧ w'.cell? ⟨p, 4, none⟩ = some (.int .i64 done.length) ∧ w'.cell? ⟨p, 5, none⟩ = some (.int .i64 lst) ∧ w'.cell? ⟨p, 6, none⟩ = some (.bool true)) wz := ⟨hbz.cell 0, hbz.cell 1, hbz.cell 2, hbz.cell 3, hbz.cell 4, hbz.cell 5, hbz.cell 6⟩
          have hnz : p ≠ w.heap.size := by omega
          have hq7 := (((((((hbz.far (p := ⟨w.heap.size, 0, none⟩) hnz (.int .i64 topic)).far (p := ⟨w.heap.size, 1, none⟩) hnz (.int .i64 num)).far (p := ⟨w.heap.size, 2, none⟩) hnz (.int .i64 base)).far (p := ⟨w.heap.size, 3, none⟩) hnz (.int .i64 ((at_ : Int) + 17))).far (p := ⟨w.heap.size, 4, none⟩) hnz (.int .i64 done.length)).far (p := ⟨w.heap.size, 5, none⟩) hnz (.int .i64 lst)).far (p := ⟨w.heap.size, 6, none⟩) hnz (.bool true))
          have hS1 : (fun w' : World => w'.cell? ⟨p, 0, none⟩ = some (.int .i64 topic) ∧ w'.cell? ⟨p, 1, none⟩ = some (.int .i64 num) ∧ w'.cell? ⟨p, 2, none⟩ = some (.int .i64 base) ∧ w'.cell? ⟨p, 3, none⟩ = some (.int .i64 ((at_ : Int) + 17)) ∧ w'.cell? ⟨p, 4, none⟩ = some (.int .i64 done.length) ∧ w'.cell? ⟨p, 5, none⟩ = some (.int .i64 lst) ∧ w'.cell? ⟨p, 6, none⟩ = some (.bool true)) (World.setCell (World.setCell (World.setCell (World.setCell (World.setCell (World.setCell (World.setCell wz ⟨w.heap.size, 0, none⟩ (.int .i64 topic)) ⟨w.heap.size, 1, none⟩ (.int .i64 num)) ⟨w.heap.size, 2, none⟩ (.int .i64 base)) ⟨w.heap.size, 3, none⟩ (.int .i64 ((at_ : Int) + 17))) ⟨w.heap.size, 4, none⟩ (.int .i64 done.length)) ⟨w.heap.size, 5, none⟩ (.int .i64 lst)) ⟨w.heap.size, 6, none⟩ (.bool true)) := ⟨hq7.cell 0, hq7.cell 1, hq7.cell 2, hq7.cell 3, hq7.cell 4, hq7.cell 5, hq7.cell 6⟩
          have hzc := hzz.cell
          have hzf := hzz.free
          have hzl := hzz.lt
          have hyc := hyz.cell
          have hyf := hyz.free
          have hyl := hyz.lt
          clear hq7 hpc7 hpf7 hpl7 hzc7 hzf7 hzl7 hyc7 hyf7 hyl7 hbz hzz hyz
          refine WT.start (fun w' : World => w'.cell? ⟨p, 0, none⟩ = some (.int .i64 topic) ∧ w'.cell? ⟨p, 1, none⟩ = some (.int .i64 num) ∧ w'.cell? ⟨p, 2, none⟩ = some (.int .i64 base) ∧ w'.cell? ⟨p, 3, none⟩ = some (.int .i64 ((at_ : Int) + 17)) ∧ w'.cell? ⟨p, 4, none⟩ = some (.int .i64 done.length) ∧ w'.cell? ⟨p, 5, none⟩ = some (.int .i64 lst) ∧ w'.cell? ⟨p, 6, none⟩ = some (.bool true)) 7 (by kernel_rfl) ?_
          rw [hwz]
          clear hwz
          refine WT.take 0 (v := ?_) rfl (by kernel_rfl) (by kernel_rfl) (by kernel_rfl) (by kernel_rfl) (fun _ _ _ h => h) (Or.inl ⟨by rfl, ?hy⟩) hS0 ?_
          case hy => first | (intro w hSw; go_simp; done) | (intro w hSw; go_simp; with_reducible rfl)
          simp only [Act.put, List.setIfInBounds_toArray, List.set_cons_zero, List.set_cons_succ]
          refine WT.take 1 (v := ?_) rfl (by kernel_rfl) (by kernel_rfl) (by kernel_rfl) (by kernel_rfl) (fun _ _ _ h => h) (Or.inl ⟨by rfl, ?hy⟩) hS0 ?_
          case hy => first | (intro w hSw; go_simp; done) | (intro w hSw; go_simp; with_reducible rfl)
          simp only [Act.put, List.setIfInBounds_toArray, List.set_cons_zero, List.set_cons_succ]
          refine WT.take 2 (v := ?_) rfl (by kernel_rfl) (by kernel_rfl) (by kernel_rfl) (by kernel_rfl) (fun _ _ _ h => h) (Or.inl ⟨by rfl, ?hy⟩) hS0 ?_
          case hy => first | (intro w hSw; go_simp; done) | (intro w hSw; go_simp; with_reducible rfl)
          simp only [Act.put, List.setIfInBounds_toArray, List.set_cons_zero, List.set_cons_succ]
          refine WT.take 3 (v := ?_) rfl (by kernel_rfl) (by kernel_rfl) (by kernel_rfl) (by kernel_rfl) (fun _ _ _ h => h) (Or.inl ⟨by rfl, ?hy⟩) hS0 ?_
          case hy => first | (intro w hSw; go_simp; done) | (intro w hSw; go_simp; with_reducible rfl)
          simp only [Act.put, List.setIfInBounds_toArray, List.set_cons_zero, List.set_cons_succ]
          refine WT.take 4 (v := ?_) rfl (by kernel_rfl) (by kernel_rfl) (by kernel_rfl) (by kernel_rfl) (fun _ _ _ h => h) (Or.inl ⟨by rfl, ?hy⟩) hS0 ?_
          case hy => first | (intro w hSw; go_simp; done) | (intro w hSw; go_simp; with_reducible rfl)
          simp only [Act.put, List.setIfInBounds_toArray, List.set_cons_zero, List.set_cons_succ]
          refine WT.step 5 rfl (by kernel_rfl) (by decide) fun K hK => ?_
          go_simp
          refine hK.out _ _ hS1 ?_
          clear hK K
          refine WT.step 6 rfl (by kernel_rfl) (by decide) fun K hK => ?_
          go_simp
          refine hK.out _ _ hS1 ?_
          clear hK K
          refine WT.last 7 rfl (by kernel_rfl) rfl fun K hK => ?_
          go_simp
          refine hK.out _ _ ?_
          clear hK K
          refine WT.done (by kernel_rfl) ?_
          go_wp2
          refine bodyPost_ret (v := .tuple #[.agg #[.int .i64 topic, .int .i64 num, .int .i64 base, .int .i64 ((at_ : Int) + 17), .int .i64 done.length, .int .i64 lst, .bool true], .slice vb done.length vc, .agg #[.int .i64 50, .int .i64 ((at_ : Int) + 17)]]) ?_ rfl ?_
          · simp [results, Tryz.results4, go_sem, hzc, hzl, hyc, hyl]
          unfold LkA
          rw [HO.out]
          refine ⟨_, rfl, ?_⟩
          refine H7.out.1.end_ ?_
          repeat (first | with_reducible exact hC0 | with_reducible refine Chg.setCell ?_ (.inl ⟨by simp, by simp <;> omega⟩) _)
        have HNN : Hid (¬ (at_ + 17 ≤ b.length ∧ (b.drop at_).take 17 = tailS (b.take at_) done.length lst)) := fun h => htt h.2
        have HDD : Hid (decide ((b.drop at_).take 17 = tailS (b.take at_) done.length lst) = false) := decide_eq_false htt
        clear htt
        by_cases hnn : at_ = n
        · have hq : ((at_ : Int) == (n : Int)) = true := by simp; omega
          have HO := Lib.hid (HOpen.out at_ lst done HR.out HNN.out 0 (by rw [HL.out]; simp; omega))
          clear hnn
          go_wp2_with (first
            | (go_at_call 10
               refine HTO.out.mono ?_
               rintro e w7 ⟨bt, ct, rfl, ho7, hb7⟩
               have hk7 := HK6.out.on (((Below.refl w6.heap.size w6).drew).trans hb7)
               have hpc7 := hk7.box.cell
               have hpf7 := hk7.box.free
               have hpl7 := hk7.box.lt
               have hzc7 := hk7.z2.cell
               have hzf7 := hk7.z2.free
               have hzl7 := hk7.z2.lt
               have hyc7 := hk7.z4.cell
               have hyf7 := hk7.z4.free
               have hyl7 := hk7.z4.lt
               have H7 := Lib.hid (And.intro hk7 (And.intro (ownsRow_rd ho7) hb7))
               clear hk7 ho7 hb7 HTO hpc6 hpf6 hpl6 hzc6 hzf6 hzl6 hyc6 hyf6 hyl6)
            | (go_at_call 11
               refine (same5_any (tailA A c at_) bt 17 (c - at_) 17 ct ((b.drop at_).take 17) (tailS (b.take at_) done.length lst) _ ((HT6.out.2.below (((Below.refl w6.heap.size w6).drew.mono (HK6.out.bel.size)).trans (H7.out.2.2.mono (HK6.out.bel.size)))).mono (Nat.le_trans HK6.out.bel.size (by simpa using H7.out.2.2.size))) (by rw [List.length_take, List.length_drop, HL.out]; omega) H7.out.2.1 rfl (by omega) (by omega)).mono ?_
               rintro e w8 ⟨rfl, mm, rfl⟩
               rw [HDD.out]))
          obtain ⟨wz, hwz⟩ : ∃ wz, World.drew (w7.drewN mm) = wz := ⟨_, rfl⟩
          have hC0 : Chg (fun k => w.heap.size ≤ k ∧ k ≤ p) w7 wz := by
            rw [← hwz]
            exact Chg.drew (Chg.drewN (Chg.refl _ _) mm)
          have hbz : Box wz p 24 #[.int .i64 topic, .int .i64 num, .int .i64 base, .int .i64 (at_ : Int), .int .i64 done.length, .int .i64 lst, .bool false] := by
            rw [← hwz]
            simpa using (H7.out.1.box.drewN mm).drew
          have hzz : Box wz w.heap.size 24 #[.int .i64 0, .int .i64 0, .int .i64 0, .int .i64 0, .int .i64 0, .int .i64 0, .bool false] := by
            rw [← hwz]
            exact (H7.out.1.z2.drewN mm).drew
          have hyz : Box wz (w.heap.size + 1) 28 #[.int .i64 0, .int .i64 0] := by
            rw [← hwz]
            exact (H7.out.1.z4.drewN mm).drew
          have hS0 : (fun w' : World => w'.cell? ⟨p, 0, none⟩ = some (.int .i64 topic) ∧ w'.cell? ⟨p, 1, none⟩ = some (.int .i64 num) ∧ w'.cell? ⟨p, 2, none⟩ = some (.int .i64 base) ∧ w'.cell? ⟨p, 3, none⟩ = some (.int .i64 (at_ : Int)) ∧ w'.cell? ⟨p, 4, none⟩ = some (.int .i64 done.length) ∧ w'.cell? ⟨p, 5, none⟩ = some (.int .i64 lst) ∧ w'.cell? ⟨p, 6, none⟩ = some (.bool false)) wz := ⟨hbz.cell 0, hbz.cell 1, hbz.cell 2, hbz.cell 3, hbz.cell 4, hbz.cell 5, hbz.cell 6⟩
          have hnz : p ≠ w.heap.size := by omega
          have hq7 := (((((((hbz.far (p := ⟨w.heap.size, 0, none⟩) hnz (.int .i64 topic)).far (p := ⟨w.heap.size, 1, none⟩) hnz (.int .i64 num)).far (p := ⟨w.heap.size, 2, none⟩) hnz (.int .i64 base)).far (p := ⟨w.heap.size, 3, none⟩) hnz (.int .i64 (at_ : Int))).far (p := ⟨w.heap.size, 4, none⟩) hnz (.int .i64 done.length)).far (p := ⟨w.heap.size, 5, none⟩) hnz (.int .i64 lst)).far (p := ⟨w.heap.size, 6, none⟩) hnz (.bool false))
          have hS1 : (fun w' : World => w'.cell? ⟨p, 0, none⟩ = some (.int .i64 topic) ∧ w'.cell? ⟨p, 1, none⟩ = some (.int .i64 num) ∧ w'.cell? ⟨p, 2, none⟩ = some (.int .i64 base) ∧ w'.cell? ⟨p, 3, none⟩ = some (.int .i64 (at_ : Int)) ∧ w'.cell? ⟨p, 4, none⟩ = some (.int .i64 done.length) ∧ w'.cell? ⟨p, 5, none⟩ = some (.int .i64 lst) ∧ w'.cell? ⟨p, 6, none⟩ = some (.bool false)) (World.setCell (World.setCell (World.setCell (World.setCell (World.setCell (World.setCell (World.setCell wz ⟨w.heap.size, 0, none⟩ (.int .i64 topic)) ⟨w.heap.size, 1, none⟩ (.int .i64 num)) ⟨w.heap.size, 2, none⟩ (.int .i64 base)) ⟨w.heap.size, 3, none⟩ (.int .i64 (at_ : Int))) ⟨w.heap.size, 4, none⟩ (.int .i64 done.length)) ⟨w.heap.size, 5, none⟩ (.int .i64 lst)) ⟨w.heap.size, 6, none⟩ (.bool false)) := ⟨hq7.cell 0, hq7.cell 1, hq7.cell 2, hq7.cell 3, hq7.cell 4, hq7.cell 5, hq7.cell 6⟩
          have hzc := hzz.cell
          have hzf := hzz.free
          have hzl := hzz.lt
          have hyc := hyz.cell
          have hyf := hyz.free
          have hyl := hyz.lt
          clear hq7 hpc7 hpf7 hpl7 hzc7 hzf7 hzl7 hyc7 hyf7 hyl7 hbz hzz hyz
          refine WT.start (fun w' : World => w'.cell? ⟨p, 0, none⟩ = some (.int .i64 topic) ∧ w'.cell? ⟨p, 1, none⟩ = some (.int .i64 num) ∧ w'.cell? ⟨p, 2, none⟩ = some (.int .i64 base) ∧ w'.cell? ⟨p, 3, none⟩ = some (.int .i64 (at_ : Int)) ∧ w'.cell? ⟨p, 4, none⟩ = some (.int .i64 done.length) ∧ w'.cell? ⟨p, 5, none⟩ = some (.int .i64 lst) ∧ w'.cell? ⟨p, 6, none⟩ = some (.bool false)) 7 (by kernel_rfl) ?_
          rw [hwz]
          clear hwz
          refine WT.take 0 (v := ?_) rfl (by kernel_rfl) (by kernel_rfl) (by kernel_rfl) (by kernel_rfl) (fun _ _ _ h => h) (Or.inl ⟨by rfl, ?hy⟩) hS0 ?_
          case hy => first | (intro w hSw; go_simp; done) | (intro w hSw; go_simp; with_reducible rfl)
          simp only [Act.put, List.setIfInBounds_toArray, List.set_cons_zero, List.set_cons_succ]
          refine WT.take 1 (v := ?_) rfl (by kernel_rfl) (by kernel_rfl) (by kernel_rfl) (by kernel_rfl) (fun _ _ _ h => h) (Or.inl ⟨by rfl, ?hy⟩) hS0 ?_
          case hy => first | (intro w hSw; go_simp; done) | (intro w hSw; go_simp; with_reducible rfl)
          simp only [Act.put, List.setIfInBounds_toArray, List.set_cons_zero, List.set_cons_succ]
          refine WT.take 2 (v := ?_) rfl (by kernel_rfl) (by kernel_rfl) (by kernel_rfl) (by kernel_rfl) (fun _ _ _ h => h) (Or.inl ⟨by rfl, ?hy⟩) hS0 ?_
          case hy => first | (intro w hSw; go_simp; done) | (intro w hSw; go_simp; with_reducible rfl)
          simp only [Act.put, List.setIfInBounds_toArray, List.set_cons_zero, List.set_cons_succ]
          refine WT.take 3 (v := ?_) rfl (by kernel_rfl) (by kernel_rfl) (by kernel_rfl) (by kernel_rfl) (fun _ _ _ h => h) (Or.inl ⟨by rfl, ?hy⟩) hS0 ?_
          case hy => first | (intro w hSw; go_simp; done) | (intro w hSw; go_simp; with_reducible rfl)
          simp only [Act.put, List.setIfInBounds_toArray, List.set_cons_zero, List.set_cons_succ]
          refine WT.take 4 (v := ?_) rfl (by kernel_rfl) (by kernel_rfl) (by kernel_rfl) (by kernel_rfl) (fun _ _ _ h => h) (Or.inl ⟨by rfl, ?hy⟩) hS0 ?_
          case hy => first | (intro w hSw; go_simp; done) | (intro w hSw; go_simp; with_reducible rfl)
          simp only [Act.put, List.setIfInBounds_toArray, List.set_cons_zero, List.set_cons_succ]
          refine WT.step 5 rfl (by kernel_rfl) (by decide) fun K hK => ?_
          go_simp
          refine hK.out _ _ hS1 ?_
          clear hK K
          refine WT.step 6 rfl (by kernel_rfl) (by decide) fun K hK => ?_
          go_simp
          refine hK.out _ _ hS1 ?_
          clear hK K
          refine WT.last 7 rfl (by kernel_rfl) rfl fun K hK => ?_
          go_simp
          refine hK.out _ _ ?_
          clear hK K
          refine WT.done (by kernel_rfl) ?_
          go_wp2
          refine bodyPost_ret (v := .tuple #[.agg #[.int .i64 topic, .int .i64 num, .int .i64 base, .int .i64 (at_ : Int), .int .i64 done.length, .int .i64 lst, .bool false], .slice vb done.length vc, .agg #[.int .i64 0, .int .i64 (at_ : Int)]]) ?_ rfl ?_
          · simp [results, Tryz.results4, go_sem, hzc, hzl, hyc, hyl]
          unfold LkA
          rw [HO.out]
          refine ⟨_, rfl, ?_⟩
          refine H7.out.1.end_ ?_
          repeat (first | with_reducible exact hC0 | with_reducible refine Chg.setCell ?_ (.inl ⟨by simp, by simp <;> omega⟩) _)
        have hq : ((at_ : Int) == (n : Int)) = false := by simp; omega
        have HO := Lib.hid (HOpen.out at_ lst done HR.out HNN.out 50 (by rw [HL.out]; simp; omega))
        clear hnn
        go_wp2_with (first
          | (go_at_call 10
             refine HTO.out.mono ?_
             rintro e w7 ⟨bt, ct, rfl, ho7, hb7⟩
             have hk7 := HK6.out.on (((Below.refl w6.heap.size w6).drew).trans hb7)
             have hpc7 := hk7.box.cell
             have hpf7 := hk7.box.free
             have hpl7 := hk7.box.lt
             have hzc7 := hk7.z2.cell
             have hzf7 := hk7.z2.free
             have hzl7 := hk7.z2.lt
             have hyc7 := hk7.z4.cell
             have hyf7 := hk7.z4.free
             have hyl7 := hk7.z4.lt
             have H7 := Lib.hid (And.intro hk7 (And.intro (ownsRow_rd ho7) hb7))
             clear hk7 ho7 hb7 HTO hpc6 hpf6 hpl6 hzc6 hzf6 hzl6 hyc6 hyf6 hyl6)
          | (go_at_call 11
             refine (same5_any (tailA A c at_) bt 17 (c - at_) 17 ct ((b.drop at_).take 17) (tailS (b.take at_) done.length lst) _ ((HT6.out.2.below (((Below.refl w6.heap.size w6).drew.mono (HK6.out.bel.size)).trans (H7.out.2.2.mono (HK6.out.bel.size)))).mono (Nat.le_trans HK6.out.bel.size (by simpa using H7.out.2.2.size))) (by rw [List.length_take, List.length_drop, HL.out]; omega) H7.out.2.1 rfl (by omega) (by omega)).mono ?_
             rintro e w8 ⟨rfl, mm, rfl⟩
             rw [HDD.out]))
        obtain ⟨wz, hwz⟩ : ∃ wz, World.drew (w7.drewN mm) = wz := ⟨_, rfl⟩
        have hC0 : Chg (fun k => w.heap.size ≤ k ∧ k ≤ p) w7 wz := by
          rw [← hwz]
          exact Chg.drew (Chg.drewN (Chg.refl _ _) mm)
        have hbz : Box wz p 24 #[.int .i64 topic, .int .i64 num, .int .i64 base, .int .i64 (at_ : Int), .int .i64 done.length, .int .i64 lst, .bool false] := by
          rw [← hwz]
          simpa using (H7.out.1.box.drewN mm).drew
        have hzz : Box wz w.heap.size 24 #[.int .i64 0, .int .i64 0, .int .i64 0, .int .i64 0, .int .i64 0, .int .i64 0, .bool false] := by
          rw [← hwz]
          exact (H7.out.1.z2.drewN mm).drew
        have hyz : Box wz (w.heap.size + 1) 28 #[.int .i64 0, .int .i64 0] := by
          rw [← hwz]
          exact (H7.out.1.z4.drewN mm).drew
        have hS0 : (fun w' : World => w'.cell? ⟨p, 0, none⟩ = some (.int .i64 topic) ∧ w'.cell? ⟨p, 1, none⟩ = some (.int .i64 num) ∧ w'.cell? ⟨p, 2, none⟩ = some (.int .i64 base) ∧ w'.cell? ⟨p, 3, none⟩ = some (.int .i64 (at_ : Int)) ∧ w'.cell? ⟨p, 4, none⟩ = some (.int .i64 done.length) ∧ w'.cell? ⟨p, 5, none⟩ = some (.int .i64 lst) ∧ w'.cell? ⟨p, 6, none⟩ = some (.bool false)) wz := ⟨hbz.cell 0, hbz.cell 1, hbz.cell 2, hbz.cell 3, hbz.cell 4, hbz.cell 5, hbz.cell 6⟩
        have hnz : p ≠ w.heap.size := by omega
        have hq7 := (((((((hbz.far (p := ⟨w.heap.size, 0, none⟩) hnz (.int .i64 topic)).far (p := ⟨w.heap.size, 1, none⟩) hnz (.int .i64 num)).far (p := ⟨w.heap.size, 2, none⟩) hnz (.int .i64 base)).far (p := ⟨w.heap.size, 3, none⟩) hnz (.int .i64 (at_ : Int))).far (p := ⟨w.heap.size, 4, none⟩) hnz (.int .i64 done.length)).far (p := ⟨w.heap.size, 5, none⟩) hnz (.int .i64 lst)).far (p := ⟨w.heap.size, 6, none⟩) hnz (.bool false))
        have hS1 : (fun w' : World => w'.cell? ⟨p, 0, none⟩ = some (.int .i64 topic) ∧ w'.cell? ⟨p, 1, none⟩ = some (.int .i64 num) ∧ w'.cell? ⟨p, 2, none⟩ = some (.int .i64 base) ∧ w'.cell? ⟨p, 3, none⟩ = some (.int .i64 (at_ : Int)) ∧ w'.cell? ⟨p, 4, none⟩ = some (.int .i64 done.length) ∧ w'.cell? ⟨p, 5, none⟩ = some (.int .i64 lst) ∧ w'.cell? ⟨p, 6, none⟩ = some (.bool false)) (World.setCell (World.setCell (World.setCell (World.setCell (World.setCell (World.setCell (World.setCell wz ⟨w.heap.size, 0, none⟩ (.int .i64 topic)) ⟨w.heap.size, 1, none⟩ (.int .i64 num)) ⟨w.heap.size, 2, none⟩ (.int .i64 base)) ⟨w.heap.size, 3, none⟩ (.int .i64 (at_ : Int))) ⟨w.heap.size, 4, none⟩ (.int .i64 done.length)) ⟨w.heap.size, 5, none⟩ (.int .i64 lst)) ⟨w.heap.size, 6, none⟩ (.bool false)) := ⟨hq7.cell 0, hq7.cell 1, hq7.cell 2, hq7.cell 3, hq7.cell 4, hq7.cell 5, hq7.cell 6⟩
        have hzc := hzz.cell
        have hzf := hzz.free
        have hzl := hzz.lt
        have hyc := hyz.cell
        have hyf := hyz.free
        have hyl := hyz.lt
        clear hq7 hpc7 hpf7 hpl7 hzc7 hzf7 hzl7 hyc7 hyf7 hyl7 hbz hzz hyz
        refine WT.start (fun w' : World => w'.cell? ⟨p, 0, none⟩ = some (.int .i64 topic) ∧ w'.cell? ⟨p, 1, none⟩ = some (.int .i64 num) ∧ w'.cell? ⟨p, 2, none⟩ = some (.int .i64 base) ∧ w'.cell? ⟨p, 3, none⟩ = some (.int .i64 (at_ : Int)) ∧ w'.cell? ⟨p, 4, none⟩ = some (.int .i64 done.length) ∧ w'.cell? ⟨p, 5, none⟩ = some (.int .i64 lst) ∧ w'.cell? ⟨p, 6, none⟩ = some (.bool false)) 7 (by kernel_rfl) ?_
        rw [hwz]
        clear hwz
        refine WT.take 0 (v := ?_) rfl (by kernel_rfl) (by kernel_rfl) (by kernel_rfl) (by kernel_rfl) (fun _ _ _ h => h) (Or.inl ⟨by rfl, ?hy⟩) hS0 ?_
        case hy => first | (intro w hSw; go_simp; done) | (intro w hSw; go_simp; with_reducible rfl)
        simp only [Act.put, List.setIfInBounds_toArray, List.set_cons_zero, List.set_cons_succ]
        refine WT.take 1 (v := ?_) rfl (by kernel_rfl) (by kernel_rfl) (by kernel_rfl) (by kernel_rfl) (fun _ _ _ h => h) (Or.inl ⟨by rfl, ?hy⟩) hS0 ?_
        case hy => first | (intro w hSw; go_simp; done) | (intro w hSw; go_simp; with_reducible rfl)
        simp only [Act.put, List.setIfInBounds_toArray, List.set_cons_zero, List.set_cons_succ]
        refine WT.take 2 (v := ?_) rfl (by kernel_rfl) (by kernel_rfl) (by kernel_rfl) (by kernel_rfl) (fun _ _ _ h => h) (Or.inl ⟨by rfl, ?hy⟩) hS0 ?_
        case hy => first | (intro w hSw; go_simp; done) | (intro w hSw; go_simp; with_reducible rfl)
        simp only [Act.put, List.setIfInBounds_toArray, List.set_cons_zero, List.set_cons_succ]
        refine WT.take 3 (v := ?_) rfl (by kernel_rfl) (by kernel_rfl) (by kernel_rfl) (by kernel_rfl) (fun _ _ _ h => h) (Or.inl ⟨by rfl, ?hy⟩) hS0 ?_
        case hy => first | (intro w hSw; go_simp; done) | (intro w hSw; go_simp; with_reducible rfl)
        simp only [Act.put, List.setIfInBounds_toArray, List.set_cons_zero, List.set_cons_succ]
        refine WT.take 4 (v := ?_) rfl (by kernel_rfl) (by kernel_rfl) (by kernel_rfl) (by kernel_rfl) (fun _ _ _ h => h) (Or.inl ⟨by rfl, ?hy⟩) hS0 ?_
        case hy => first | (intro w hSw; go_simp; done) | (intro w hSw; go_simp; with_reducible rfl)
        simp only [Act.put, List.setIfInBounds_toArray, List.set_cons_zero, List.set_cons_succ]
        refine WT.step 5 rfl (by kernel_rfl) (by decide) fun K hK => ?_
        go_simp
        refine hK.out _ _ hS1 ?_
        clear hK K
        refine WT.step 6 rfl (by kernel_rfl) (by decide) fun K hK => ?_
        go_simp
        refine hK.out _ _ hS1 ?_
        clear hK K
        refine WT.last 7 rfl (by kernel_rfl) rfl fun K hK => ?_
        go_simp
        refine hK.out _ _ ?_
        clear hK K
        refine WT.done (by kernel_rfl) ?_
        go_wp2
        refine bodyPost_ret (v := .tuple #[.agg #[.int .i64 topic, .int .i64 num, .int .i64 base, .int .i64 (at_ : Int), .int .i64 done.length, .int .i64 lst, .bool false], .slice vb done.length vc, .agg #[.int .i64 50, .int .i64 (at_ : Int)]]) ?_ rfl ?_
        · simp [results, Tryz.results4, go_sem, hzc, hzl, hyc, hyl]
        unfold LkA
        rw [HO.out]
        refine ⟨_, rfl, ?_⟩
        refine H7.out.1.end_ ?_
        repeat (first | with_reducible exact hC0 | with_reducible refine Chg.setCell ?_ (.inl ⟨by simp, by simp <;> omega⟩) _)
      | inr rn =>
        obtain ⟨⟨kd, off, tm, pd, sq, kk, vv⟩, m⟩ := rn
        rw [show decRR csum rdR (b.drop at_) = .inr (⟨kd, off, tm, pd, sq, kk, vv⟩, m) from hd] at HDC
        by_cases hlo : off ≤ lst
        · have HR : Hid (R = (at_, lst, done)) := HSC.out.low hd hlo
          clear hd
          go_upto_region 11 with (first
            | (go_at_call 9
               refine HDC.out.mono ?_
               rintro e w5 ⟨rfl, hb5⟩
               dsimp only [DRv, recV]
               have hk5 := HK.out.on hb5
               have hpc5 := hk5.box.cell
               have hpf5 := hk5.box.free
               have hpl5 := hk5.box.lt
               have H5 := Lib.hid (And.intro hb5 hk5)
               clear hb5 hk5 HDC))
          have hk6 := H5.out.2.on ((Below.refl w5.heap.size w5).alloc (Nat.le_refl _) (.cells #[.int .i64 kd, .int .i64 off, .int .i64 tm, .int .i64 pd, .int .i64 sq, .string ⟨kk.toArray⟩, .string ⟨vv.toArray⟩] 33))
          generalize w5.alloc (.cells #[.int .i64 kd, .int .i64 off, .int .i64 tm, .int .i64 pd, .int .i64 sq, .string ⟨kk.toArray⟩, .string ⟨vv.toArray⟩] 33) = w6 at hk6 ⊢
          have HK6 := Lib.hid hk6
          have hpc6 := hk6.box.cell
          have hpf6 := hk6.box.free
          have hpl6 := hk6.box.lt
          have hzc6 := hk6.z2.cell
          have hzf6 := hk6.z2.free
          have hzl6 := hk6.z2.lt
          have hyc6 := hk6.z4.cell
          have hyf6 := hk6.z4.free
          have hyl6 := hk6.z4.lt
          have HT6 := Lib.hid (And.intro (((HA.out.below hk6.bel).mono hk6.bel.size).take_ at_) (((HA.out.below hk6.bel).tail_ (cap := c) at_ (by rw [HL.out]; exact hc)).take_ 17))
          have hsl3 : ∀ W, (Instr.slice 22 (.slice A n c) none (some (.int .i64 (at_ : Int))) none).run Tryz.prog W = .ok (.slice A at_ c) W := fun W => run_head2 W A n c at_ (at_ : Int) rfl (by omega)
          have HTO := Lib.hid (tailOf_any A at_ c done.length lst (b.take at_) w6.drew (HT6.out.1.below ((Below.refl _ _).drew)) (by rw [List.length_take, HL.out]; omega) (by unfold maxLen; omega) (by omega))
          clear hk6 hpc hpf hpl hpc5 hpf5 hpl5 hsl
          go_still_tail 8, (by kernel_rfl)
          change wpList _ _ _ _ _ w6.drew
          have hw17 : IntKind.i64.wrap ((at_ : Int) + 17) = (at_ : Int) + 17 := IntWalk.i64_in _ (by omega)
          by_cases hg : n < at_ + 17
          · have hg1 : decide ((at_ : Int) + 17 ≤ n) = false := decide_eq_false (by omega)
            have HNN : Hid (¬ (at_ + 17 ≤ b.length ∧ (b.drop at_).take 17 = tailS (b.take at_) done.length lst)) := fun h => by have := h.1; rw [HL.out] at this; omega
            clear HA HT6
            by_cases hnn : at_ = n
            · have hq : ((at_ : Int) == (n : Int)) = true := by simp; omega
              have HO := Lib.hid (HOpen.out at_ lst done HR.out HNN.out 0 (by rw [HL.out]; simp; omega))
              clear hnn
              go_wp2_with (first
                | (go_at_call 10
                   refine HTO.out.mono ?_
                   rintro e w7 ⟨bt, ct, rfl, ho7, hb7⟩
                   have hk7 := HK6.out.on (((Below.refl w6.heap.size w6).drew).trans hb7)
                   have hpc7 := hk7.box.cell
                   have hpf7 := hk7.box.free
                   have hpl7 := hk7.box.lt
                   have hzc7 := hk7.z2.cell
                   have hzf7 := hk7.z2.free
                   have hzl7 := hk7.z2.lt
                   have hyc7 := hk7.z4.cell
                   have hyf7 := hk7.z4.free
                   have hyl7 := hk7.z4.lt
                   have H7 := Lib.hid (And.intro hk7 (And.intro (ownsRow_rd ho7) hb7))
                   clear hk7 ho7 hb7 HTO hpc6 hpf6 hpl6 hzc6 hzf6 hzl6 hyc6 hyf6 hyl6)
                | (go_at_call 11
                   refine (same5_any (tailA A c at_) bt 17 (c - at_) 17 ct ((b.drop at_).take 17) (tailS (b.take at_) done.length lst) _ ((HT6.out.2.below (((Below.refl w6.heap.size w6).drew.mono (HK6.out.bel.size)).trans (H7.out.2.2.mono (HK6.out.bel.size)))).mono (Nat.le_trans HK6.out.bel.size (by simpa using H7.out.2.2.size))) (by rw [List.length_take, List.length_drop, HL.out]; omega) H7.out.2.1 rfl (by omega) (by omega)).mono ?_
                   rintro e w8 ⟨rfl, mm, rfl⟩
                   rw [HDD.out]))
              obtain ⟨wz, hwz⟩ : ∃ wz, World.drew w7 = wz := ⟨_, rfl⟩
              have hC0 : Chg (fun k => w.heap.size ≤ k ∧ k ≤ p) w7 wz := by
                rw [← hwz]
                exact Chg.drew (Chg.refl _ _)
              have hbz : Box wz p 24 #[.int .i64 topic, .int .i64 num, .int .i64 base, .int .i64 (at_ : Int), .int .i64 done.length, .int .i64 lst, .bool false] := by
                rw [← hwz]
                simpa using H7.out.1.box.drew
              have hzz : Box wz w.heap.size 24 #[.int .i64 0, .int .i64 0, .int .i64 0, .int .i64 0, .int .i64 0, .int .i64 0, .bool false] := by
                rw [← hwz]
                exact H7.out.1.z2.drew
              have hyz : Box wz (w.heap.size + 1) 28 #[.int .i64 0, .int .i64 0] := by
                rw [← hwz]
                exact H7.out.1.z4.drew
              have hS0 : (fun w' : World => w'.cell? ⟨p, 0, none⟩ = some (.int .i64 topic) ∧ w'.cell? ⟨p, 1, none⟩ = some (.int .i64 num) ∧ w'.cell? ⟨p, 2, none⟩ = some (.int .i64 base) ∧ w'.cell? ⟨p, 3, none⟩ = some (.int .i64 (at_ : Int)) ∧ w'.cell? ⟨p, 4, none⟩ = some (.int .i64 done.length) ∧ w'.cell? ⟨p, 5, none⟩ = some (.int .i64 lst) ∧ w'.cell? ⟨p, 6, none⟩ = some (.bool false)) wz := ⟨hbz.cell 0, hbz.cell 1, hbz.cell 2, hbz.cell 3, hbz.cell 4, hbz.cell 5, hbz.cell 6⟩
              have hnz : p ≠ w.heap.size := by omega
              have hq7 := (((((((hbz.far (p := ⟨w.heap.size, 0, none⟩) hnz (.int .i64 topic)).far (p := ⟨w.heap.size, 1, none⟩) hnz (.int .i64 num)).far (p := ⟨w.heap.size, 2, none⟩) hnz (.int .i64 base)).far (p := ⟨w.heap.size, 3, none⟩) hnz (.int .i64 (at_ : Int))).far (p := ⟨w.heap.size, 4, none⟩) hnz (.int .i64 done.length)).far (p := ⟨w.heap.size, 5, none⟩) hnz (.int .i64 lst)).far (p := ⟨w.heap.size, 6, none⟩) hnz (.bool false))
              have hS1 : (fun w' : World => w'.cell? ⟨p, 0, none⟩ = some (.int .i64 topic) ∧ w'.cell? ⟨p, 1, none⟩ = some (.int .i64 num) ∧ w'.cell? ⟨p, 2, none⟩ = some (.int .i64 base) ∧ w'.cell? ⟨p, 3, none⟩ = some (.int .i64 (at_ : Int)) ∧ w'.cell? ⟨p, 4, none⟩ = some (.int .i64 done.length) ∧ w'.cell? ⟨p, 5, none⟩ = some (.int .i64 lst) ∧ w'.cell? ⟨p, 6, none⟩ = some (.bool false)) (World.setCell (World.setCell (World.setCell (World.setCell (World.setCell (World.setCell (World.setCell wz ⟨w.heap.size, 0, none⟩ (.int .i64 topic)) ⟨w.heap.size, 1, none⟩ (.int .i64 num)) ⟨w.heap.size, 2, none⟩ (.int .i64 base)) ⟨w.heap.size, 3, none⟩ (.int .i64 (at_ : Int))) ⟨w.heap.size, 4, none⟩ (.int .i64 done.length)) ⟨w.heap.size, 5, none⟩ (.int .i64 lst)) ⟨w.heap.size, 6, none⟩ (.bool false)) := ⟨hq7.cell 0, hq7.cell 1, hq7.cell 2, hq7.cell 3, hq7.cell 4, hq7.cell 5, hq7.cell 6⟩
              have hzc := hzz.cell
              have hzf := hzz.free
              have hzl := hzz.lt
              have hyc := hyz.cell
              have hyf := hyz.free
              have hyl := hyz.lt
              clear hq7 hpc7 hpf7 hpl7 hzc7 hzf7 hzl7 hyc7 hyf7 hyl7 hbz hzz hyz
              refine WT.start (fun w' : World => w'.cell? ⟨p, 0, none⟩ = some (.int .i64 topic) ∧ w'.cell? ⟨p, 1, none⟩ = some (.int .i64 num) ∧ w'.cell? ⟨p, 2, none⟩ = some (.int .i64 base) ∧ w'.cell? ⟨p, 3, none⟩ = some (.int .i64 (at_ : Int)) ∧ w'.cell? ⟨p, 4, none⟩ = some (.int .i64 done.length) ∧ w'.cell? ⟨p, 5, none⟩ = some (.int .i64 lst) ∧ w'.cell? ⟨p, 6, none⟩ = some (.bool false)) 7 (by kernel_rfl) ?_
              rw [hwz]
              clear hwz
              refine WT.take 0 (v := ?_) rfl (by kernel_rfl) (by kernel_rfl) (by kernel_rfl) (by kernel_rfl) (fun _ _ _ h => h) (Or.inl ⟨by rfl, ?hy⟩) hS0 ?_
              case hy => first | (intro w hSw; go_simp; done) | (intro w hSw; go_simp; with_reducible rfl)
              simp only [Act.put, List.setIfInBounds_toArray, List.set_cons_zero, List.set_cons_succ]
              refine WT.take 1 (v := ?_) rfl (by kernel_rfl) (by kernel_rfl) (by kernel_rfl) (by kernel_rfl) (fun _ _ _ h => h) (Or.inl ⟨by rfl, ?hy⟩) hS0 ?_
              case hy => first | (intro w hSw; go_simp; done) | (intro w hSw; go_simp; with_reducible rfl)
              simp only [Act.put, List.setIfInBounds_toArray, List.set_cons_zero, List.set_cons_succ]
              refine WT.take 2 (v := ?_) rfl (by kernel_rfl) (by kernel_rfl) (by kernel_rfl) (by kernel_rfl) (fun _ _ _ h => h) (Or.inl ⟨by rfl, ?hy⟩) hS0 ?_
              case hy => first | (intro w hSw; go_simp; done) | (intro w hSw; go_simp; with_reducible rfl)
              simp only [Act.put, List.setIfInBounds_toArray, List.set_cons_zero, List.set_cons_succ]
              refine WT.take 3 (v := ?_) rfl (by kernel_rfl) (by kernel_rfl) (by kernel_rfl) (by kernel_rfl) (fun _ _ _ h => h) (Or.inl ⟨by rfl, ?hy⟩) hS0 ?_
              case hy => first | (intro w hSw; go_simp; done) | (intro w hSw; go_simp; with_reducible rfl)
              simp only [Act.put, List.setIfInBounds_toArray, List.set_cons_zero, List.set_cons_succ]
              refine WT.take 4 (v := ?_) rfl (by kernel_rfl) (by kernel_rfl) (by kernel_rfl) (by kernel_rfl) (fun _ _ _ h => h) (Or.inl ⟨by rfl, ?hy⟩) hS0 ?_
              case hy => first | (intro w hSw; go_simp; done) | (intro w hSw; go_simp; with_reducible rfl)
              simp only [Act.put, List.setIfInBounds_toArray, List.set_cons_zero, List.set_cons_succ]
              refine WT.step 5 rfl (by kernel_rfl) (by decide) fun K hK => ?_
              go_simp
              refine hK.out _ _ hS1 ?_
              clear hK K
              refine WT.step 6 rfl (by kernel_rfl) (by decide) fun K hK => ?_
              go_simp
              refine hK.out _ _ hS1 ?_
              clear hK K
              refine WT.last 7 rfl (by kernel_rfl) rfl fun K hK => ?_
              go_simp
              refine hK.out _ _ ?_
              clear hK K
              refine WT.done (by kernel_rfl) ?_
              go_wp2
              refine bodyPost_ret (v := .tuple #[.agg #[.int .i64 topic, .int .i64 num, .int .i64 base, .int .i64 (at_ : Int), .int .i64 done.length, .int .i64 lst, .bool false], .slice vb done.length vc, .agg #[.int .i64 0, .int .i64 (at_ : Int)]]) ?_ rfl ?_
              · simp [results, Tryz.results4, go_sem, hzc, hzl, hyc, hyl]
              unfold LkA
              rw [HO.out]
              refine ⟨_, rfl, ?_⟩
              refine H7.out.1.end_ ?_
              repeat (first | with_reducible exact hC0 | with_reducible refine Chg.setCell ?_ (.inl ⟨by simp, by simp <;> omega⟩) _)
            have hq : ((at_ : Int) == (n : Int)) = false := by simp; omega
            have HO := Lib.hid (HOpen.out at_ lst done HR.out HNN.out 50 (by rw [HL.out]; simp; omega))
            clear hnn
            go_wp2_with (first
              | (go_at_call 10
                 refine HTO.out.mono ?_
                 rintro e w7 ⟨bt, ct, rfl, ho7, hb7⟩
                 have hk7 := HK6.out.on (((Below.refl w6.heap.size w6).drew).trans hb7)
                 have hpc7 := hk7.box.cell
                 have hpf7 := hk7.box.free
                 have hpl7 := hk7.box.lt
                 have hzc7 := hk7.z2.cell
                 have hzf7 := hk7.z2.free
                 have hzl7 := hk7.z2.lt
                 have hyc7 := hk7.z4.cell
                 have hyf7 := hk7.z4.free
                 have hyl7 := hk7.z4.lt
                 have H7 := Lib.hid (And.intro hk7 (And.intro (ownsRow_rd ho7) hb7))
                 clear hk7 ho7 hb7 HTO hpc6 hpf6 hpl6 hzc6 hzf6 hzl6 hyc6 hyf6 hyl6)
              | (go_at_call 11
                 refine (same5_any (tailA A c at_) bt 17 (c - at_) 17 ct ((b.drop at_).take 17) (tailS (b.take at_) done.length lst) _ ((HT6.out.2.below (((Below.refl w6.heap.size w6).drew.mono (HK6.out.bel.size)).trans (H7.out.2.2.mono (HK6.out.bel.size)))).mono (Nat.le_trans HK6.out.bel.size (by simpa using H7.out.2.2.size))) (by rw [List.length_take, List.length_drop, HL.out]; omega) H7.out.2.1 rfl (by omega) (by omega)).mono ?_
                 rintro e w8 ⟨rfl, mm, rfl⟩
                 rw [HDD.out]))
            obtain ⟨wz, hwz⟩ : ∃ wz, World.drew w7 = wz := ⟨_, rfl⟩
            have hC0 : Chg (fun k => w.heap.size ≤ k ∧ k ≤ p) w7 wz := by
              rw [← hwz]
              exact Chg.drew (Chg.refl _ _)
            have hbz : Box wz p 24 #[.int .i64 topic, .int .i64 num, .int .i64 base, .int .i64 (at_ : Int), .int .i64 done.length, .int .i64 lst, .bool false] := by
              rw [← hwz]
              simpa using H7.out.1.box.drew
            have hzz : Box wz w.heap.size 24 #[.int .i64 0, .int .i64 0, .int .i64 0, .int .i64 0, .int .i64 0, .int .i64 0, .bool false] := by
              rw [← hwz]
              exact H7.out.1.z2.drew
            have hyz : Box wz (w.heap.size + 1) 28 #[.int .i64 0, .int .i64 0] := by
              rw [← hwz]
              exact H7.out.1.z4.drew
            have hS0 : (fun w' : World => w'.cell? ⟨p, 0, none⟩ = some (.int .i64 topic) ∧ w'.cell? ⟨p, 1, none⟩ = some (.int .i64 num) ∧ w'.cell? ⟨p, 2, none⟩ = some (.int .i64 base) ∧ w'.cell? ⟨p, 3, none⟩ = some (.int .i64 (at_ : Int)) ∧ w'.cell? ⟨p, 4, none⟩ = some (.int .i64 done.length) ∧ w'.cell? ⟨p, 5, none⟩ = some (.int .i64 lst) ∧ w'.cell? ⟨p, 6, none⟩ = some (.bool false)) wz := ⟨hbz.cell 0, hbz.cell 1, hbz.cell 2, hbz.cell 3, hbz.cell 4, hbz.cell 5, hbz.cell 6⟩
            have hnz : p ≠ w.heap.size := by omega
            have hq7 := (((((((hbz.far (p := ⟨w.heap.size, 0, none⟩) hnz (.int .i64 topic)).far (p := ⟨w.heap.size, 1, none⟩) hnz (.int .i64 num)).far (p := ⟨w.heap.size, 2, none⟩) hnz (.int .i64 base)).far (p := ⟨w.heap.size, 3, none⟩) hnz (.int .i64 (at_ : Int))).far (p := ⟨w.heap.size, 4, none⟩) hnz (.int .i64 done.length)).far (p := ⟨w.heap.size, 5, none⟩) hnz (.int .i64 lst)).far (p := ⟨w.heap.size, 6, none⟩) hnz (.bool false))
            have hS1 : (fun w' : World => w'.cell? ⟨p, 0, none⟩ = some (.int .i64 topic) ∧ w'.cell? ⟨p, 1, none⟩ = some (.int .i64 num) ∧ w'.cell? ⟨p, 2, none⟩ = some (.int .i64 base) ∧ w'.cell? ⟨p, 3, none⟩ = some (.int .i64 (at_ : Int)) ∧ w'.cell? ⟨p, 4, none⟩ = some (.int .i64 done.length) ∧ w'.cell? ⟨p, 5, none⟩ = some (.int .i64 lst) ∧ w'.cell? ⟨p, 6, none⟩ = some (.bool false)) (World.setCell (World.setCell (World.setCell (World.setCell (World.setCell (World.setCell (World.setCell wz ⟨w.heap.size, 0, none⟩ (.int .i64 topic)) ⟨w.heap.size, 1, none⟩ (.int .i64 num)) ⟨w.heap.size, 2, none⟩ (.int .i64 base)) ⟨w.heap.size, 3, none⟩ (.int .i64 (at_ : Int))) ⟨w.heap.size, 4, none⟩ (.int .i64 done.length)) ⟨w.heap.size, 5, none⟩ (.int .i64 lst)) ⟨w.heap.size, 6, none⟩ (.bool false)) := ⟨hq7.cell 0, hq7.cell 1, hq7.cell 2, hq7.cell 3, hq7.cell 4, hq7.cell 5, hq7.cell 6⟩
            have hzc := hzz.cell
            have hzf := hzz.free
            have hzl := hzz.lt
            have hyc := hyz.cell
            have hyf := hyz.free
            have hyl := hyz.lt
            clear hq7 hpc7 hpf7 hpl7 hzc7 hzf7 hzl7 hyc7 hyf7 hyl7 hbz hzz hyz
            refine WT.start (fun w' : World => w'.cell? ⟨p, 0, none⟩ = some (.int .i64 topic) ∧ w'.cell? ⟨p, 1, none⟩ = some (.int .i64 num) ∧ w'.cell? ⟨p, 2, none⟩ = some (.int .i64 base) ∧ w'.cell? ⟨p, 3, none⟩ = some (.int .i64 (at_ : Int)) ∧ w'.cell? ⟨p, 4, none⟩ = some (.int .i64 done.length) ∧ w'.cell? ⟨p, 5, none⟩ = some (.int .i64 lst) ∧ w'.cell? ⟨p, 6, none⟩ = some (.bool false)) 7 (by kernel_rfl) ?_
            rw [hwz]
            clear hwz
            refine WT.take 0 (v := ?_) rfl (by kernel_rfl) (by kernel_rfl) (by kernel_rfl) (by kernel_rfl) (fun _ _ _ h => h) (Or.inl ⟨by rfl, ?hy⟩) hS0 ?_
            case hy => first | (intro w hSw; go_simp; done) | (intro w hSw; go_simp; with_reducible rfl)
            simp only [Act.put, List.setIfInBounds_toArray, List.set_cons_zero, List.set_cons_succ]
            refine WT.take 1 (v := ?_) rfl (by kernel_rfl) (by kernel_rfl) (by kernel_rfl) (by kernel_rfl) (fun _ _ _ h => h) (Or.inl ⟨by rfl, ?hy⟩) hS0 ?_
            case hy => first | (intro w hSw; go_simp; done) | (intro w hSw; go_simp; with_reducible rfl)
            simp only [Act.put, List.setIfInBounds_toArray, List.set_cons_zero, List.set_cons_succ]
            refine WT.take 2 (v := ?_) rfl (by kernel_rfl) (by kernel_rfl) (by kernel_rfl) (by kernel_rfl) (fun _ _ _ h => h) (Or.inl ⟨by rfl, ?hy⟩) hS0 ?_
            case hy => first | (intro w hSw; go_simp; done) | (intro w hSw; go_simp; with_reducible rfl)
            simp only [Act.put, List.setIfInBounds_toArray, List.set_cons_zero, List.set_cons_succ]
            refine WT.take 3 (v := ?_) rfl (by kernel_rfl) (by kernel_rfl) (by kernel_rfl) (by kernel_rfl) (fun _ _ _ h => h) (Or.inl ⟨by rfl, ?hy⟩) hS0 ?_
            case hy => first | (intro w hSw; go_simp; done) | (intro w hSw; go_simp; with_reducible rfl)
            simp only [Act.put, List.setIfInBounds_toArray, List.set_cons_zero, List.set_cons_succ]
            refine WT.take 4 (v := ?_) rfl (by kernel_rfl) (by kernel_rfl) (by kernel_rfl) (by kernel_rfl) (fun _ _ _ h => h) (Or.inl ⟨by rfl, ?hy⟩) hS0 ?_
            case hy => first | (intro w hSw; go_simp; done) | (intro w hSw; go_simp; with_reducible rfl)
            simp only [Act.put, List.setIfInBounds_toArray, List.set_cons_zero, List.set_cons_succ]
            refine WT.step 5 rfl (by kernel_rfl) (by decide) fun K hK => ?_
            go_simp
            refine hK.out _ _ hS1 ?_
            clear hK K
            refine WT.step 6 rfl (by kernel_rfl) (by decide) fun K hK => ?_
            go_simp
            refine hK.out _ _ hS1 ?_
            clear hK K
            refine WT.last 7 rfl (by kernel_rfl) rfl fun K hK => ?_
            go_simp
            refine hK.out _ _ ?_
            clear hK K
            refine WT.done (by kernel_rfl) ?_
            go_wp2
            refine bodyPost_ret (v := .tuple #[.agg #[.int .i64 topic, .int .i64 num, .int .i64 base, .int .i64 (at_ : Int), .int .i64 done.length, .int .i64 lst, .bool false], .slice vb done.length vc, .agg #[.int .i64 50, .int .i64 (at_ : Int)]]) ?_ rfl ?_
            · simp [results, Tryz.results4, go_sem, hzc, hzl, hyc, hyl]
            unfold LkA
            rw [HO.out]
            refine ⟨_, rfl, ?_⟩
            refine H7.out.1.end_ ?_
            repeat (first | with_reducible exact hC0 | with_reducible refine Chg.setCell ?_ (.inl ⟨by simp, by simp <;> omega⟩) _)
          have hg1 : decide ((at_ : Int) + 17 ≤ n) = true := decide_eq_true (by omega)
          have hsl4 : ∀ W, (Instr.slice 22 (.slice A n c) (some (.int .i64 (at_ : Int))) (some (.int .i64 ((at_ : Int) + 17))) none).run Tryz.prog W = .ok (.slice (tailA A c at_) 17 (c - at_)) W := fun W => run_part2 W A n c at_ 17 (at_ : Int) ((at_ : Int) + 17) rfl (by omega) (by omega)
          by_cases htt : (b.drop at_).take 17 = tailS (b.take at_) done.length lst
          · have HTT := Lib.hid htt
            have HDD : Hid (decide ((b.drop at_).take 17 = tailS (b.take at_) done.length lst) = true) := decide_eq_true htt
            clear htt
            by_cases hnn : at_ + 17 = n
            · have hq : (((at_ : Int) + 17) == (n : Int)) = true := by simp; omega
              have HO := Lib.hid (HSeal.out at_ lst done HR.out (by rw [HL.out]; omega) HTT.out 0 (by rw [HL.out]; simp; omega))
              clear hnn
              go_wp2_with (first
                | (go_at_call 10
                   refine HTO.out.mono ?_
                   rintro e w7 ⟨bt, ct, rfl, ho7, hb7⟩
                   have hk7 := HK6.out.on (((Below.refl w6.heap.size w6).drew).trans hb7)
                   have hpc7 := hk7.box.cell
                   have hpf7 := hk7.box.free
                   have hpl7 := hk7.box.lt
                   have hzc7 := hk7.z2.cell
                   have hzf7 := hk7.z2.free
                   have hzl7 := hk7.z2.lt
                   have hyc7 := hk7.z4.cell
                   have hyf7 := hk7.z4.free
                   have hyl7 := hk7.z4.lt
                   have H7 := Lib.hid (And.intro hk7 (And.intro (ownsRow_rd ho7) hb7))
                   clear hk7 ho7 hb7 HTO hpc6 hpf6 hpl6 hzc6 hzf6 hzl6 hyc6 hyf6 hyl6)
                | (go_at_call 11
                   refine (same5_any (tailA A c at_) bt 17 (c - at_) 17 ct ((b.drop at_).take 17) (tailS (b.take at_) done.length lst) _ ((HT6.out.2.below (((Below.refl w6.heap.size w6).drew.mono (HK6.out.bel.size)).trans (H7.out.2.2.mono (HK6.out.bel.size)))).mono (Nat.le_trans HK6.out.bel.size (by simpa using H7.out.2.2.size))) (by rw [List.length_take, List.length_drop, HL.out]; omega) H7.out.2.1 rfl (by omega) (by omega)).mono ?_
                   rintro e w8 ⟨rfl, mm, rfl⟩
                   rw [HDD.out]))
              obtain ⟨wz, hwz⟩ : ∃ wz, World.drew (World.setCell (World.setCell (w7.drewN mm) ⟨p, 3, none⟩ (.int .i64 ((at_ : Int) + 17))) ⟨p, 6, none⟩ (.bool true)) = wz := ⟨_, rfl⟩
              have hC0 : Chg (fun k => w.heap.size ≤ k ∧ k ≤ p) w7 wz := by
                rw [← hwz]
                exact Chg.drew (Chg.setCell (p := ⟨p, 6, none⟩) (Chg.setCell (p := ⟨p, 3, none⟩) (Chg.drewN (Chg.refl _ _) mm) (.inl ⟨by show w.heap.size ≤ p; omega, Nat.le_refl _⟩) (.int .i64 ((at_ : Int) + 17))) (.inl ⟨by show w.heap.size ≤ p; omega, Nat.le_refl _⟩) (.bool true))
              have hbz : Box wz p 24 #[.int .i64 topic, .int .i64 num, .int .i64 base, .int .i64 ((at_ : Int) + 17), .int .i64 done.length, .int .i64 lst, .bool true] := by
                rw [← hwz]
                simpa using (((H7.out.1.box.drewN mm).set_ 3 (.int .i64 ((at_ : Int) + 17))).set_ 6 (.bool true)).drew
              have hzz : Box wz w.heap.size 24 #[.int .i64 0, .int .i64 0, .int .i64 0, .int .i64 0, .int .i64 0, .int .i64 0, .bool false] := by
                rw [← hwz]
                exact (((H7.out.1.z2.drewN mm).far (p := ⟨p, 3, none⟩) (by show w.heap.size ≠ p; omega) (.int .i64 ((at_ : Int) + 17))).far (p := ⟨p, 6, none⟩) (by show w.heap.size ≠ p; omega) (.bool true)).drew
              have hyz : Box wz (w.heap.size + 1) 28 #[.int .i64 0, .int .i64 0] := by
                rw [← hwz]
                exact (((H7.out.1.z4.drewN mm).far (p := ⟨p, 3, none⟩) (by show w.heap.size + 1 ≠ p; omega) (.int .i64 ((at_ : Int) + 17))).far (p := ⟨p, 6, none⟩) (by show w.heap.size + 1 ≠ p; omega) (.bool true)).drew
              have hS0 : (fun w' : World => w'.cell? ⟨p, 0, none⟩ = some (.int .i64 topic) ∧ w'.cell? ⟨p, 1, none⟩ = some (.int .i64 num) ∧ w'.cell? ⟨p, 2, none⟩ = some (.int .i64 base) ∧ w'.cell? ⟨p, 3, none⟩ = some (.int .i64 ((at_ : Int) + 17)) ∧ w'.cell? ⟨p, 4, none⟩ = some (.int .i64 done.length) ∧ w'.cell? ⟨p, 5, none⟩ = some (.int .i64 lst) ∧ w'.cell? ⟨p, 6, none⟩ = some (.bool true)) wz := ⟨hbz.cell 0, hbz.cell 1, hbz.cell 2, hbz.cell 3, hbz.cell 4, hbz.cell 5, hbz.cell 6⟩
              have hnz : p ≠ w.heap.size := by omega
              have hq7 := (((((((hbz.far (p := ⟨w.heap.size, 0, none⟩) hnz (.int .i64 topic)).far (p := ⟨w.heap.size, 1, none⟩) hnz (.int .i64 num)).far (p := ⟨w.heap.size, 2, none⟩) hnz (.int .i64 base)).far (p := ⟨w.heap.size, 3, none⟩) hnz (.int .i64 ((at_ : Int) + 17))).far (p := ⟨w.heap.size, 4, none⟩) hnz (.int .i64 done.length)).far (p := ⟨w.heap.size, 5, none⟩) hnz (.int .i64 lst)).far (p := ⟨w.heap.size, 6, none⟩) hnz (.bool true))
              have hS1 : (fun w' : World => w'.cell? ⟨p, 0, none⟩ = some (.int .i64 topic) ∧ w'.cell? ⟨p, 1, none⟩ = some (.int .i64 num) ∧ w'.cell? ⟨p, 2, none⟩ = some (.int .i64 base) ∧ w'.cell? ⟨p, 3, none⟩ = some (.int .i64 ((at_ : Int) + 17)) ∧ w'.cell? ⟨p, 4, none⟩ = some (.int .i64 done.length) ∧ w'.cell? ⟨p, 5, none⟩ = some (.int .i64 lst) ∧ w'.cell? ⟨p, 6, none⟩ = some (.bool true)) (World.setCell (World.setCell (World.setCell (World.setCell (World.setCell (World.setCell (World.setCell wz ⟨w.heap.size, 0, none⟩ (.int .i64 topic)) ⟨w.heap.size, 1, none⟩ (.int .i64 num)) ⟨w.heap.size, 2, none⟩ (.int .i64 base)) ⟨w.heap.size, 3, none⟩ (.int .i64 ((at_ : Int) + 17))) ⟨w.heap.size, 4, none⟩ (.int .i64 done.length)) ⟨w.heap.size, 5, none⟩ (.int .i64 lst)) ⟨w.heap.size, 6, none⟩ (.bool true)) := ⟨hq7.cell 0, hq7.cell 1, hq7.cell 2, hq7.cell 3, hq7.cell 4, hq7.cell 5, hq7.cell 6⟩
              have hzc := hzz.cell
              have hzf := hzz.free
              have hzl := hzz.lt
              have hyc := hyz.cell
              have hyf := hyz.free
              have hyl := hyz.lt
              clear hq7 hpc7 hpf7 hpl7 hzc7 hzf7 hzl7 hyc7 hyf7 hyl7 hbz hzz hyz
              refine WT.start (fun w' : World => w'.cell? ⟨p, 0, none⟩ = some (.int .i64 topic) ∧ w'.cell? ⟨p, 1, none⟩ = some (.int .i64 num) ∧ w'.cell? ⟨p, 2, none⟩ = some (.int .i64 base) ∧ w'.cell? ⟨p, 3, none⟩ = some (.int .i64 ((at_ : Int) + 17)) ∧ w'.cell? ⟨p, 4, none⟩ = some (.int .i64 done.length) ∧ w'.cell? ⟨p, 5, none⟩ = some (.int .i64 lst) ∧ w'.cell? ⟨p, 6, none⟩ = some (.bool true)) 7 (by kernel_rfl) ?_
              rw [hwz]
              clear hwz
              refine WT.take 0 (v := ?_) rfl (by kernel_rfl) (by kernel_rfl) (by kernel_rfl) (by kernel_rfl) (fun _ _ _ h => h) (Or.inl ⟨by rfl, ?hy⟩) hS0 ?_
              case hy => first | (intro w hSw; go_simp; done) | (intro w hSw; go_simp; with_reducible rfl)
              simp only [Act.put, List.setIfInBounds_toArray, List.set_cons_zero, List.set_cons_succ]
              refine WT.take 1 (v := ?_) rfl (by kernel_rfl) (by kernel_rfl) (by kernel_rfl) (by kernel_rfl) (fun _ _ _ h => h) (Or.inl ⟨by rfl, ?hy⟩) hS0 ?_
              case hy => first | (intro w hSw; go_simp; done) | (intro w hSw; go_simp; with_reducible rfl)
              simp only [Act.put, List.setIfInBounds_toArray, List.set_cons_zero, List.set_cons_succ]
              refine WT.take 2 (v := ?_) rfl (by kernel_rfl) (by kernel_rfl) (by kernel_rfl) (by kernel_rfl) (fun _ _ _ h => h) (Or.inl ⟨by rfl, ?hy⟩) hS0 ?_
              case hy => first | (intro w hSw; go_simp; done) | (intro w hSw; go_simp; with_reducible rfl)
              simp only [Act.put, List.setIfInBounds_toArray, List.set_cons_zero, List.set_cons_succ]
              refine WT.take 3 (v := ?_) rfl (by kernel_rfl) (by kernel_rfl) (by kernel_rfl) (by kernel_rfl) (fun _ _ _ h => h) (Or.inl ⟨by rfl, ?hy⟩) hS0 ?_
              case hy => first | (intro w hSw; go_simp; done) | (intro w hSw; go_simp; with_reducible rfl)
              simp only [Act.put, List.setIfInBounds_toArray, List.set_cons_zero, List.set_cons_succ]
              refine WT.take 4 (v := ?_) rfl (by kernel_rfl) (by kernel_rfl) (by kernel_rfl) (by kernel_rfl) (fun _ _ _ h => h) (Or.inl ⟨by rfl, ?hy⟩) hS0 ?_
              case hy => first | (intro w hSw; go_simp; done) | (intro w hSw; go_simp; with_reducible rfl)
              simp only [Act.put, List.setIfInBounds_toArray, List.set_cons_zero, List.set_cons_succ]
              refine WT.step 5 rfl (by kernel_rfl) (by decide) fun K hK => ?_
              go_simp
              refine hK.out _ _ hS1 ?_
              clear hK K
              refine WT.step 6 rfl (by kernel_rfl) (by decide) fun K hK => ?_
              go_simp
              refine hK.out _ _ hS1 ?_
              clear hK K
              refine WT.last 7 rfl (by kernel_rfl) rfl fun K hK => ?_
              go_simp
              refine hK.out _ _ ?_
              clear hK K
              refine WT.done (by kernel_rfl) ?_
              go_wp2
              refine bodyPost_ret (v := .tuple #[.agg #[.int .i64 topic, .int .i64 num, .int .i64 base, .int .i64 ((at_ : Int) + 17), .int .i64 done.length, .int .i64 lst, .bool true], .slice vb done.length vc, .agg #[.int .i64 0, .int .i64 ((at_ : Int) + 17)]]) ?_ rfl ?_
              · simp [results, Tryz.results4, go_sem, hzc, hzl, hyc, hyl]
              unfold LkA
              rw [HO.out]
              refine ⟨_, rfl, ?_⟩
              refine H7.out.1.end_ ?_
              repeat (first | with_reducible exact hC0 | with_reducible refine Chg.setCell ?_ (.inl ⟨by simp, by simp <;> omega⟩) _)
            have hq : (((at_ : Int) + 17) == (n : Int)) = false := by simp; omega
            have HO := Lib.hid (HSeal.out at_ lst done HR.out (by rw [HL.out]; omega) HTT.out 50 (by rw [HL.out]; simp; omega))
            clear hnn
            go_wp2_with (first
              | (go_at_call 10
                 refine HTO.out.mono ?_
                 rintro e w7 ⟨bt, ct, rfl, ho7, hb7⟩
                 have hk7 := HK6.out.on (((Below.refl w6.heap.size w6).drew).trans hb7)
                 have hpc7 := hk7.box.cell
                 have hpf7 := hk7.box.free
                 have hpl7 := hk7.box.lt
                 have hzc7 := hk7.z2.cell
                 have hzf7 := hk7.z2.free
                 have hzl7 := hk7.z2.lt
                 have hyc7 := hk7.z4.cell
                 have hyf7 := hk7.z4.free
                 have hyl7 := hk7.z4.lt
                 have H7 := Lib.hid (And.intro hk7 (And.intro (ownsRow_rd ho7) hb7))
                 clear hk7 ho7 hb7 HTO hpc6 hpf6 hpl6 hzc6 hzf6 hzl6 hyc6 hyf6 hyl6)
              | (go_at_call 11
                 refine (same5_any (tailA A c at_) bt 17 (c - at_) 17 ct ((b.drop at_).take 17) (tailS (b.take at_) done.length lst) _ ((HT6.out.2.below (((Below.refl w6.heap.size w6).drew.mono (HK6.out.bel.size)).trans (H7.out.2.2.mono (HK6.out.bel.size)))).mono (Nat.le_trans HK6.out.bel.size (by simpa using H7.out.2.2.size))) (by rw [List.length_take, List.length_drop, HL.out]; omega) H7.out.2.1 rfl (by omega) (by omega)).mono ?_
                 rintro e w8 ⟨rfl, mm, rfl⟩
                 rw [HDD.out]))
            obtain ⟨wz, hwz⟩ : ∃ wz, World.drew (World.setCell (World.setCell (w7.drewN mm) ⟨p, 3, none⟩ (.int .i64 ((at_ : Int) + 17))) ⟨p, 6, none⟩ (.bool true)) = wz := ⟨_, rfl⟩
            have hC0 : Chg (fun k => w.heap.size ≤ k ∧ k ≤ p) w7 wz := by
              rw [← hwz]
              exact Chg.drew (Chg.setCell (p := ⟨p, 6, none⟩) (Chg.setCell (p := ⟨p, 3, none⟩) (Chg.drewN (Chg.refl _ _) mm) (.inl ⟨by show w.heap.size ≤ p; omega, Nat.le_refl _⟩) (.int .i64 ((at_ : Int) + 17))) (.inl ⟨by show w.heap.size ≤ p; omega, Nat.le_refl _⟩) (.bool true))
            have hbz : Box wz p 24 #[.int .i64 topic, .int .i64 num, .int .i64 base, .int .i64 ((at_ : Int) + 17), .int .i64 done.length, .int .i64 lst, .bool true] := by
              rw [← hwz]
              simpa using (((H7.out.1.box.drewN mm).set_ 3 (.int .i64 ((at_ : Int) + 17))).set_ 6 (.bool true)).drew
            have hzz : Box wz w.heap.size 24 #[.int .i64 0, .int .i64 0, .int .i64 0, .int .i64 0, .int .i64 0, .int .i64 0, .bool false] := by
              rw [← hwz]
              exact (((H7.out.1.z2.drewN mm).far (p := ⟨p, 3, none⟩) (by show w.heap.size ≠ p; omega) (.int .i64 ((at_ : Int) + 17))).far (p := ⟨p, 6, none⟩) (by show w.heap.size ≠ p; omega) (.bool true)).drew
            have hyz : Box wz (w.heap.size + 1) 28 #[.int .i64 0, .int .i64 0] := by
              rw [← hwz]
              exact (((H7.out.1.z4.drewN mm).far (p := ⟨p, 3, none⟩) (by show w.heap.size + 1 ≠ p; omega) (.int .i64 ((at_ : Int) + 17))).far (p := ⟨p, 6, none⟩) (by show w.heap.size + 1 ≠ p; omega) (.bool true)).drew
            have hS0 : (fun w' : World => w'.cell? ⟨p, 0, none⟩ = some (.int .i64 topic) ∧ w'.cell? ⟨p, 1, none⟩ = some (.int .i64 num) ∧ w'.cell? ⟨p, 2, none⟩ = some (.int .i64 base) ∧ w'.cell? ⟨p, 3, none⟩ = some (.int .i64 ((at_ : Int) + 17)) ∧ w'.cell? ⟨p, 4, none⟩ = some (.int .i64 done.length) ∧ w'.cell? ⟨p, 5, none⟩ = some (.int .i64 lst) ∧ w'.cell? ⟨p, 6, none⟩ = some (.bool true)) wz := ⟨hbz.cell 0, hbz.cell 1, hbz.cell 2, hbz.cell 3, hbz.cell 4, hbz.cell 5, hbz.cell 6⟩
            have hnz : p ≠ w.heap.size := by omega
            have hq7 := (((((((hbz.far (p := ⟨w.heap.size, 0, none⟩) hnz (.int .i64 topic)).far (p := ⟨w.heap.size, 1, none⟩) hnz (.int .i64 num)).far (p := ⟨w.heap.size, 2, none⟩) hnz (.int .i64 base)).far (p := ⟨w.heap.size, 3, none⟩) hnz (.int .i64 ((at_ : Int) + 17))).far (p := ⟨w.heap.size, 4, none⟩) hnz (.int .i64 done.length)).far (p := ⟨w.heap.size, 5, none⟩) hnz (.int .i64 lst)).far (p := ⟨w.heap.size, 6, none⟩) hnz (.bool true))
            have hS1 : (fun w' : World => w'.cell? ⟨p, 0, none⟩ = some (.int .i64 topic) ∧ w'.cell? ⟨p, 1, none⟩ = some (.int .i64 num) ∧ w'.cell? ⟨p, 2, none⟩ = some (.int .i64 base) ∧ w'.cell? ⟨p, 3, none⟩ = some (.int .i64 ((at_ : Int) + 17)) ∧ w'.cell? ⟨p, 4, none⟩ = some (.int .i64 done.length) ∧ w'.cell? ⟨p, 5, none⟩ = some (.int .i64 lst) ∧ w'.cell? ⟨p, 6, none⟩ = some (.bool true)) (World.setCell (World.setCell (World.setCell (World.setCell (World.setCell (World.setCell (World.setCell wz ⟨w.heap.size, 0, none⟩ (.int .i64 topic)) ⟨w.heap.size, 1, none⟩ (.int .i64 num)) ⟨w.heap.size, 2, none⟩ (.int .i64 base)) ⟨w.heap.size, 3, none⟩ (.int .i64 ((at_ : Int) + 17))) ⟨w.heap.size, 4, none⟩ (.int .i64 done.length)) ⟨w.heap.size, 5, none⟩ (.int .i64 lst)) ⟨w.heap.size, 6, none⟩ (.bool true)) := ⟨hq7.cell 0, hq7.cell 1, hq7.cell 2, hq7.cell 3, hq7.cell 4, hq7.cell 5, hq7.cell 6⟩
            have hzc := hzz.cell
            have hzf := hzz.free
            have hzl := hzz.lt
            have hyc := hyz.cell
            have hyf := hyz.free
            have hyl := hyz.lt
            clear hq7 hpc7 hpf7 hpl7 hzc7 hzf7 hzl7 hyc7 hyf7 hyl7 hbz hzz hyz
            refine WT.start (fun w' : World => w'.cell? ⟨p, 0, none⟩ = some (.int .i64 topic) ∧ w'.cell? ⟨p, 1, none⟩ = some (.int .i64 num) ∧ w'.cell? ⟨p, 2, none⟩ = some (.int .i64 base) ∧ w'.cell? ⟨p, 3, none⟩ = some (.int .i64 ((at_ : Int) + 17)) ∧ w'.cell? ⟨p, 4, none⟩ = some (.int .i64 done.length) ∧ w'.cell? ⟨p, 5, none⟩ = some (.int .i64 lst) ∧ w'.cell? ⟨p, 6, none⟩ = some (.bool true)) 7 (by kernel_rfl) ?_
            rw [hwz]
            clear hwz
            refine WT.take 0 (v := ?_) rfl (by kernel_rfl) (by kernel_rfl) (by kernel_rfl) (by kernel_rfl) (fun _ _ _ h => h) (Or.inl ⟨by rfl, ?hy⟩) hS0 ?_
            case hy => first | (intro w hSw; go_simp; done) | (intro w hSw; go_simp; with_reducible rfl)
            simp only [Act.put, List.setIfInBounds_toArray, List.set_cons_zero, List.set_cons_succ]
            refine WT.take 1 (v := ?_) rfl (by kernel_rfl) (by kernel_rfl) (by kernel_rfl) (by kernel_rfl) (fun _ _ _ h => h) (Or.inl ⟨by rfl, ?hy⟩) hS0 ?_
            case hy => first | (intro w hSw; go_simp; done) | (intro w hSw; go_simp; with_reducible rfl)
            simp only [Act.put, List.setIfInBounds_toArray, List.set_cons_zero, List.set_cons_succ]
            refine WT.take 2 (v := ?_) rfl (by kernel_rfl) (by kernel_rfl) (by kernel_rfl) (by kernel_rfl) (fun _ _ _ h => h) (Or.inl ⟨by rfl, ?hy⟩) hS0 ?_
            case hy => first | (intro w hSw; go_simp; done) | (intro w hSw; go_simp; with_reducible rfl)
            simp only [Act.put, List.setIfInBounds_toArray, List.set_cons_zero, List.set_cons_succ]
            refine WT.take 3 (v := ?_) rfl (by kernel_rfl) (by kernel_rfl) (by kernel_rfl) (by kernel_rfl) (fun _ _ _ h => h) (Or.inl ⟨by rfl, ?hy⟩) hS0 ?_
            case hy => first | (intro w hSw; go_simp; done) | (intro w hSw; go_simp; with_reducible rfl)
            simp only [Act.put, List.setIfInBounds_toArray, List.set_cons_zero, List.set_cons_succ]
            refine WT.take 4 (v := ?_) rfl (by kernel_rfl) (by kernel_rfl) (by kernel_rfl) (by kernel_rfl) (fun _ _ _ h => h) (Or.inl ⟨by rfl, ?hy⟩) hS0 ?_
            case hy => first | (intro w hSw; go_simp; done) | (intro w hSw; go_simp; with_reducible rfl)
            simp only [Act.put, List.setIfInBounds_toArray, List.set_cons_zero, List.set_cons_succ]
            refine WT.step 5 rfl (by kernel_rfl) (by decide) fun K hK => ?_
            go_simp
            refine hK.out _ _ hS1 ?_
            clear hK K
            refine WT.step 6 rfl (by kernel_rfl) (by decide) fun K hK => ?_
            go_simp
            refine hK.out _ _ hS1 ?_
            clear hK K
            refine WT.last 7 rfl (by kernel_rfl) rfl fun K hK => ?_
            go_simp
            refine hK.out _ _ ?_
            clear hK K
            refine WT.done (by kernel_rfl) ?_
            go_wp2
            refine bodyPost_ret (v := .tuple #[.agg #[.int .i64 topic, .int .i64 num, .int .i64 base, .int .i64 ((at_ : Int) + 17), .int .i64 done.length, .int .i64 lst, .bool true], .slice vb done.length vc, .agg #[.int .i64 50, .int .i64 ((at_ : Int) + 17)]]) ?_ rfl ?_
            · simp [results, Tryz.results4, go_sem, hzc, hzl, hyc, hyl]
            unfold LkA
            rw [HO.out]
            refine ⟨_, rfl, ?_⟩
            refine H7.out.1.end_ ?_
            repeat (first | with_reducible exact hC0 | with_reducible refine Chg.setCell ?_ (.inl ⟨by simp, by simp <;> omega⟩) _)
          have HNN : Hid (¬ (at_ + 17 ≤ b.length ∧ (b.drop at_).take 17 = tailS (b.take at_) done.length lst)) := fun h => htt h.2
          have HDD : Hid (decide ((b.drop at_).take 17 = tailS (b.take at_) done.length lst) = false) := decide_eq_false htt
          clear htt
          by_cases hnn : at_ = n
          · have hq : ((at_ : Int) == (n : Int)) = true := by simp; omega
            have HO := Lib.hid (HOpen.out at_ lst done HR.out HNN.out 0 (by rw [HL.out]; simp; omega))
            clear hnn
            go_wp2_with (first
              | (go_at_call 10
                 refine HTO.out.mono ?_
                 rintro e w7 ⟨bt, ct, rfl, ho7, hb7⟩
                 have hk7 := HK6.out.on (((Below.refl w6.heap.size w6).drew).trans hb7)
                 have hpc7 := hk7.box.cell
                 have hpf7 := hk7.box.free
                 have hpl7 := hk7.box.lt
                 have hzc7 := hk7.z2.cell
                 have hzf7 := hk7.z2.free
                 have hzl7 := hk7.z2.lt
                 have hyc7 := hk7.z4.cell
                 have hyf7 := hk7.z4.free
                 have hyl7 := hk7.z4.lt
                 have H7 := Lib.hid (And.intro hk7 (And.intro (ownsRow_rd ho7) hb7))
                 clear hk7 ho7 hb7 HTO hpc6 hpf6 hpl6 hzc6 hzf6 hzl6 hyc6 hyf6 hyl6)
              | (go_at_call 11
                 refine (same5_any (tailA A c at_) bt 17 (c - at_) 17 ct ((b.drop at_).take 17) (tailS (b.take at_) done.length lst) _ ((HT6.out.2.below (((Below.refl w6.heap.size w6).drew.mono (HK6.out.bel.size)).trans (H7.out.2.2.mono (HK6.out.bel.size)))).mono (Nat.le_trans HK6.out.bel.size (by simpa using H7.out.2.2.size))) (by rw [List.length_take, List.length_drop, HL.out]; omega) H7.out.2.1 rfl (by omega) (by omega)).mono ?_
                 rintro e w8 ⟨rfl, mm, rfl⟩
                 rw [HDD.out]))
            obtain ⟨wz, hwz⟩ : ∃ wz, World.drew (w7.drewN mm) = wz := ⟨_, rfl⟩
            have hC0 : Chg (fun k => w.heap.size ≤ k ∧ k ≤ p) w7 wz := by
              rw [← hwz]
              exact Chg.drew (Chg.drewN (Chg.refl _ _) mm)
            have hbz : Box wz p 24 #[.int .i64 topic, .int .i64 num, .int .i64 base, .int .i64 (at_ : Int), .int .i64 done.length, .int .i64 lst, .bool false] := by
              rw [← hwz]
              simpa using (H7.out.1.box.drewN mm).drew
            have hzz : Box wz w.heap.size 24 #[.int .i64 0, .int .i64 0, .int .i64 0, .int .i64 0, .int .i64 0, .int .i64 0, .bool false] := by
              rw [← hwz]
              exact (H7.out.1.z2.drewN mm).drew
            have hyz : Box wz (w.heap.size + 1) 28 #[.int .i64 0, .int .i64 0] := by
              rw [← hwz]
              exact (H7.out.1.z4.drewN mm).drew
            have hS0 : (fun w' : World => w'.cell? ⟨p, 0, none⟩ = some (.int .i64 topic) ∧ w'.cell? ⟨p, 1, none⟩ = some (.int .i64 num) ∧ w'.cell? ⟨p, 2, none⟩ = some (.int .i64 base) ∧ w'.cell? ⟨p, 3, none⟩ = some (.int .i64 (at_ : Int)) ∧ w'.cell? ⟨p, 4, none⟩ = some (.int .i64 done.length) ∧ w'.cell? ⟨p, 5, none⟩ = some (.int .i64 lst) ∧ w'.cell? ⟨p, 6, none⟩ = some (.bool false)) wz := ⟨hbz.cell 0, hbz.cell 1, hbz.cell 2, hbz.cell 3, hbz.cell 4, hbz.cell 5, hbz.cell 6⟩
            have hnz : p ≠ w.heap.size := by omega
            have hq7 := (((((((hbz.far (p := ⟨w.heap.size, 0, none⟩) hnz (.int .i64 topic)).far (p := ⟨w.heap.size, 1, none⟩) hnz (.int .i64 num)).far (p := ⟨w.heap.size, 2, none⟩) hnz (.int .i64 base)).far (p := ⟨w.heap.size, 3, none⟩) hnz (.int .i64 (at_ : Int))).far (p := ⟨w.heap.size, 4, none⟩) hnz (.int .i64 done.length)).far (p := ⟨w.heap.size, 5, none⟩) hnz (.int .i64 lst)).far (p := ⟨w.heap.size, 6, none⟩) hnz (.bool false))
            have hS1 : (fun w' : World => w'.cell? ⟨p, 0, none⟩ = some (.int .i64 topic) ∧ w'.cell? ⟨p, 1, none⟩ = some (.int .i64 num) ∧ w'.cell? ⟨p, 2, none⟩ = some (.int .i64 base) ∧ w'.cell? ⟨p, 3, none⟩ = some (.int .i64 (at_ : Int)) ∧ w'.cell? ⟨p, 4, none⟩ = some (.int .i64 done.length) ∧ w'.cell? ⟨p, 5, none⟩ = some (.int .i64 lst) ∧ w'.cell? ⟨p, 6, none⟩ = some (.bool false)) (World.setCell (World.setCell (World.setCell (World.setCell (World.setCell (World.setCell (World.setCell wz ⟨w.heap.size, 0, none⟩ (.int .i64 topic)) ⟨w.heap.size, 1, none⟩ (.int .i64 num)) ⟨w.heap.size, 2, none⟩ (.int .i64 base)) ⟨w.heap.size, 3, none⟩ (.int .i64 (at_ : Int))) ⟨w.heap.size, 4, none⟩ (.int .i64 done.length)) ⟨w.heap.size, 5, none⟩ (.int .i64 lst)) ⟨w.heap.size, 6, none⟩ (.bool false)) := ⟨hq7.cell 0, hq7.cell 1, hq7.cell 2, hq7.cell 3, hq7.cell 4, hq7.cell 5, hq7.cell 6⟩
            have hzc := hzz.cell
            have hzf := hzz.free
            have hzl := hzz.lt
            have hyc := hyz.cell
            have hyf := hyz.free
            have hyl := hyz.lt
            clear hq7 hpc7 hpf7 hpl7 hzc7 hzf7 hzl7 hyc7 hyf7 hyl7 hbz hzz hyz
            refine WT.start (fun w' : World => w'.cell? ⟨p, 0, none⟩ = some (.int .i64 topic) ∧ w'.cell? ⟨p, 1, none⟩ = some (.int .i64 num) ∧ w'.cell? ⟨p, 2, none⟩ = some (.int .i64 base) ∧ w'.cell? ⟨p, 3, none⟩ = some (.int .i64 (at_ : Int)) ∧ w'.cell? ⟨p, 4, none⟩ = some (.int .i64 done.length) ∧ w'.cell? ⟨p, 5, none⟩ = some (.int .i64 lst) ∧ w'.cell? ⟨p, 6, none⟩ = some (.bool false)) 7 (by kernel_rfl) ?_
            rw [hwz]
            clear hwz
            refine WT.take 0 (v := ?_) rfl (by kernel_rfl) (by kernel_rfl) (by kernel_rfl) (by kernel_rfl) (fun _ _ _ h => h) (Or.inl ⟨by rfl, ?hy⟩) hS0 ?_
            case hy => first | (intro w hSw; go_simp; done) | (intro w hSw; go_simp; with_reducible rfl)
            simp only [Act.put, List.setIfInBounds_toArray, List.set_cons_zero, List.set_cons_succ]
            refine WT.take 1 (v := ?_) rfl (by kernel_rfl) (by kernel_rfl) (by kernel_rfl) (by kernel_rfl) (fun _ _ _ h => h) (Or.inl ⟨by rfl, ?hy⟩) hS0 ?_
            case hy => first | (intro w hSw; go_simp; done) | (intro w hSw; go_simp; with_reducible rfl)
            simp only [Act.put, List.setIfInBounds_toArray, List.set_cons_zero, List.set_cons_succ]
            refine WT.take 2 (v := ?_) rfl (by kernel_rfl) (by kernel_rfl) (by kernel_rfl) (by kernel_rfl) (fun _ _ _ h => h) (Or.inl ⟨by rfl, ?hy⟩) hS0 ?_
            case hy => first | (intro w hSw; go_simp; done) | (intro w hSw; go_simp; with_reducible rfl)
            simp only [Act.put, List.setIfInBounds_toArray, List.set_cons_zero, List.set_cons_succ]
            refine WT.take 3 (v := ?_) rfl (by kernel_rfl) (by kernel_rfl) (by kernel_rfl) (by kernel_rfl) (fun _ _ _ h => h) (Or.inl ⟨by rfl, ?hy⟩) hS0 ?_
            case hy => first | (intro w hSw; go_simp; done) | (intro w hSw; go_simp; with_reducible rfl)
            simp only [Act.put, List.setIfInBounds_toArray, List.set_cons_zero, List.set_cons_succ]
            refine WT.take 4 (v := ?_) rfl (by kernel_rfl) (by kernel_rfl) (by kernel_rfl) (by kernel_rfl) (fun _ _ _ h => h) (Or.inl ⟨by rfl, ?hy⟩) hS0 ?_
            case hy => first | (intro w hSw; go_simp; done) | (intro w hSw; go_simp; with_reducible rfl)
            simp only [Act.put, List.setIfInBounds_toArray, List.set_cons_zero, List.set_cons_succ]
            refine WT.step 5 rfl (by kernel_rfl) (by decide) fun K hK => ?_
            go_simp
            refine hK.out _ _ hS1 ?_
            clear hK K
            refine WT.step 6 rfl (by kernel_rfl) (by decide) fun K hK => ?_
            go_simp
            refine hK.out _ _ hS1 ?_
            clear hK K
            refine WT.last 7 rfl (by kernel_rfl) rfl fun K hK => ?_
            go_simp
            refine hK.out _ _ ?_
            clear hK K
            refine WT.done (by kernel_rfl) ?_
            go_wp2
            refine bodyPost_ret (v := .tuple #[.agg #[.int .i64 topic, .int .i64 num, .int .i64 base, .int .i64 (at_ : Int), .int .i64 done.length, .int .i64 lst, .bool false], .slice vb done.length vc, .agg #[.int .i64 0, .int .i64 (at_ : Int)]]) ?_ rfl ?_
            · simp [results, Tryz.results4, go_sem, hzc, hzl, hyc, hyl]
            unfold LkA
            rw [HO.out]
            refine ⟨_, rfl, ?_⟩
            refine H7.out.1.end_ ?_
            repeat (first | with_reducible exact hC0 | with_reducible refine Chg.setCell ?_ (.inl ⟨by simp, by simp <;> omega⟩) _)
          have hq : ((at_ : Int) == (n : Int)) = false := by simp; omega
          have HO := Lib.hid (HOpen.out at_ lst done HR.out HNN.out 50 (by rw [HL.out]; simp; omega))
          clear hnn
          go_wp2_with (first
            | (go_at_call 10
               refine HTO.out.mono ?_
               rintro e w7 ⟨bt, ct, rfl, ho7, hb7⟩
               have hk7 := HK6.out.on (((Below.refl w6.heap.size w6).drew).trans hb7)
               have hpc7 := hk7.box.cell
               have hpf7 := hk7.box.free
               have hpl7 := hk7.box.lt
               have hzc7 := hk7.z2.cell
               have hzf7 := hk7.z2.free
               have hzl7 := hk7.z2.lt
               have hyc7 := hk7.z4.cell
               have hyf7 := hk7.z4.free
               have hyl7 := hk7.z4.lt
               have H7 := Lib.hid (And.intro hk7 (And.intro (ownsRow_rd ho7) hb7))
               clear hk7 ho7 hb7 HTO hpc6 hpf6 hpl6 hzc6 hzf6 hzl6 hyc6 hyf6 hyl6)
            | (go_at_call 11
               refine (same5_any (tailA A c at_) bt 17 (c - at_) 17 ct ((b.drop at_).take 17) (tailS (b.take at_) done.length lst) _ ((HT6.out.2.below (((Below.refl w6.heap.size w6).drew.mono (HK6.out.bel.size)).trans (H7.out.2.2.mono (HK6.out.bel.size)))).mono (Nat.le_trans HK6.out.bel.size (by simpa using H7.out.2.2.size))) (by rw [List.length_take, List.length_drop, HL.out]; omega) H7.out.2.1 rfl (by omega) (by omega)).mono ?_
               rintro e w8 ⟨rfl, mm, rfl⟩
               rw [HDD.out]))
          obtain ⟨wz, hwz⟩ : ∃ wz, World.drew (w7.drewN mm) = wz := ⟨_, rfl⟩
          have hC0 : Chg (fun k => w.heap.size ≤ k ∧ k ≤ p) w7 wz := by
            rw [← hwz]
            exact Chg.drew (Chg.drewN (Chg.refl _ _) mm)
          have hbz : Box wz p 24 #[.int .i64 topic, .int .i64 num, .int .i64 base, .int .i64 (at_ : Int), .int .i64 done.length, .int .i64 lst, .bool false] := by
            rw [← hwz]
            simpa using (H7.out.1.box.drewN mm).drew
          have hzz : Box wz w.heap.size 24 #[.int .i64 0, .int .i64 0, .int .i64 0, .int .i64 0, .int .i64 0, .int .i64 0, .bool false] := by
            rw [← hwz]
            exact (H7.out.1.z2.drewN mm).drew
          have hyz : Box wz (w.heap.size + 1) 28 #[.int .i64 0, .int .i64 0] := by
            rw [← hwz]
            exact (H7.out.1.z4.drewN mm).drew
          have hS0 : (fun w' : World => w'.cell? ⟨p, 0, none⟩ = some (.int .i64 topic) ∧ w'.cell? ⟨p, 1, none⟩ = some (.int .i64 num) ∧ w'.cell? ⟨p, 2, none⟩ = some (.int .i64 base) ∧ w'.cell? ⟨p, 3, none⟩ = some (.int .i64 (at_ : Int)) ∧ w'.cell? ⟨p, 4, none⟩ = some (.int .i64 done.length) ∧ w'.cell? ⟨p, 5, none⟩ = some (.int .i64 lst) ∧ w'.cell? ⟨p, 6, none⟩ = some (.bool false)) wz := ⟨hbz.cell 0, hbz.cell 1, hbz.cell 2, hbz.cell 3, hbz.cell 4, hbz.cell 5, hbz.cell 6⟩
          have hnz : p ≠ w.heap.size := by omega
          have hq7 := (((((((hbz.far (p := ⟨w.heap.size, 0, none⟩) hnz (.int .i64 topic)).far (p := ⟨w.heap.size, 1, none⟩) hnz (.int .i64 num)).far (p := ⟨w.heap.size, 2, none⟩) hnz (.int .i64 base)).far (p := ⟨w.heap.size, 3, none⟩) hnz (.int .i64 (at_ : Int))).far (p := ⟨w.heap.size, 4, none⟩) hnz (.int .i64 done.length)).far (p := ⟨w.heap.size, 5, none⟩) hnz (.int .i64 lst)).far (p := ⟨w.heap.size, 6, none⟩) hnz (.bool false))
          have hS1 : (fun w' : World => w'.cell? ⟨p, 0, none⟩ = some (.int .i64 topic) ∧ w'.cell? ⟨p, 1, none⟩ = some (.int .i64 num) ∧ w'.cell? ⟨p, 2, none⟩ = some (.int .i64 base) ∧ w'.cell? ⟨p, 3, none⟩ = some (.int .i64 (at_ : Int)) ∧ w'.cell? ⟨p, 4, none⟩ = some (.int .i64 done.length) ∧ w'.cell? ⟨p, 5, none⟩ = some (.int .i64 lst) ∧ w'.cell? ⟨p, 6, none⟩ = some (.bool false)) (World.setCell (World.setCell (World.setCell (World.setCell (World.setCell (World.setCell (World.setCell wz ⟨w.heap.size, 0, none⟩ (.int .i64 topic)) ⟨w.heap.size, 1, none⟩ (.int .i64 num)) ⟨w.heap.size, 2, none⟩ (.int .i64 base)) ⟨w.heap.size, 3, none⟩ (.int .i64 (at_ : Int))) ⟨w.heap.size, 4, none⟩ (.int .i64 done.length)) ⟨w.heap.size, 5, none⟩ (.int .i64 lst)) ⟨w.heap.size, 6, none⟩ (.bool false)) := ⟨hq7.cell 0, hq7.cell 1, hq7.cell 2, hq7.cell 3, hq7.cell 4, hq7.cell 5, hq7.cell 6⟩
          have hzc := hzz.cell
          have hzf := hzz.free
          have hzl := hzz.lt
          have hyc := hyz.cell
          have hyf := hyz.free
          have hyl := hyz.lt
          clear hq7 hpc7 hpf7 hpl7 hzc7 hzf7 hzl7 hyc7 hyf7 hyl7 hbz hzz hyz
          refine WT.start (fun w' : World => w'.cell? ⟨p, 0, none⟩ = some (.int .i64 topic) ∧ w'.cell? ⟨p, 1, none⟩ = some (.int .i64 num) ∧ w'.cell? ⟨p, 2, none⟩ = some (.int .i64 base) ∧ w'.cell? ⟨p, 3, none⟩ = some (.int .i64 (at_ : Int)) ∧ w'.cell? ⟨p, 4, none⟩ = some (.int .i64 done.length) ∧ w'.cell? ⟨p, 5, none⟩ = some (.int .i64 lst) ∧ w'.cell? ⟨p, 6, none⟩ = some (.bool false)) 7 (by kernel_rfl) ?_
          rw [hwz]
          clear hwz
          refine WT.take 0 (v := ?_) rfl (by kernel_rfl) (by kernel_rfl) (by kernel_rfl) (by kernel_rfl) (fun _ _ _ h => h) (Or.inl ⟨by rfl, ?hy⟩) hS0 ?_
          case hy => first | (intro w hSw; go_simp; done) | (intro w hSw; go_simp; with_reducible rfl)
          simp only [Act.put, List.setIfInBounds_toArray, List.set_cons_zero, List.set_cons_succ]
          refine WT.take 1 (v := ?_) rfl (by kernel_rfl) (by kernel_rfl) (by kernel_rfl) (by kernel_rfl) (fun _ _ _ h => h) (Or.inl ⟨by rfl, ?hy⟩) hS0 ?_
          case hy => first | (intro w hSw; go_simp; done) | (intro w hSw; go_simp; with_reducible rfl)
          simp only [Act.put, List.setIfInBounds_toArray, List.set_cons_zero, List.set_cons_succ]
          refine WT.take 2 (v := ?_) rfl (by kernel_rfl) (by kernel_rfl) (by kernel_rfl) (by kernel_rfl) (fun _ _ _ h => h) (Or.inl ⟨by rfl, ?hy⟩) hS0 ?_
          case hy => first | (intro w hSw; go_simp; done) | (intro w hSw; go_simp; with_reducible rfl)
          simp only [Act.put, List.setIfInBounds_toArray, List.set_cons_zero, List.set_cons_succ]
          refine WT.take 3 (v := ?_) rfl (by kernel_rfl) (by kernel_rfl) (by kernel_rfl) (by kernel_rfl) (fun _ _ _ h => h) (Or.inl ⟨by rfl, ?hy⟩) hS0 ?_
          case hy => first | (intro w hSw; go_simp; done) | (intro w hSw; go_simp; with_reducible rfl)
          simp only [Act.put, List.setIfInBounds_toArray, List.set_cons_zero, List.set_cons_succ]
          refine WT.take 4 (v := ?_) rfl (by kernel_rfl) (by kernel_rfl) (by kernel_rfl) (by kernel_rfl) (fun _ _ _ h => h) (Or.inl ⟨by rfl, ?hy⟩) hS0 ?_
          case hy => first | (intro w hSw; go_simp; done) | (intro w hSw; go_simp; with_reducible rfl)
          simp only [Act.put, List.setIfInBounds_toArray, List.set_cons_zero, List.set_cons_succ]
          refine WT.step 5 rfl (by kernel_rfl) (by decide) fun K hK => ?_
          go_simp
          refine hK.out _ _ hS1 ?_
          clear hK K
          refine WT.step 6 rfl (by kernel_rfl) (by decide) fun K hK => ?_
          go_simp
          refine hK.out _ _ hS1 ?_
          clear hK K
          refine WT.last 7 rfl (by kernel_rfl) rfl fun K hK => ?_
          go_simp
          refine hK.out _ _ ?_
          clear hK K
          refine WT.done (by kernel_rfl) ?_
          go_wp2
          refine bodyPost_ret (v := .tuple #[.agg #[.int .i64 topic, .int .i64 num, .int .i64 base, .int .i64 (at_ : Int), .int .i64 done.length, .int .i64 lst, .bool false], .slice vb done.length vc, .agg #[.int .i64 50, .int .i64 (at_ : Int)]]) ?_ rfl ?_
          · simp [results, Tryz.results4, go_sem, hzc, hzl, hyc, hyl]
          unfold LkA
          rw [HO.out]
          refine ⟨_, rfl, ?_⟩
          refine H7.out.1.end_ ?_
          repeat (first | with_reducible exact hC0 | with_reducible refine Chg.setCell ?_ (.inl ⟨by simp, by simp <;> omega⟩) _)
        have HSN := Lib.hid (HSC.out.step hd hlo)
        obtain ⟨m1, m2, _⟩ := dcd_ok hd
        rw [List.length_drop, HL.out] at m2
        clear hd
        go_upto_region 6 with (first
          | (go_at_call 9
             refine HDC.out.mono ?_
             rintro e w5 ⟨rfl, hb5⟩
             dsimp only [DRv, recV]
             have hk5 := HK.out.on hb5
             have hpc5 := hk5.box.cell
             have hpf5 := hk5.box.free
             have hpl5 := hk5.box.lt
             have H5 := Lib.hid (And.intro hb5 hk5)
             clear hb5 hk5 HDC))
        have hb6 : Below wr.heap.size wr (w5.alloc (.cells #[.int .i64 kd, .int .i64 off, .int .i64 tm, .int .i64 pd, .int .i64 sq, .string ⟨kk.toArray⟩, .string ⟨vv.toArray⟩] 33)) := H5.out.1.alloc H5.out.1.size _
        have hx6 := Box.new w5 33 #[.int .i64 kd, .int .i64 off, .int .i64 tm, .int .i64 pd, .int .i64 sq, .string ⟨kk.toArray⟩, .string ⟨vv.toArray⟩]
        have hs5 := H5.out.1.size
        generalize w5.alloc (.cells #[.int .i64 kd, .int .i64 off, .int .i64 tm, .int .i64 pd, .int .i64 sq, .string ⟨kk.toArray⟩, .string ⟨vv.toArray⟩] 33) = w6 at hb6 hx6 ⊢
        generalize w5.heap.size = q at hs5 hx6 ⊢
        have hk6 := HK.out.on hb6
        have hpc6 := hk6.box.cell
        have hpf6 := hk6.box.free
        have hpl6 := hk6.box.lt
        have hxc6 := hx6.cell
        have hxf6 := hx6.free
        have hxl6 := hx6.lt
        have H6 := Lib.hid (And.intro hb6 (And.intro hk6 hx6))
        clear hb6 hk6 hx6 hpc hpf hpl hpc5 hpf5 hpl5 H5 hsl
        have hlo2 : ¬ off ≤ lst := hlo
        have hm1 : IntKind.i64.wrap ((at_ : Int) + m) = ((at_ + m : Nat) : Int) := by rw [IntWalk.i64_in _ (by omega)]; omega
        have hm2 : IntKind.i64.wrap ((done.length : Int) + 1) = (done.length : Int) + 1 := IntWalk.i64_in _ (by omega)
        go_wp2_with (first
          | (at_builtin
             have hb7 : Below wr.heap.size wr (w6.alloc (.cells #[.int .i64 kd, .int .i64 off, .int .i64 tm, .int .i64 pd, .int .i64 sq, .string ⟨kk.toArray⟩, .string ⟨vv.toArray⟩, .int .i64 at_, .int .i64 m] 35)) := H6.out.1.alloc H6.out.1.size _
             have hk7 := HK.out.on hb7
             refine wpList_app _ rfl (.tmp 39) (.tmp 45) _ rfl (p + 1) 35 i0 _ 9 88 Tryz.underlying25 hi0 hz0 hs0 hy0 rfl (by omega) (.slice vb done.length vc) done.length (done.flatMap plc) rfl hk7.row _ _ 1 1 _ rfl rfl (rd_new w6 _ _) (by simp [Value.oneCell']) (by unfold maxLen; omega) (by omega) (by have := hk7.box.lt; omega) ?_
             intro v8 w8 hown hg hvv
             obtain ⟨b8, c8, rfl⟩ := ownsRow_slice hown
             have hk8 := LkW.push (x := (⟨kd, off, tm, pd, sq, kk, vv⟩, at_, m)) (m := at_ + m) HK.out hb7 hown hg
             have hne8 : ∀ k, (Value.slice vb done.length vc).ownBlock = some k → p + 1 ≤ k := fun k hk => (hk7.row.lt k hk).1
             have hp8 := hk7.box.grown hg (fun e => by have := hne8 _ e.symm; omega)
             have hpc8 := hp8.cell
             have hpf8 := hp8.free
             have hpl8 := hp8.lt
             have hx8 := (H6.out.2.2.alloc (.cells #[.int .i64 kd, .int .i64 off, .int .i64 tm, .int .i64 pd, .int .i64 sq, .string ⟨kk.toArray⟩, .string ⟨vv.toArray⟩, .int .i64 at_, .int .i64 m] 35)).grown hg (fun e => by have h9 := HK.out.row.lt _ e.symm; have := h9.2; omega)
             have hxc8 := hx8.cell
             have hxf8 := hx8.free
             have hxl8 := hx8.lt
             have H8 := Lib.hid hk8
             have hpq : p ≠ q := by have := HK.out.box.lt; omega
             clear hb7 hk7 hown hg hvv hk8 hne8 hp8 hx8 hpc6 hpf6 hpl6 hxc6 hxf6 hxl6))
        go_roundw
        case rel =>
          have h8 := H8.out
          rw [show ((at_ + m : Nat) : Int) = (at_ : Int) + m from by omega] at h8
          exact ⟨at_ + m, off, done ++ [(⟨kd, off, tm, pd, sq, kk, vv⟩, at_, m)], h8, HSN.out⟩
        case measure => simp [lenV]; omega
end Go.Proofs.YtmhlgbpgdhhfnaaGreat
