import Derived.Test.YtglmhpmjebjcgaaKg
import Derived.Sort.QuietTacIn
import Derived.Test.YtglmhpmjebjcgaaKk
/- A region that draws its order and only reads, inside a round of a range over a function. No program in sight. -/
namespace Go.Proofs.Ytglmhpmjebjcgaa
open Go.RowKit

section
variable {P : Program} {ops : Array Oper} {md : Region.Mode} {m l : Nat} {Q : Exit → Act → World → Prop}
theorem oper_round {o : Oper} {a : Act} {w : World} {K : Act → World → Prop} (hd : ∀ c, o.op ≠ .defer c) (h : o.wpIn Wf m P a w K Q) : o.wpIn (Wf.inRound l) m P a w K Q := by
  obtain ⟨h1, h2⟩ := h
  refine ⟨h1, ?_⟩
  rw [Oper.semAt_plain _ _ _ hd] at h2 ⊢
  exact h2
theorem wpOpIn_round {i : Nat} {a : Act} {w : World} {K K' : Act → World → Prop} (hd : ∀ (i : Nat) (o : Oper), ops[i]? = some o → ∀ c, o.op ≠ Op.defer c) (hK : ∀ a w, K a w → K' a w) (h : wpOpIn Wf m P ops Q i K a w) : wpOpIn (Wf.inRound l) m P ops Q i K' a w := by
  have h' := wpOpIn_mono hK h
  unfold wpOpIn at h' ⊢
  split
  · rename_i ho
    simp only [ho] at h'
    exact h'
  · rename_i o ho
    simp only [ho] at h'
    split
    · rename_i hw
      simp only [hw, if_true] at h'
      exact oper_round (hd i o ho) h'
    · rename_i hw
      simp only [hw] at h'
      exact h'
theorem wpAnyIn_round (hd : ∀ (i : Nat) (o : Oper), ops[i]? = some o → ∀ c, o.op ≠ Op.defer c) : ∀ (f : Nat) (done : Array Bool) (a : Act) (w : World), wpAnyIn Wf m P md ops Q f done a w → wpAnyIn (Wf.inRound l) m P md ops Q f done a w
  | 0, _, _, _, h => h
  | f + 1, _, _, _, h => ⟨h.1, fun j hj => wpOpIn_round hd (fun a' w' q => wpAnyIn_round hd f _ a' w' q) (h.2 j hj)⟩
theorem wpIn_region_round {id : Nat} {a : Act} {w : World} {li : List Oper} (hd : li.all (fun o => match o.op with | .defer _ => false | _ => true) = true) (hm : P.follows .mixedOrders = true) (hB : Region.lexB .any li.toArray = true)
    (h : wpQuietIn Wf m P li.toArray (fun w' => ∃ n, w' = w.drewN n) (fun a' => ∀ w', (∃ n, w' = w.drewN n) → Q .normal a' w') li a) : (Code.region id li.toArray true).wpIn (Wf.inRound l) m P Q a w := by
  have hd' : ∀ (i : Nat) (o : Oper), li.toArray[i]? = some o → ∀ c, o.op ≠ Op.defer c := fun i o ho c hc => by
    have hm := List.all_eq_true.1 hd o (by rw [List.getElem?_toArray] at ho; exact List.mem_of_getElem? ho)
    rw [hc] at hm
    cases hm
  simp only [Region.lexB, Bool.and_eq_true] at hB
  refine wpIn_region_any hm (wpAnyIn_round hd' _ _ _ _ (wpAnyIn_of_quiet (C := fun w' => ∃ n, w' = w.drewN n) (Q := fun a' => ∀ w', (∃ n, w' = w.drewN n) → Q .normal a' w') rfl (fun _ w' hw' h => h w' hw') _ _ _ _ ⟨1, rfl⟩ ?_))
  have := wpAnyQIn_lex (F := Wf) (n := m) (C := fun w' => ∃ n, w' = w.drewN n) (md := .any) hB.1 li 0 (Array.replicate li.toArray.size false) a (by simp) (by simpa using hB.2) h
  simpa using this
end
end Go.Proofs.Ytglmhpmjebjcgaa
/- KeydirMoves: erode. -/
namespace Go.Proofs.Ytglmhpmjebjcgaa
open Go.RowKit Go.Maps Go.Shelf
attribute [local go_sem] Oper.semAt_some

/-- What erode leaves. -/
def EP (B d r : Nat) (v : Value) (xs : List KE) (w w' : World) : Prop := ∃ xs' v', xs'.length ≤ xs.length ∧ DR w' d xs' ∧ RR w' B r v' xs' ∧ (v'.ownBlock = v.ownBlock ∨ ∀ j, v'.ownBlock = some j → w.heap.size ≤ j) ∧ Chg (fun k => k = d ∨ k = r ∨ some k = v.ownBlock) w w'

set_option maxRecDepth 100000 in
set_option maxHeartbeats 16000000 in
theorem erode_any (B d r : Nat) (v : Value) (xs : List KE) (dir kind : Int) (key hi : ByteArray) (en : En) (n : Int) (w : World) (h : DR w d xs) (hR : RR w B r v xs) (hB : B ≤ w.heap.size) (hlo : key.size ≤ maxLen) (hhi : hi.size ≤ maxLen) (hN : xs.length ≤ 3000000) :
    Calls Try.prog 37 #[.pointer (some ⟨d, 0, none⟩), .pointer (some ⟨r, 0, none⟩), Mv.v ⟨dir, kind, key, hi, en, n⟩] w fun e w' => e = .returned (.bool true) ∧ EP B d r v xs w w' := by
  obtain ⟨i0, hi0, hz0, hs0, hy0⟩ := info_parts infoKE
  have hfe := fun f cs W => fn_eq f cs W
  obtain ⟨wl, hwl⟩ : ∃ wl, sel key hi xs = wl := ⟨_, rfl⟩
  obtain ⟨lw, hlw⟩ : ∃ lw, wl.length = lw := ⟨_, rfl⟩
  have hsl : lw ≤ 3000000 := by rw [← hlw, ← hwl]; exact Nat.le_trans (List.length_filter_le _ _) hN
  have HL := Lib.hid (And.intro hwl (And.intro hlw (And.intro h (And.intro hR (And.intro hB hN)))))
  have z3 := Box.new w 23 #[.pointer (some ⟨d, 0, none⟩)]
  have z4 := Box.new (w.alloc (.cells #[.pointer (some ⟨d, 0, none⟩)] 23)) 30 #[.pointer (some ⟨r, 0, none⟩)]
  have z5 := Box.new ((w.alloc (.cells #[.pointer (some ⟨d, 0, none⟩)] 23)).alloc (.cells #[.pointer (some ⟨r, 0, none⟩)] 30)) 40 #[.int .i64 dir, .int .i64 kind, .string key, .string hi, .int .i64 en.seg, .int .i64 en.at_, .int .i64 en.size, .int .i64 en.off, .int .i64 en.time, .bool en.tomb, .int .i64 n]
  have z6 := Box.new (((w.alloc (.cells #[.pointer (some ⟨d, 0, none⟩)] 23)).alloc (.cells #[.pointer (some ⟨r, 0, none⟩)] 30)).alloc (.cells #[.int .i64 dir, .int .i64 kind, .string key, .string hi, .int .i64 en.seg, .int .i64 en.at_, .int .i64 en.size, .int .i64 en.off, .int .i64 en.time, .bool en.tomb, .int .i64 n] 40)) 4 #[.bool false]
  simp only [World.size_alloc] at z4 z5 z6
  have hb1 : Below w.heap.size w ((((w.alloc (.cells #[.pointer (some ⟨d, 0, none⟩)] 23)).alloc (.cells #[.pointer (some ⟨r, 0, none⟩)] 30)).alloc (.cells #[.int .i64 dir, .int .i64 kind, .string key, .string hi, .int .i64 en.seg, .int .i64 en.at_, .int .i64 en.size, .int .i64 en.off, .int .i64 en.time, .bool en.tomb, .int .i64 n] 40)).alloc (.cells #[.bool false] 4)) := by repeat (first | exact Below.refl _ _ | refine Below.alloc ?_ (by simp <;> omega) _)
  have y3 : Box ((((w.alloc (.cells #[.pointer (some ⟨d, 0, none⟩)] 23)).alloc (.cells #[.pointer (some ⟨r, 0, none⟩)] 30)).alloc (.cells #[.int .i64 dir, .int .i64 kind, .string key, .string hi, .int .i64 en.seg, .int .i64 en.at_, .int .i64 en.size, .int .i64 en.off, .int .i64 en.time, .bool en.tomb, .int .i64 n] 40)).alloc (.cells #[.bool false] 4)) w.heap.size 23 _ := ((z3.alloc _).alloc _).alloc _
  have y4 : Box ((((w.alloc (.cells #[.pointer (some ⟨d, 0, none⟩)] 23)).alloc (.cells #[.pointer (some ⟨r, 0, none⟩)] 30)).alloc (.cells #[.int .i64 dir, .int .i64 kind, .string key, .string hi, .int .i64 en.seg, .int .i64 en.at_, .int .i64 en.size, .int .i64 en.off, .int .i64 en.time, .bool en.tomb, .int .i64 n] 40)).alloc (.cells #[.bool false] 4)) (w.heap.size + 1) 30 _ := (z4.alloc _).alloc _
  have y5 : Box ((((w.alloc (.cells #[.pointer (some ⟨d, 0, none⟩)] 23)).alloc (.cells #[.pointer (some ⟨r, 0, none⟩)] 30)).alloc (.cells #[.int .i64 dir, .int .i64 kind, .string key, .string hi, .int .i64 en.seg, .int .i64 en.at_, .int .i64 en.size, .int .i64 en.off, .int .i64 en.time, .bool en.tomb, .int .i64 n] 40)).alloc (.cells #[.bool false] 4)) (w.heap.size + 1 + 1) 40 _ := z5.alloc _
  have y6 : Box ((((w.alloc (.cells #[.pointer (some ⟨d, 0, none⟩)] 23)).alloc (.cells #[.pointer (some ⟨r, 0, none⟩)] 30)).alloc (.cells #[.int .i64 dir, .int .i64 kind, .string key, .string hi, .int .i64 en.seg, .int .i64 en.at_, .int .i64 en.size, .int .i64 en.off, .int .i64 en.time, .bool en.tomb, .int .i64 n] 40)).alloc (.cells #[.bool false] 4)) (w.heap.size + 1 + 1 + 1) 4 _ := z6
  have hs1 : ((((w.alloc (.cells #[.pointer (some ⟨d, 0, none⟩)] 23)).alloc (.cells #[.pointer (some ⟨r, 0, none⟩)] 30)).alloc (.cells #[.int .i64 dir, .int .i64 kind, .string key, .string hi, .int .i64 en.seg, .int .i64 en.at_, .int .i64 en.size, .int .i64 en.off, .int .i64 en.time, .bool en.tomb, .int .i64 n] 40)).alloc (.cells #[.bool false] 4)).heap.size = w.heap.size + 4 := by simp
  have e4 := y4.cell
  have e5 := y5.cell
  have HY := Lib.hid (And.intro hb1 (And.intro y3 (And.intro y4 (And.intro y5 (And.intro y6 hs1)))))
  clear z3 z4 z5 z6 hb1 y3 y4 y5 y6 hs1 h hR hwl hlw
  refine cfw (n := 9) ?_
  refine callsIn_of_wp_marks Try.func37 rfl trivial ?_ rfl
  simp only [Try.ntmps37, List.size_toArray, List.length_cons, List.length_nil, Nat.reduceAdd, Nat.reduceSub, Array.replicate_succ, Array.replicate_zero, List.push_toArray, List.append_toArray, List.nil_append, List.cons_append]
  gi_wp2_with (first
    | (gi_at_call 33
       refine (wfc (list8 B r v key hi xs _ (HL.out.2.2.2.1.below HY.out.1) hlo hhi (by omega))).mono ?_
       rintro e w2 ⟨u2, rfl, hr2, hb2⟩
       rw [HL.out.1, HL.out.2.1] at hr2
       obtain ⟨A2, c2, rfl⟩ := row_slice hr2
       have hsz2 := hb2.size
       rw [HY.out.2.2.2.2.2] at hsz2
       have q3 := HY.out.2.1.below hb2 HY.out.2.1.lt
       have q4 := HY.out.2.2.1.below hb2 HY.out.2.2.1.lt
       have q5 := HY.out.2.2.2.1.below hb2 HY.out.2.2.2.1.lt
       have q6 := HY.out.2.2.2.2.1.below hb2 HY.out.2.2.2.2.1.lt
       have g3 := (q3.alloc (.cells #[.slice A2 lw c2] 43)).cell
       have g5 := (q5.alloc (.cells #[.slice A2 lw c2] 43)).cell
       have H2 := Lib.hid (And.intro hr2 (And.intro hb2 (And.intro q3 (And.intro q4 (And.intro q5 q6)))))
       clear hr2 hb2 q3 q4 q5 q6 e4 e5)
    | (gi_at_call 49
       refine (wfc (all_any (some ⟨d, 0, none⟩) key hi _)).mono ?_
       rintro e w' ⟨rfl, rfl⟩))
  obtain ⟨W0, hW0⟩ : ∃ W0, (((((w2.alloc (.cells #[.slice A2 lw c2] 43)).alloc (.cells #[.pointer (some ⟨d, 0, none⟩)] 23)).alloc (.cells #[.string key] 9)).alloc (.cells #[.string hi] 9)).alloc (.cells #[.int .i64 0] 3)) = W0 := ⟨_, rfl⟩
  have p7 := Box.new w2 43 #[.slice A2 lw c2]
  have p0 := Box.new (w2.alloc (.cells #[.slice A2 lw c2] 43)) 23 #[.pointer (some ⟨d, 0, none⟩)]
  have p1 := Box.new ((w2.alloc (.cells #[.slice A2 lw c2] 43)).alloc (.cells #[.pointer (some ⟨d, 0, none⟩)] 23)) 9 #[.string key]
  have p2 := Box.new (((w2.alloc (.cells #[.slice A2 lw c2] 43)).alloc (.cells #[.pointer (some ⟨d, 0, none⟩)] 23)).alloc (.cells #[.string key] 9)) 9 #[.string hi]
  have p9 := Box.new ((((w2.alloc (.cells #[.slice A2 lw c2] 43)).alloc (.cells #[.pointer (some ⟨d, 0, none⟩)] 23)).alloc (.cells #[.string key] 9)).alloc (.cells #[.string hi] 9)) 3 #[.int .i64 0]
  simp only [World.size_alloc] at p0 p1 p2 p9
  have hE0 : ER w B (EA.mk w.heap.size (w.heap.size + 1) (w.heap.size + 1 + 1) (w.heap.size + 1 + 1 + 1) w2.heap.size (w2.heap.size + 1) (w2.heap.size + 1 + 1) (w2.heap.size + 1 + 2) (w2.heap.size + 1 + 1 + 1 + 1)) d r v ⟨dir, kind, key, hi, en, n⟩ (.slice A2 lw c2) wl 0 false xs xs W0 := by
    have hbB : Below w2.heap.size w2 W0 := by rw [← hW0]; repeat (first | exact Below.refl _ _ | refine Below.alloc ?_ (by simp <;> omega) _)
    have hb02 : Below w.heap.size w w2 := HY.out.1.trans (H2.out.2.1.mono HY.out.1.size)
    have hb00 : Below w.heap.size w W0 := hb02.trans (hbB.mono hb02.size)
    refine ⟨⟨H2.out.2.2.1.below hbB H2.out.2.2.1.lt, H2.out.2.2.2.1.below hbB H2.out.2.2.2.1.lt, H2.out.2.2.2.2.1.below hbB H2.out.2.2.2.2.1.lt, H2.out.2.2.2.2.2.below hbB H2.out.2.2.2.2.2.lt, ?_, ?_, ?_, ?_, ?_⟩, HL.out.2.2.1.next hb00, ⟨v, HL.out.2.2.2.1.below hb00, .inl rfl, fun j hj hw => ?_⟩, ?_, Chg.of_below hb00 _⟩
    · rw [← hW0]; exact (((p7.alloc _).alloc _).alloc _).alloc _
    · rw [← hW0]; exact ((p0.alloc _).alloc _).alloc _
    · rw [← hW0]; exact (p1.alloc _).alloc _
    · rw [← hW0]; exact p2.alloc _
    · rw [← hW0]; exact p9
    · have h1 := row_lt HL.out.2.2.2.1.2.1 hj
      have h2 := row_ge H2.out.1 hw
      have := HY.out.2.2.2.2.2
      omega
    · rw [HL.out.2.1]
      exact row_le (row_below H2.out.1 hbB) HY.out.1.size
  have hszW : W0.heap.size = w2.heap.size + 5 := by rw [← hW0]; simp
  rw [hW0]
  clear hW0 p7 p0 p1 p2 p9 g3 g5
  have HE := Lib.hid hE0
  clear hE0
  generalize hA : Act.mk _ _ = act0
  obtain ⟨T, pt, hbx, hTr, hfl, hso, hke⟩ := HE.out.dir
  have hso' : Sorted T.flat := by rw [hfl]; exact hso
  have hke' : KeysOk T.flat := by rw [hfl]; exact hke
  have hTS : sel key hi T.flat = wl := by rw [hfl]; exact HL.out.1
  have HT := Lib.hid (And.intro hbx (And.intro hTr (And.intro hso' (And.intro hke' (And.intro hTS (And.intro hso hke))))))
  clear hbx hTr hfl hso hke hso' hke' hTS
  have hw9 : w.heap.size ≤ w2.heap.size + 1 + 1 + 1 + 1 := by omega
  have hww : w.heap.size ≤ W0.heap.size := by omega
  refine wpIn_rangeFunc_ownM rfl (by omega) (gf := 53) (lb := #[.pointer (some ⟨w2.heap.size + 1 + 1, 0, none⟩), .pointer (some ⟨w2.heap.size + 1 + 2, 0, none⟩), .pointer (some ⟨w2.heap.size + 1, 0, none⟩)]) (by rw [← hA]; rfl) trivial (enters_of Try.func53 (by kernel_rfl) rfl)
    (SeqM.of_stops (all_stops 8 key hi hlo hhi _ _ _ (some ⟨d, 0, none⟩) pt T W0 HT.out.2.2.1 HT.out.2.2.2.1 HT.out.2.1 (.inr ⟨d, rfl, HT.out.1⟩) HE.out.eb.y1 HE.out.eb.y2 HE.out.eb.y0)) (fun h k => Kp.trans h k) (fun W l o o' _ h hc _ => kp_put W l o o' h hc) (Below.refl _ _) (fun _ => rfl)
    (fun (pre : List KE) V => ER w B (EA.mk w.heap.size (w.heap.size + 1) (w.heap.size + 1 + 1) (w.heap.size + 1 + 1 + 1) w2.heap.size (w2.heap.size + 1) (w2.heap.size + 1 + 1) (w2.heap.size + 1 + 2) (w2.heap.size + 1 + 1 + 1 + 1)) d r v ⟨dir, kind, key, hi, en, n⟩ (.slice A2 lw c2) wl (pre.length : Int) false (est en xs pre) (est en xs pre) V ∧ pre <+: wl)
    (fun c (pre : List KE) _ => c = .ret ∧ ¬ pre <+: wl)
    (OwnFrom.and (er_own (fun pre : List KE => (pre.length : Int)) (fun pre => est en xs pre) (fun pre => est en xs pre) hww) (ownFrom_pure _ _))
    (fun c => ownFrom_pure _ _)
    ⟨HE.out, List.nil_prefix⟩
    (fun (x : KE) a' V => ∃ Bx, Box V Bx 38 x.2.cells.toArray ∧ a' = { tmps := (((act0.tmps.setIfInBounds 40 (.string x.1)).setIfInBounds 41 x.2.v).setIfInBounds 10 (.string x.1)).setIfInBounds 11 (.pointer (some ⟨Bx, 0, none⟩)), defers := [] })
    (fun x a' s A B row h hg hr => by obtain ⟨Bx, h2, h3⟩ := h; exact ⟨Bx, box_own1 (β := Unit) _ Bx _ _ s A B row h2 hg hr, h3⟩)
    ?assign ?body ?done ?stop
  case assign =>
    rintro l pre x V K ⟨hE, hpf⟩ hK
    unfold encK
    rw [← hA] at hK ⊢
    gi_wp2
    refine hK _ _ ((KeepsOthers.alloc _ _).from _) (Kp.of_below (bal _ _)) ⟨hE.next (bal _ _), hpf⟩ ⟨V.heap.size, Box.new V _ _, ?_⟩
    simp only [List.setIfInBounds_toArray, List.set_cons_zero, List.set_cons_succ]
  case body =>
    rintro l pre x a' V hl ⟨rr, hr⟩ ⟨hE, hpf⟩ ⟨Bx, bX, rfl⟩ hlN
    rw [HT.out.2.2.2.2.1] at hlN
    rw [← hA]
    simp only [List.setIfInBounds_toArray, List.set_cons_zero, List.set_cons_succ]
    have hwr := hE.want
    rw [HL.out.2.1] at hwr
    obtain ⟨ad1, rfl, _, p0, p1, p2, p3, p4, p5, p6⟩ := (row_rd' hwr).ke hlN
    have hcw := row_cap hwr
    have hps := prefix_snoc (x := x) hpf hlN
    have hcx := bX.cell
    unfold En.cells at hcx
    have c9 : V.cell? ⟨w2.heap.size + 1 + 1 + 1 + 1, 0, none⟩ = some (.int .i64 (pre.length : Int)) := hE.eb.b9.cell 0
    have c7 : V.cell? ⟨w2.heap.size, 0, none⟩ = some (.slice (some ad1) lw c2) := hE.eb.b7.cell 0
    have hlw : pre.length < lw := by have := HL.out.2.1; omega
    have hn0 : (0 : Int) ≤ pre.length := by omega
    have hn1 : (pre.length : Int) < lw := by omega
    have hn2 : decide ((lw : Int) ≤ pre.length) = false := decide_eq_false (by omega)
    have hn3 : decide (lw ≤ pre.length) = false := decide_eq_false (by omega)
    have hmem : wl[pre.length] ∈ wl := List.getElem_mem hlN
    generalize wl[pre.length] = y at p0 p1 p2 p3 p4 p5 p6 hps hmem
    have hyx : y ∈ xs := by rw [← HL.out.1] at hmem; exact (List.mem_filter.1 hmem).1
    have hy64 := (HT.out.2.2.2.2.2.2 y hyx).2
    have hyz := sz64 hy64
    have hq1 : ¬ 9223372036854775807 < y.1.size + 1 := by omega
    have hkm : (y.1 ++ ⟨#[0]⟩).size ≤ maxLen := by rw [ByteArray.size_append]; unfold maxLen; show y.1.size + 1 ≤ _; omega
    have HV := Lib.hid (And.intro hE (And.intro hps (And.intro hpf (And.intro hyz hkm))))
    clear hE hps bX hr hlN hpf hmem hyx hwr hyz hy64 hkm
    by_cases hxy : y = x
    · subst hxy
      gi_wp2
      refine wpIn_region_round (by kernel_rfl) (by kernel_rfl) (by kernel_rfl) ?_
      repeat (quiet_step_in (fail))
      refine wpQuietIn_nil ?_
      intro W1 hw'
      obtain ⟨nq, hW1⟩ := hw'
      have hE1 := HV.out.1.next (below_to (Below.refl _ _) hW1)
      have hG1 := GK.of_below (below_to (Below.refl _ V) hW1)
      have c91 : W1.cell? ⟨w2.heap.size + 1 + 1 + 1 + 1, 0, none⟩ = some (.int .i64 (pre.length : Int)) := hE1.eb.b9.cell 0
      have f91 := hE1.eb.b9.free 0
      have l91 := hE1.eb.b9.lt
      simp only at f91 l91
      have hE2 := hE1.nset hw9 ((pre.length : Int) + 1)
      simp only at hE2
      have c32 : (W1.setCell ⟨w2.heap.size + 1 + 1 + 1 + 1, 0, none⟩ (.int .i64 ((pre.length : Int) + 1))).cell? ⟨w.heap.size, 0, none⟩ = some (.pointer (some ⟨d, 0, none⟩)) := hE2.1.eb.b3.cell 0
      have hpl : (pre.length : Int) < 9000000000000000 := by have := HL.out.2.1; omega
      have H2 := Lib.hid (And.intro hE2.1 (hG1.trans hE2.2))
      clear hE1 hG1 hE2 hW1 p0 p1 p2 p3 p4 p5 p6 hcx c9 c7
      obtain ⟨L, hL⟩ : ∃ L, est en xs pre = L := ⟨_, rfl⟩
      have hLn : L.length ≤ 3000000 := by rw [← hL]; exact Nat.le_trans (est_pre en HT.out.2.2.2.2.2.1 (by rw [← HL.out.1]; exact HT.out.2.2.2.2.2.1.filter _) (fun z hz => by rw [← HL.out.1] at hz; exact (List.mem_filter.1 hz).1) HV.out.2.2.1) (by have := HL.out.2.2.2.2.2; omega)
      have hL1n : (rstep L y.1).length ≤ 3000000 := Nat.le_trans (rstep_len L y.1) hLn
      have hBw := HL.out.2.2.2.2.1
      obtain ⟨⟨o, b⟩, hoa⟩ : ∃ a, a = eA L y.1 := ⟨_, rfl⟩
      obtain ⟨ky, hky⟩ : ∃ ky, y.1 ++ ⟨#[0]⟩ = ky := ⟨_, rfl⟩
      have hkz : ky.size ≤ maxLen := by rw [← hky]; exact HV.out.2.2.2.2
      obtain ⟨⟨o2, b2, z2⟩, hpa⟩ : ∃ a, a = pA (rstep L y.1) ky := ⟨_, rfl⟩
      have HA := Lib.hid (And.intro hL (And.intro hLn (And.intro hL1n (And.intro hoa (And.intro hky (And.intro hkz hpa))))))
      clear hL hLn hL1n hoa hky hkz hpa
      gi_wp2_with (first
        | (gi_at_call 19
           refine (wfc (rem_all d y.1 L _ (by rw [← HA.out.1]; exact H2.out.1.dir) HV.out.2.2.2.1 (by have := HA.out.2.1; omega))).mono ?_
           rintro e w3 ⟨rfl, hd3, hc3⟩
           rw [← HA.out.2.2.2.1]
           have hp := H2.out.1.prog hc3 hd3
           have hE3 := hp.1.next (bal w3 (.cells #[.int .i64 o.seg, .int .i64 o.at_, .int .i64 o.size, .int .i64 o.off, .int .i64 o.time, .bool o.tomb] 38))
           have e43 : (w3.alloc (.cells #[.int .i64 o.seg, .int .i64 o.at_, .int .i64 o.size, .int .i64 o.off, .int .i64 o.time, .bool o.tomb] 38)).cell? ⟨w.heap.size + 1, 0, none⟩ = some (.pointer (some ⟨r, 0, none⟩)) := hE3.eb.b4.cell 0
           have H3 := Lib.hid (And.intro hE3 ((H2.out.2.trans hp.2).trans (GK.of_below (bal w3 (.cells #[.int .i64 o.seg, .int .i64 o.at_, .int .i64 o.size, .int .i64 o.off, .int .i64 o.time, .bool o.tomb] 38)))))
           clear hp hE3 hd3 hc3 c32 c91 f91)
        | (gi_at_call 11
           rw [HA.out.2.2.2.2.1]
           refine (wfc (put_all d ky en (rstep L y.1) _ H4.out.1.dir HA.out.2.2.2.2.2.1 (by have := HA.out.2.2.1; omega))).mono ?_
           rintro e w5 ⟨rfl, hd5, hc5⟩
           rw [← HA.out.2.2.2.2.2.2]
           have hp := H4.out.1.prog hc5 hd5
           have hE5 := hp.1.next (bal w5 (.cells #[.int .i64 o2.seg, .int .i64 o2.at_, .int .i64 o2.size, .int .i64 o2.off, .int .i64 o2.time, .bool o2.tomb] 38))
           have e45 : (w5.alloc (.cells #[.int .i64 o2.seg, .int .i64 o2.at_, .int .i64 o2.size, .int .i64 o2.off, .int .i64 o2.time, .bool o2.tomb] 38)).cell? ⟨w.heap.size + 1, 0, none⟩ = some (.pointer (some ⟨r, 0, none⟩)) := hE5.eb.b4.cell 0
           have e55 := hE5.eb.b5.cell
           simp only at e55
           have H5 := Lib.hid (And.intro hE5 ((H4.out.2.trans hp.2).trans (GK.of_below (bal w5 (.cells #[.int .i64 o2.seg, .int .i64 o2.at_, .int .i64 o2.size, .int .i64 o2.off, .int .i64 o2.time, .bool o2.tomb] 38)))))
           clear hp hE5 hd5 hc5 e34 e54)
        | (gi_at_call 20
           obtain ⟨v3, hr3, hdoc⟩ := H3.out.1.doc
           refine (wfc (rem8_all B r v3 y.1 L _ (by rw [← HA.out.1]; exact hr3) HV.out.2.2.2.1 (by have := HA.out.2.1; omega) (by have := H3.out.1.chg.size; omega))).mono ?_
           rintro e w4 ⟨rfl, hu4⟩
           rw [← HA.out.2.2.2.1]
           have hp := hdoc _ _ hu4
           have hO := Box.new w3 38 #[.int .i64 o.seg, .int .i64 o.at_, .int .i64 o.size, .int .i64 o.off, .int .i64 o.time, .bool o.tomb]
           have hO4 := hO.chg hu4.2 (by rintro (e | e); exact box_box hr3.1 hO (by decide) e.symm; exact box_row hO hr3.2.1 (by decide) e.symm)
           have hoc := (hO4.alloc (.cells #[.int .i64 o.seg, .int .i64 o.at_, .int .i64 o.size, .int .i64 o.off, .int .i64 o.time, .bool o.tomb] 38)).cell
           have hnc := (Box.new w4 38 #[.int .i64 o.seg, .int .i64 o.at_, .int .i64 o.size, .int .i64 o.off, .int .i64 o.time, .bool o.tomb]).cell
           have hE4 := hp.1.next (bal w4 (.cells #[.int .i64 o.seg, .int .i64 o.at_, .int .i64 o.size, .int .i64 o.off, .int .i64 o.time, .bool o.tomb] 38))
           have e34 : (w4.alloc (.cells #[.int .i64 o.seg, .int .i64 o.at_, .int .i64 o.size, .int .i64 o.off, .int .i64 o.time, .bool o.tomb] 38)).cell? ⟨w.heap.size, 0, none⟩ = some (.pointer (some ⟨d, 0, none⟩)) := hE4.eb.b3.cell 0
           have e54 := hE4.eb.b5.cell
           simp only at e54
           have H4 := Lib.hid (And.intro hE4 ((H3.out.2.trans hp.2).trans (GK.of_below (bal w4 (.cells #[.int .i64 o.seg, .int .i64 o.at_, .int .i64 o.size, .int .i64 o.off, .int .i64 o.time, .bool o.tomb] 38)))))
           clear hp hE4 hu4 hdoc hr3 hO hO4 e43)
        | (gi_at_call 12
           obtain ⟨v5, hr5, hdoc⟩ := H5.out.1.doc
           rw [HA.out.2.2.2.2.1]
           refine (wfc (put8_all B r v5 ky en (rstep L y.1) _ hr5 HA.out.2.2.2.2.2.1 (by have := HA.out.2.2.1; omega) (by have := H5.out.1.chg.size; omega))).mono ?_
           rintro e w6 ⟨rfl, hu6⟩
           rw [← HA.out.2.2.2.2.2.2]
           have hp := hdoc _ _ hu6
           have hE6 := hp.1.next (bal w6 (.cells #[.int .i64 o2.seg, .int .i64 o2.at_, .int .i64 o2.size, .int .i64 o2.off, .int .i64 o2.time, .bool o2.tomb] 38))
           have H6 := Lib.hid (And.intro hE6 ((H5.out.2.trans hp.2).trans (GK.of_below (bal w6 (.cells #[.int .i64 o2.seg, .int .i64 o2.at_, .int .i64 o2.size, .int .i64 o2.off, .int .i64 o2.time, .bool o2.tomb] 38)))))
           clear hp hE6 hu6 hdoc hr5 e45 e55))
      have hEF := H6.out.1
      have hGF := H6.out.2
      refine ⟨keeps_up hGF.1 (Nat.zero_le _), hGF.2, ?_, HV.out.2.1.2 (by first | exact rfl | trivial)⟩
      rw [est_snoc, HA.out.1]
      unfold estep
      rw [HA.out.2.2.2.2.1]
      simpa using hEF
    · have hnq := fun W => ke_neq y x hxy W
      gi_wp2
      refine wpIn_region_round (by kernel_rfl) (by kernel_rfl) (by kernel_rfl) ?_
      repeat (quiet_step_in (fail))
      refine wpQuietIn_nil ?_
      intro W1 hw'
      obtain ⟨nq, hW1⟩ := hw'
      have hE1 := HV.out.1.next (below_to (Below.refl _ _) hW1)
      have hG1 := GK.of_below (below_to (Below.refl _ V) hW1)
      have c61 : W1.cell? ⟨w.heap.size + 1 + 1 + 1, 0, none⟩ = some (.bool false) := hE1.eb.b6.cell 0
      have f61 := hE1.eb.b6.free 0
      have l61 := hE1.eb.b6.lt
      simp only at f61 l61
      have HG1 := Lib.hid hG1
      clear hE1 hG1 hW1 p0 p1 p2 p3 p4 p5 p6 hcx c9 c7 hnq
      gi_wp2
      exact ⟨(keeps_up HG1.out.1 (Nat.zero_le _)).trans ((KeepsOthers.setCell _ _ _).from _), rfl, fun h => hxy (HV.out.2.1.1 h)⟩
  case stop =>
    rintro D c pre V hD hpre ⟨rfl, hnp⟩ hK
    rw [HT.out.2.2.2.2.1] at hpre
    exact absurd hpre hnp
  case done =>
    rintro D ys V hD hys ⟨hE, hpf⟩ hK
    rw [HT.out.2.2.2.2.1] at hys
    subst hys
    rw [← hA]
    have hlw := HL.out.2.1
    have c9 : V.cell? ⟨w2.heap.size + 1 + 1 + 1 + 1, 0, none⟩ = some (.int .i64 (lw : Int)) := by rw [← hlw]; exact hE.eb.b9.cell 0
    have c7 : V.cell? ⟨w2.heap.size, 0, none⟩ = some (.slice A2 lw c2) := hE.eb.b7.cell 0
    have hVs : w2.heap.size + 5 ≤ V.heap.size := by have := hE.eb.b9.lt; simp only at this; omega
    have hDl : D < V.heap.size := (Array.getElem?_eq_some_iff.1 hK).1
    obtain ⟨X, hX⟩ : ∃ X, est en xs ys = X := ⟨_, rfl⟩
    have hXn : X.length ≤ xs.length := by rw [← hX]; exact est_pre en HT.out.2.2.2.2.2.1 (by rw [← HL.out.1]; exact HT.out.2.2.2.2.2.1.filter _) (fun z hz => by rw [← HL.out.1] at hz; exact (List.mem_filter.1 hz).1) (List.prefix_refl _)
    rw [hX] at hE
    have HV := Lib.hid (And.intro hE (And.intro hK hXn))
    clear hE hK hpf hlw hX hXn
    gi_wp2
    have bg := Boxed.new V 43 (.slice none 0 0)
    have hE2 := HV.out.1.next (bal V (.cells #[.slice none 0 0] 43))
    have hbv := bal V (.cells #[.slice none 0 0] 43)
    obtain ⟨W2, hW2⟩ : ∃ W2, V.alloc (.cells #[.slice none 0 0] 43) = W2 := ⟨_, rfl⟩
    have hsz2 : W2.heap.size = V.heap.size + 1 := by rw [← hW2]; simp
    rw [hW2] at bg hE2 hbv ⊢
    clear hW2 c9 c7
    obtain ⟨T2, pt2, hbx2, hTr2, hfl2, hso2, hke2⟩ := hE2.dir
    have hso2' : Sorted T2.flat := by rw [hfl2]; exact hso2
    have hke2' : KeysOk T2.flat := by rw [hfl2]; exact hke2
    obtain ⟨zl, hzl⟩ : ∃ zl, sel key hi X = zl := ⟨_, rfl⟩
    have hzT : sel key hi T2.flat = zl := by rw [hfl2]; exact hzl
    have hzn : zl.length ≤ 3000000 := by rw [← hzl]; exact Nat.le_trans (List.length_filter_le _ _) (by have := HV.out.2.2; omega)
    have H2 := Lib.hid (And.intro hE2 (And.intro hbv (And.intro hbx2 (And.intro hTr2 (And.intro hso2' (And.intro hke2' (And.intro hzT (And.intro hzl hzn))))))))
    clear hE2 hbv hbx2 hTr2 hfl2 hso2 hke2 hso2' hke2' hzT hzl hzn
    generalize hA2 : Act.mk _ _ = act1
    refine wpIn_rangeFunc_ownM rfl (by omega) (gf := 53) (lb := #[.pointer (some ⟨w2.heap.size + 1 + 1, 0, none⟩), .pointer (some ⟨w2.heap.size + 1 + 2, 0, none⟩), .pointer (some ⟨w2.heap.size + 1, 0, none⟩)]) (by rw [← hA2]; rfl) trivial (enters_of Try.func53 (by kernel_rfl) rfl)
      (SeqM.of_stops (all_stops 8 key hi hlo hhi _ _ _ (some ⟨d, 0, none⟩) pt2 T2 W2 H2.out.2.2.2.2.1 H2.out.2.2.2.2.2.1 H2.out.2.2.2.1 (.inr ⟨d, rfl, H2.out.2.2.1⟩) H2.out.1.eb.y1 H2.out.1.eb.y2 H2.out.1.eb.y0)) (fun h k => Kp.trans h k) (fun W l o o' _ h hc _ => kp_put W l o o' h hc) (Below.refl _ _) (fun _ => rfl)
      (fun (pre : List KE) V' => (∃ u, Boxed V' V.heap.size 43 u ∧ V'.ownsRow V.heap.size 58 7 u pre.length (pre.flatMap keC) ∧ True) ∧ Below V.heap.size V V')
      (fun _ _ _ => False)
      (OwnFrom.and (Own.from (holdsRow_own V.heap.size V.heap.size 43 58 7 (fun pre : List KE => pre.length) (fun pre : List KE => pre.flatMap keC) (fun _ _ => True)) _) (ownFrom_below (Nat.le_refl _) (by omega)))
      (fun _ _ _ _ _ hs _ _ => hs)
      ⟨⟨_, bg, World.ownsRow_nil _ _ _ _, trivial⟩, H2.out.2.1⟩
      (fun (x : KE) a' V' => ∃ Bx, V.heap.size + 1 ≤ Bx ∧ Box V' Bx 38 x.2.cells.toArray ∧ a' = { tmps := (((act1.tmps.setIfInBounds 111 (.string x.1)).setIfInBounds 112 x.2.v).setIfInBounds 23 (.string x.1)).setIfInBounds 24 (.pointer (some ⟨Bx, 0, none⟩)), defers := [] })
      (fun x a' s A B row h hg hr => by obtain ⟨Bx, h1, h2, h3⟩ := h; exact ⟨Bx, h1, box_own1 (β := Unit) _ Bx _ _ s A B row h2 hg hr, h3⟩)
      ?assign2 ?body2 ?done2 ?stop2
    case assign2 =>
      rintro l pre x V' K ⟨⟨u, hv, hrow, _⟩, hB'⟩ hK
      unfold encK
      rw [← hA2] at hK ⊢
      have hB2 := hB'.size
      have hvl := hv.lt
      gi_wp2
      refine hK _ _ ((KeepsOthers.alloc _ _).from _) (Kp.of_below (bal _ _)) ⟨⟨u, hv.alloc _, hrow.alloc _, trivial⟩, hB'.alloc hB2 _⟩ ⟨V'.heap.size, by omega, Box.new V' _ _, ?_⟩
      simp only [List.setIfInBounds_toArray, List.set_cons_zero, List.set_cons_succ]
    case body2 =>
      rintro l pre x a' W hl ⟨rr, hr⟩ ⟨⟨u, hv, hrow, _⟩, hB'⟩ ⟨Bx, hBx, bX, rfl⟩ hlN
      rw [H2.out.2.2.2.2.2.2.1] at hlN
      rw [← hA2]
      simp only [List.setIfInBounds_toArray, List.set_cons_zero, List.set_cons_succ]
      have hc := hv.cell
      have hcx := bX.cell
      unfold En.cells at hcx
      have hN2 : pre.length + 1 ≤ 3000000 := by have := H2.out.2.2.2.2.2.2.2.2; omega
      have HS := Lib.hid (And.intro hv (And.intro hrow (And.intro hB' bX)))
      have hkr : ¬ KpT 58 := by unfold KpT; decide
      have hkb : ¬ KpT 43 := by unfold KpT; decide
      have HK := Lib.hid (And.intro hkr hkb)
      have hvl := hv.lt
      clear hr hv hrow hB' bX hkr hkb hlN
      gi_wp2_with (first
        | (gi_at_builtin
           refine wpListIn_append_own _ rfl (.tmp 113) (.tmp 117) 43 rfl V.heap.size 58 i0 _ 7 64 Try.underlying43 hi0 hz0 hs0 hy0 rfl (by decide) u pre.length (pre.flatMap keC) rfl (HS.out.2.1.alloc _) ⟨W.heap.size, 0, none⟩ 1 1 (keC x) rfl rfl (World.news_of_block (cs := (keC x).toArray) (t := 58) (fr := (0, 0)) (heap_alloc_new W _)) (by simp [keC, En.cells, Value.oneCell']) (by unfold maxLen; omega) (by omega) (by have := HS.out.2.2.1.size; simp; omega) ?_
           intro v' w1 hown' hgrow _
           obtain ⟨g', cap', rfl⟩ := ownsRow_succ hown'
           obtain ⟨hv1, hv2, hr2, hk2, hb2⟩ := HS.out.1.appended (by decide) HS.out.2.1 HS.out.2.2.1.size (Nat.le_refl _) hown' hgrow
           have hc1 := hv1.cell
           have hf1 := hv1.frozen
           have hkp1 : Kp W w1 := (Kp.of_below (bal W (.cells (keC x).toArray 58))).trans (Kp.grown hgrow (kp_row (HS.out.2.1.alloc _) HK.out.1))
           have HS2 := Lib.hid (And.intro hv2 (And.intro hr2 (And.intro hk2 (And.intro hb2 (hkp1.trans (Kp.grown (grownBy_setCell' w1 V.heap.size (.slice (some ⟨g', 0, none⟩) (pre.length + 1) cap')) (fun k e => by cases e; exact kp_box hv1 HK.out.2)))))))
           clear hv1 hv2 hr2 hk2 hb2 hown' hgrow hkp1))
      exact ⟨HS2.out.2.2.1.from _, HS2.out.2.2.2.2, ⟨⟨_, HS2.out.1, by simpa using HS2.out.2.1, trivial⟩, HS.out.2.2.1.trans HS2.out.2.2.2.1⟩⟩
    case stop2 =>
      rintro D2 c pre V2 hD2 hpre hf hK2
      exact hf.elim
    case done2 =>
      rintro D2 zs V2 hD2 hzs ⟨⟨u, hv, hrow, _⟩, hB2⟩ hK2
      rw [H2.out.2.2.2.2.2.2.1] at hzs
      subst hzs
      rw [← hA2]
      have hE3 := HV.out.1.next hB2
      obtain ⟨A3, c3, rfl⟩ := row_slice hrow
      obtain ⟨lz, hlz⟩ : ∃ lz, zs.length = lz := ⟨_, rfl⟩
      rw [hlz] at hv hrow
      have hV2 := hB2.size
      have hD2l : D2 < V2.heap.size := (Array.getElem?_eq_some_iff.1 hK2).1
      have HW := Lib.hid (And.intro hE3 (And.intro hv (And.intro hrow (And.intro hB2 (And.intro hK2 hlz)))))
      clear hE3 hv hrow hB2 hK2 hlz
      gi_wp2
      refine wpIn_wide.2 (wp_mono ?_ qn_mono)
      obtain ⟨W3, hW3⟩ : ∃ W3, V2.drew = W3 := ⟨_, rfl⟩
      have hb3 : Below V2.heap.size V2 W3 := by rw [← hW3]; exact (Below.refl _ V2).drew
      have hE3 := HW.out.1.next hb3
      have hG3 : Boxed W3 V.heap.size 43 (.slice A3 lz c3) := by rw [← hW3]; exact HW.out.2.1.kept (grown_drew1 V2) (by simp)
      have hR3 := row_below HW.out.2.2.1 hb3
      have hs3 := hb3.size
      have hS0 : (fun w' : World => w'.cell? ⟨V.heap.size, 0, none⟩ = some (.slice A3 lz c3) ∧ w'.cell? ⟨w.heap.size + 1, 0, none⟩ = some (.pointer (some ⟨r, 0, none⟩)) ∧ w'.cell? ⟨w.heap.size + 1 + 1, 2, none⟩ = some (.string key) ∧ w'.cell? ⟨w.heap.size + 1 + 1, 3, none⟩ = some (.string hi)) W3 := ⟨hG3.cell, hE3.eb.b4.cell 0, hE3.eb.b5.cell 2, hE3.eb.b5.cell 3⟩
      have H3 := Lib.hid (And.intro hE3 (And.intro hG3 (And.intro hR3 hb3)))
      clear hE3 hG3 hR3 hb3
      refine WT.start (fun w' : World => w'.cell? ⟨V.heap.size, 0, none⟩ = some (.slice A3 lz c3) ∧ w'.cell? ⟨w.heap.size + 1, 0, none⟩ = some (.pointer (some ⟨r, 0, none⟩)) ∧ w'.cell? ⟨w.heap.size + 1 + 1, 2, none⟩ = some (.string key) ∧ w'.cell? ⟨w.heap.size + 1 + 1, 3, none⟩ = some (.string hi)) 8 (by kernel_rfl) ?_
      rw [hW3]
      clear hW3
      refine WT.take 0 (v := ?_) rfl (by kernel_rfl) (by kernel_rfl) (by kernel_rfl) (by kernel_rfl) (fun _ _ _ h => h) (Or.inl ⟨by rfl, ?hy⟩) hS0 ?_
      case hy => first | (intro w hSw; go_simp; done) | (intro w hSw; go_simp; with_reducible rfl)
      simp only [Act.put, List.setIfInBounds_toArray, List.set_cons_zero, List.set_cons_succ]
      refine WT.take 1 (v := ?_) rfl (by kernel_rfl) (by kernel_rfl) (by kernel_rfl) (by kernel_rfl) (fun _ _ _ h => h) (Or.inl ⟨by rfl, ?hy⟩) hS0 ?_
      case hy => first | (intro w hSw; go_simp; done) | (intro w hSw; go_simp; with_reducible rfl)
      simp only [Act.put, List.setIfInBounds_toArray, List.set_cons_zero, List.set_cons_succ]
      refine WT.take 2 (v := ?_) rfl (by kernel_rfl) (by kernel_rfl) (by kernel_rfl) (by kernel_rfl) (fun _ _ _ h => h) (Or.inl ⟨by rfl, ?hy⟩) hS0 ?_
      case hy => first | (intro w hSw; go_simp; done) | (intro w hSw; go_simp; with_reducible rfl)
      simp only [Act.put, List.setIfInBounds_toArray, List.set_cons_zero, List.set_cons_succ]
      refine WT.take 3 (v := ?_) rfl (by kernel_rfl) (by kernel_rfl) (by kernel_rfl) (by kernel_rfl) (fun _ _ _ h => h) (Or.inl ⟨by rfl, ?hy⟩) hS0 ?_
      case hy => first | (intro w hSw; go_simp; done) | (intro w hSw; go_simp; with_reducible rfl)
      simp only [Act.put, List.setIfInBounds_toArray, List.set_cons_zero, List.set_cons_succ]
      refine WT.take 4 (v := ?_) rfl (by kernel_rfl) (by kernel_rfl) (by kernel_rfl) (by kernel_rfl) (fun _ _ _ h => h) (Or.inl ⟨by rfl, ?hy⟩) hS0 ?_
      case hy => first | (intro w hSw; go_simp; done) | (intro w hSw; go_simp; with_reducible rfl)
      simp only [Act.put, List.setIfInBounds_toArray, List.set_cons_zero, List.set_cons_succ]
      refine WT.take 5 (v := ?_) rfl (by kernel_rfl) (by kernel_rfl) (by kernel_rfl) (by kernel_rfl) (fun _ _ _ h => h) (Or.inl ⟨by rfl, ?hy⟩) hS0 ?_
      case hy => first | (intro w hSw; go_simp; done) | (intro w hSw; go_simp; with_reducible rfl)
      simp only [Act.put, List.setIfInBounds_toArray, List.set_cons_zero, List.set_cons_succ]
      refine WT.step 6 rfl (by kernel_rfl) (by decide) fun K hK => ?_
      go_simp
      go_at_call 33
      obtain ⟨vr, hvr, hvr2, hvr3⟩ := H3.out.1.ref
      refine (list8 B r vr key hi X _ hvr hlo hhi (by have := HV.out.2.2; omega)).mono ?_
      rintro e w8 ⟨u8, rfl, hr8, hb8⟩
      rw [H2.out.2.2.2.2.2.2.2.1, HW.out.2.2.2.2.2] at hr8
      obtain ⟨A8, c8, rfl⟩ := row_slice hr8
      have hE8 := H3.out.1.next hb8
      have hG8 : Boxed w8 V.heap.size 43 (.slice A3 lz c3) := (hb8.block V.heap.size (by have := HW.out.2.1.lt; omega)).trans H3.out.2.1
      have hS8 : (fun w' : World => w'.cell? ⟨V.heap.size, 0, none⟩ = some (.slice A3 lz c3) ∧ w'.cell? ⟨w.heap.size + 1, 0, none⟩ = some (.pointer (some ⟨r, 0, none⟩)) ∧ w'.cell? ⟨w.heap.size + 1 + 1, 2, none⟩ = some (.string key) ∧ w'.cell? ⟨w.heap.size + 1 + 1, 3, none⟩ = some (.string hi)) w8 := ⟨hG8.cell, hE8.eb.b4.cell 0, hE8.eb.b5.cell 2, hE8.eb.b5.cell 3⟩
      have hs8 := hb8.size
      have H8 := Lib.hid (And.intro hE8 (And.intro hG8 (And.intro (row_rd' (row_below H3.out.2.2.1 hb8)) (And.intro (row_rd' hr8) hb8))))
      clear hE8 hG8 hr8 hb8 hvr hvr2 hvr3 hS0
      go_simp
      refine hK.out _ _ hS8 ?_
      clear hK K
      refine WT.step 7 rfl (by kernel_rfl) (by decide) fun K hK => ?_
      go_simp
      go_at_call 28
      refine (sameItems_eq A3 A8 lz c3 c8 zs _ H8.out.2.2.1 H8.out.2.2.2.1 HW.out.2.2.2.2.2 (by have := HW.out.2.2.2.2.2; have := H2.out.2.2.2.2.2.2.2.2; omega)).mono ?_
      rintro e w9 ⟨rfl, hb9⟩
      have hE9 := H8.out.1.next hb9
      have hG9 : Boxed w9 V.heap.size 43 (.slice A3 lz c3) := (hb9.block V.heap.size (by have := HW.out.2.1.lt; omega)).trans H8.out.2.1
      have hS9 : (fun w' : World => w'.cell? ⟨V.heap.size, 0, none⟩ = some (.slice A3 lz c3) ∧ w'.cell? ⟨w.heap.size + 1, 0, none⟩ = some (.pointer (some ⟨r, 0, none⟩)) ∧ w'.cell? ⟨w.heap.size + 1 + 1, 2, none⟩ = some (.string key) ∧ w'.cell? ⟨w.heap.size + 1 + 1, 3, none⟩ = some (.string hi)) w9 := ⟨hG9.cell, hE9.eb.b4.cell 0, hE9.eb.b5.cell 2, hE9.eb.b5.cell 3⟩
      have c69 : w9.cell? ⟨w.heap.size + 1 + 1 + 1, 0, none⟩ = some (.bool false) := hE9.eb.b6.cell 0
      have f69 := hE9.eb.b6.free 0
      have l69 := hE9.eb.b6.lt
      simp only at f69 l69
      have H9 := Lib.hid (And.intro hE9 hb9)
      clear hE9 hG9 hb9 hS8
      go_simp
      refine hK.out _ _ hS9 ?_
      clear hK K
      refine WT.last 8 rfl (by kernel_rfl) rfl fun K hK => ?_
      go_simp
      refine hK.out _ _ ?_
      clear hK K
      refine WT.done (by kernel_rfl) (qn_in ?_)
      have hb29 : Below V2.heap.size V2 w9 := H3.out.2.2.2.trans ((H8.out.2.2.2.2.trans (H9.out.2.mono hs8)).mono hs3)
      have hEs := (H9.out.1.bset (by show w.heap.size ≤ w.heap.size + 1 + 1 + 1; omega) true).1
      simp only at hEs
      obtain ⟨WF, hWF⟩ : ∃ WF, w9.setCell ⟨w.heap.size + 1 + 1 + 1, 0, none⟩ (.bool true) = WF := ⟨_, rfl⟩
      have hk2 : WF.heap[D2]? = some (.deferred (some [])) := by
        rw [← hWF]
        exact (KeepsOthers.setCell _ _ _).same D2 _ ((hb29.block D2 hD2l).trans HW.out.2.2.2.2.1) rfl
      have hk1 : WF.heap[D]? = some (.deferred (some [])) := by
        rw [← hWF]
        refine (KeepsOthers.setCell _ _ _).same D _ ((hb29.block D (by omega)).trans ((HW.out.2.2.2.1.block D hDl).trans HV.out.2.1)) rfl
      have hk1' : (WF.putObj D2 (.deferred none)).heap[D]? = some (.deferred (some [])) := (World.putObj_heap_other (by omega)).trans hk1
      have hno : ∀ (U : World) (q : Nat) (o' : Obj), U.heap[q]? = some (.deferred (some [])) → w.heap.size ≤ q → ER w B (EA.mk w.heap.size (w.heap.size + 1) (w.heap.size + 1 + 1) (w.heap.size + 1 + 1 + 1) w2.heap.size (w2.heap.size + 1) (w2.heap.size + 1 + 1) (w2.heap.size + 1 + 2) (w2.heap.size + 1 + 1 + 1 + 1)) d r v ⟨dir, kind, key, hi, en, n⟩ (.slice A2 lw c2) ys (lw : Int) true X X U → ER w B (EA.mk w.heap.size (w.heap.size + 1) (w.heap.size + 1 + 1) (w.heap.size + 1 + 1 + 1) w2.heap.size (w2.heap.size + 1) (w2.heap.size + 1 + 1) (w2.heap.size + 1 + 2) (w2.heap.size + 1 + 1 + 1 + 1)) d r v ⟨dir, kind, key, hi, en, n⟩ (.slice A2 lw c2) ys (lw : Int) true X X (U.putObj q o') := fun U q o' hq hwq he =>
        he.other (S := fun k => k = q) ⟨rfl, rfl, rfl, by simp, fun k _ hn => World.putObj_heap_other hn⟩ (fun k hk cs t e => by subst hk; rw [hq] at e; cases e) (fun k hk => by omega)
      rw [hWF] at hEs ⊢
      rw [HL.out.2.1] at hEs
      have hE5 := hno _ D (.deferred none) hk1' (by omega) (hno _ D2 (.deferred none) hk2 (by omega) hEs)
      have hcx : ((WF.putObj D2 (.deferred none)).putObj D (.deferred none)).cell? ⟨w.heap.size + 1 + 1 + 1, 0, none⟩ = some (.bool true) := hE5.eb.b6.cell 0
      have HF := Lib.hid (And.intro hk2 (And.intro hk1' (And.intro hE5 hcx)))
      clear hk2 hk1 hk1' hno hE5 hcx hEs hWF hb29
      gi_wp2
      refine ⟨by simp, .inl ⟨_, _, rfl, run_takeDeferred HF.out.1, ⟨by simp, .inl ⟨_, _, rfl, run_takeDeferred HF.out.2.1, ?_⟩⟩⟩⟩
      refine ⟨.bool true, ?_, rfl, ?_⟩
      · have hcx := HF.out.2.2.2
        simp [results, Try.results37, go_sem, hcx]
      · obtain ⟨vr, hvr, hvr2, _⟩ := HF.out.2.2.1.ref
        exact ⟨X, vr, HV.out.2.2, HF.out.2.2.1.dir, hvr, hvr2, HF.out.2.2.1.chg⟩
end Go.Proofs.Ytglmhpmjebjcgaa
/- KeydirMoves: told: erode; all kinds together. -/
namespace Go.Proofs.Ytglmhpmjebjcgaa
open Go.RowKit Go.Maps

set_option maxRecDepth 100000 in
set_option maxHeartbeats 8000000 in
theorem told_erode (B wb N ns : Nat) (Lv : Value) (ds rs : Nat → Nat) (vs : Nat → Value) (ls : Nat → List KE) (g c g' c' : Nat) (dir : Int) (key hi : ByteArray) (en : En) (n : Int) (w : World) (h : DW B wb Lv N (St.at ns ds rs vs ls g c g' c') w) (hN : N ≤ 2000000) (hz1 : key.size ≤ maxLen) (hz2 : hi.size ≤ maxLen) :
    Calls Try.prog 6 #[.pointer (some ⟨wb, 0, none⟩), Mv.v ⟨dir, 11, key, hi, en, n⟩] w (TR B wb Lv N (St.at ns ds rs vs ls g c g' c') w) := by
  obtain ⟨hn0, hc1, hc2⟩ := h.caps
  have hi0 : modK dir ns < ns := modK_lt dir (by omega)
  obtain ⟨i, hie⟩ : ∃ i, i = modK dir ns := ⟨_, rfl⟩
  have hmod := fun W => mod_is dir ns (by omega) (by omega) W
  rw [← hie] at hi0
  simp only [← hie] at hmod
  have hb0 := bal w (.cells #[.int .i64 dir, .int .i64 11, .string key, .string hi, .int .i64 en.seg, .int .i64 en.at_, .int .i64 en.size, .int .i64 en.off, .int .i64 en.time, .bool en.tomb, .int .i64 n] 40)
  have hX0 := Box.new w 40 #[.int .i64 dir, .int .i64 11, .string key, .string hi, .int .i64 en.seg, .int .i64 en.at_, .int .i64 en.size, .int .i64 en.off, .int .i64 en.time, .bool en.tomb, .int .i64 n]
  have hD0 := h.next hb0
  have hbc := (hD0.look hi0).2
  have HM := Lib.hid hmod
  have H := Lib.hid (And.intro h (And.intro hD0 (And.intro hX0 hb0)))
  have hxc := hX0.cell
  have hi1 : (0 : Int) ≤ i := by omega
  have hi2 : (i : Int) < ns := by omega
  have hsx := hb0.size
  clear h hmod hb0 hX0 hD0 hie
  go_enter Try.func6, Try.ntmps6
  go_wp2
  go_quiet ((go_at_call 10; exact Calls.quiet_of_same (HM.out _)))
  clear hbc hxc
  have hb1 := below_drewN H.out.2.2.2 nq
  have hX1 := H.out.2.2.1.drewN nq
  have hD1 := H.out.2.1.next (below_drewN (Below.refl _ _) nq)
  generalize hW1 : (w.alloc (.cells #[.int .i64 dir, .int .i64 11, .string key, .string hi, .int .i64 en.seg, .int .i64 en.at_, .int .i64 en.size, .int .i64 en.off, .int .i64 en.time, .bool en.tomb, .int .i64 n] 40)).drewN nq = W1 at hb1 hX1 hD1 ⊢
  clear hW1
  obtain ⟨⟨hcD, hcR⟩, hbc⟩ := hD1.look hi0
  have hxc := hX1.cell
  have hnl : (ls i).length ≤ N := hD1.len i hi0
  have hs1 := hb1.size
  have H1 := Lib.hid (And.intro hD1 (And.intro hX1 hb1))
  clear hb1 hX1 hD1
  go_wp2_with (first
    | (go_at_call 37
       refine (erode_any B (ds i) (rs i) (vs i) (ls i) dir 11 key hi en n _ (H1.out.1.dir i hi0) (H1.out.1.ref i hi0) H1.out.1.size hz1 hz2 (by have := H1.out.1.len i hi0; simp only at this; omega)).mono ?_
       rintro e w2 ⟨rfl, hp⟩
       have HP := Lib.hid hp
       clear hp))
  go_ret
  obtain ⟨xs', v', p1, p2, p3, p4, p5⟩ := HP.out
  obtain ⟨s', _, h1, h2⟩ := H1.out.1.step2 (i := i) hi0 p5 p2 p3 p4 (N' := N + 1) (by have := H1.out.1.len i hi0; simp only at this; omega) (by omega)
  exact ⟨rfl, s', h1, h2.ahead H1.out.2.2⟩

theorem told_most (B wb N ns : Nat) (Lv : Value) (ds rs : Nat → Nat) (vs : Nat → Value) (ls : Nat → List KE) (g c g' c' : Nat) (m : Mv) (w : World) (h : DW B wb Lv N (St.at ns ds rs vs ls g c g' c') w) (hN : N ≤ 2000000) (hm : m.Ok) (hk : m.kind ≠ 7) :
    Calls Try.prog 6 #[.pointer (some ⟨wb, 0, none⟩), m.v] w (TR B wb Lv N (St.at ns ds rs vs ls g c g' c') w) := by
  obtain ⟨dir, kind, key, hi, en, n⟩ := m
  obtain ⟨z1, z2, z3⟩ := hm
  simp only at z1 z2 z3 hk
  by_cases h0 : 0 ≤ kind ∧ kind ≤ 11
  · have : kind = 0 ∨ kind = 1 ∨ kind = 2 ∨ kind = 3 ∨ kind = 4 ∨ kind = 5 ∨ kind = 6 ∨ kind = 8 ∨ kind = 9 ∨ kind = 10 ∨ kind = 11 := by omega
    rcases this with rfl | rfl | rfl | rfl | rfl | rfl | rfl | rfl | rfl | rfl | rfl
    · exact told_put B wb N ns Lv ds rs vs ls g c g' c' dir key hi en n w h hN z1
    · exact told_note B wb N ns Lv ds rs vs ls g c g' c' dir key hi en n w h hN z1
    · exact told_point B wb N ns Lv ds rs vs ls g c g' c' dir key hi en n w h hN z1
    · exact told_get B wb N ns Lv ds rs vs ls g c g' c' dir key hi en n w h hN z1
    · exact told_rem B wb N ns Lv ds rs vs ls g c g' c' dir key hi en n w h hN z1
    · exact told_rank B wb N ns Lv ds rs vs ls g c g' c' dir key hi en n w h hN z1
    · exact told_nth B wb N ns Lv ds rs vs ls g c g' c' dir key hi en n w h hN z3
    · exact told_all B wb N ns Lv ds rs vs ls g c g' c' dir key hi en n w h hN z1 z2
    · exact told_pre B wb N ns Lv ds rs vs ls g c g' c' dir key hi en n w h hN z1 z2
    · by_cases h8 : ns < 8
      · exact told_freeze B wb N ns Lv ds rs vs ls g c g' c' dir key hi en n w h hN h8
      · exact told_freeze8 B wb N ns Lv ds rs vs ls g c g' c' dir key hi en n w h hN h8
    · exact told_erode B wb N ns Lv ds rs vs ls g c g' c' dir key hi en n w h hN z1 z2
  · exact told_other B wb N ns Lv ds rs vs ls g c g' c' dir kind key hi en n w h hN h0
/-- What told answers and leaves, whatever is asked. -/
theorem told_any (B wb N M : Nat) (Lv : Value) (us : List Value) (s : St) (m : Mv) (w : World) (h : WW B wb N M Lv us s w) (hm : m.Ok) (hN : N ≤ 2000000) (hNM : N ≤ M) (hM : M ≤ 4000000) (hus : us.length ≤ 3000000) :
    Calls Try.prog 6 #[.pointer (some ⟨wb, 0, none⟩), m.v] w fun e w' => e = .returned (.bool true) ∧ ∃ Lv' us' s', us'.length ≤ us.length + 1 ∧ WW B wb (N + 1) M Lv' us' s' w' ∧ Below B w w' := by
  obtain ⟨g, c, g', c', hs⟩ := h.dirs.split
  rw [hs] at h
  by_cases hk : m.kind = 7
  · obtain ⟨dir, kind, key, hi, en, n⟩ := m
    obtain ⟨z1, z2, z3⟩ := hm
    simp only at z1 z2 z3 hk
    subst hk
    refine (told_range B wb N M s.n Lv us s.ds s.rs s.vs s.ls g c g' c' dir key hi en n w h hNM hM hus hN z1 z2 z3).mono ?_
    rintro e w' ⟨h1, Lv', l, h2, h3⟩
    exact ⟨h1, Lv', _, _, by simp, ⟨h2.dirs.mono (by omega), h2.lists, h2.far⟩, h3⟩
  · refine (told_most B wb N s.n Lv s.ds s.rs s.vs s.ls g c g' c' m w h.dirs hN hm hk).mono ?_
    rintro e w' ⟨h1, s', h2, h3⟩
    exact ⟨h1, Lv, us, s', by omega, h.turn h2 h3, h3.chg.below h.dirs.size fun k hk => h.dirs.foot_ge hk⟩
end Go.Proofs.Ytglmhpmjebjcgaa
