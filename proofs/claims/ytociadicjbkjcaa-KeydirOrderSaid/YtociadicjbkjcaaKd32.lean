import Derived.Test.YtociadicjbkjcaaKd31
import Derived.Test.YtociadicjbkjcaaKd25
/- 'nothing': what a dir without keys answers, there or not. -/
namespace Go.Proofs.Ytociadicjbkjcaa
open Go.RowKit Go.Maps Go.Shelf
attribute [local go_sem] Oper.semAt_some

theorem fn_eqIn (d : Nat) (f : Nat) (cs : Array Value) (W : World) : (Op.equalIn (d + 1) 56 (.func (.func f) #[] cs) .nilFunc).run Try.prog W = .ok false W := by
  simp only [Op.equalIn, Sem.run_bind, run_underlying Try.underlying56, Result.andThen]
  rfl
theorem fn_eq (f : Nat) (cs : Array Value) (W : World) : (binOp .eql 56 (.func (.func f) #[] cs) .nilFunc).run Try.prog W = .ok (.bool false) W := by
  have h : (Op.equal 56 (.func (.func f) #[] cs) .nilFunc).run Try.prog W = .ok false W := fn_eqIn 9999 f cs W
  simp [binOp, h, go_sem]

set_option maxRecDepth 100000 in
set_option maxHeartbeats 4000000 in
theorem nothing_any (dp : Option Addr) (w : World) (h : DTop w dp none) :
    Calls Try.prog 34 #[.pointer dp] w fun e w' => e = .returned (.bool true) ∧ Below w.heap.size w w' := by
  have hb0 : Below w.heap.size w (w.alloc (.cells #[.bool false] 4)) := (Below.refl _ _).alloc (Nat.le_refl _) _
  have H := Lib.hid (And.intro hb0 (And.intro (Box.new w 4 #[.bool false]) (h.below (bal w (.cells #[.bool false] 4)))))
  clear h hb0
  have ez : En.zero.v = .agg #[.int .i64 0, .int .i64 0, .int .i64 0, .int .i64 0, .int .i64 0, .bool false] := rfl
  have hfe := fun f cs W => fn_eq f cs W
  refine cfw (n := 9) ?_
  refine callsIn_of_wp_marks Try.func34 rfl trivial ?_ rfl
  simp only [Try.ntmps34, List.size_toArray, List.length_cons, List.length_nil, Nat.reduceAdd, Nat.reduceSub, Array.replicate_succ, Array.replicate_zero, List.push_toArray, List.append_toArray, List.nil_append, List.cons_append]
  gi_wp2_with (first
    | (gi_at_call 14
       refine (wfc (get_dt dp ⟨#[97]⟩ _ H.out.2.2 (by decide))).mono ?_
       rintro e w1 ⟨rfl, hb1⟩
       rw [ez]
       have H1 := Lib.hid (And.intro (H.out.1.trans (hb1.mono H.out.1.size)) (And.intro (H.out.2.1.below hb1 H.out.2.1.lt) (And.intro (H.out.2.2.below hb1) (Box.new w1 26 #[.int .i64 0, .int .i64 0, .int .i64 0, .int .i64 0, .int .i64 0, .bool false]))))
       clear hb1)
    | (gi_at_call 19
       refine (wfc (rem_dt dp ⟨#[97]⟩ _ (H1.out.2.2.1.below (bal w1 _)) (by decide))).mono ?_
       rintro e w2 ⟨rfl, hb2⟩
       rw [ez]
       have hb12 : Below w1.heap.size w1 w2 := (bal w1 (.cells #[.int .i64 0, .int .i64 0, .int .i64 0, .int .i64 0, .int .i64 0, .bool false] 26)).trans (hb2.mono (by simp))
       have H2 := Lib.hid (And.intro (H1.out.1.trans (hb12.mono H1.out.1.size)) (And.intro (H1.out.2.1.below hb12 H1.out.2.1.lt) (And.intro (H1.out.2.2.1.below hb12) (And.intro (H1.out.2.2.2.below hb2 H1.out.2.2.2.lt) (Box.new w2 26 #[.int .i64 0, .int .i64 0, .int .i64 0, .int .i64 0, .int .i64 0, .bool false])))))
       clear hb2 hb12)
    | (gi_at_call 25
       refine (wfc (nth_dt dp 0 _ (H2.out.2.2.1.below (bal w2 _)) (by omega))).mono ?_
       rintro e w3 ⟨rfl, hb3⟩
       have hb23 : Below w2.heap.size w2 w3 := (bal w2 (.cells #[.int .i64 0, .int .i64 0, .int .i64 0, .int .i64 0, .int .i64 0, .bool false] 26)).trans (hb3.mono (by simp))
       have H3 := Lib.hid (And.intro (H2.out.1.trans (hb23.mono H2.out.1.size)) (And.intro (H2.out.2.1.below hb23 H2.out.2.1.lt) (And.intro (H2.out.2.2.1.below hb23) (And.intro (H2.out.2.2.2.1.below hb23 H2.out.2.2.2.1.lt) (And.intro (H2.out.2.2.2.2.below hb3 H2.out.2.2.2.2.lt) (Box.new w3 28 #[.string ⟨#[]⟩, .int .i64 0, .int .i64 0, .int .i64 0, .int .i64 0, .int .i64 0, .bool false]))))))
       clear hb3 hb23)
    | (gi_at_call 16
       refine (wfc (range_dt dp _ (H3.out.2.2.1.below (bal w3 _)))).mono ?_
       rintro e w4 ⟨⟨A4, c4, rfl⟩, hb4⟩
       have hb34 : Below w3.heap.size w3 w4 := (bal w3 (.cells #[.string ⟨#[]⟩, .int .i64 0, .int .i64 0, .int .i64 0, .int .i64 0, .int .i64 0, .bool false] 28)).trans (hb4.mono (by simp))
       have be := H3.out.2.2.2.1.below hb34 H3.out.2.2.2.1.lt
       have bf := H3.out.2.2.2.2.1.below hb34 H3.out.2.2.2.2.1.lt
       have bn := H3.out.2.2.2.2.2.below hb4 H3.out.2.2.2.2.2.lt
       have bec := be.cell
       have bfc := bf.cell
       have bnc := bn.cell
       have bel := be.lt
       have bfl := bf.lt
       have bnl := bn.lt
       have H4 := Lib.hid (And.intro (H3.out.1.trans (hb34.mono H3.out.1.size)) (And.intro (H3.out.2.1.below hb34 H3.out.2.1.lt) (H3.out.2.2.1.below hb34)))
       clear hb4 hb34 be bf bn)
    | (gi_at_call 23
       refine (wfc (len_dt dp _ H4.out.2.2)).mono ?_
       rintro e w' ⟨rfl, rfl⟩)
    | (gi_at_call 26
       refine (wfc (rank_dt dp ⟨#[122]⟩ _ H4.out.2.2)).mono ?_
       rintro e w' ⟨rfl, rfl⟩)
    | (gi_at_call 22
       refine (wfc (point_dt dp ⟨#[97]⟩ 0 1 1 _ H4.out.2.2 (by decide))).mono ?_
       rintro e w5 ⟨rfl, hb5⟩
       have H5 := Lib.hid (And.intro (H4.out.1.trans (hb5.mono H4.out.1.size)) (And.intro (H4.out.2.1.below hb5 H4.out.2.1.lt) (H4.out.2.2.below hb5)))
       clear hb5 bec bfc bnc bel bfl bnl)
    | (gi_at_call 27
       refine (wfc (all_any dp ⟨#[]⟩ ⟨#[]⟩ _)).mono ?_
       rintro e w' ⟨rfl, rfl⟩)
    | (gi_at_call 28
       refine (wfc (prefix_any dp ⟨#[]⟩ _)).mono ?_
       rintro e w' ⟨rfl, rfl⟩))
  obtain ⟨W0, hW0⟩ : ∃ W0, (((((w5.alloc (.cells #[.pointer dp] 29)).alloc (.cells #[.string ⟨#[]⟩] 9)).alloc (.cells #[.string ⟨#[]⟩] 9)).alloc (.cells #[.pointer dp] 29)).alloc (.cells #[.string ⟨#[]⟩] 9)) = W0 := ⟨_, rfl⟩
  have hb0 : Below w5.heap.size w5 W0 := by
    rw [← hW0]
    exact (((((Below.refl _ _).alloc (Nat.le_refl _) _).alloc (by simp <;> omega) _).alloc (by simp <;> omega) _).alloc (by simp <;> omega) _).alloc (by simp <;> omega) _
  have hsz : W0.heap.size = w5.heap.size + 5 := by rw [← hW0]; simp
  have c1 : Box W0 w5.heap.size 29 #[.pointer dp] := by rw [← hW0]; exact ((((Box.new w5 _ _).alloc _).alloc _).alloc _).alloc _
  have c2 : Box W0 (w5.heap.size + 1) 9 #[.string ⟨#[]⟩] := by
    rw [← hW0]
    have := Box.new (w5.alloc (.cells #[.pointer dp] 29)) 9 #[.string ⟨#[]⟩]
    simp only [World.size_alloc] at this
    exact ((this.alloc _).alloc _).alloc _
  have c3 : Box W0 (w5.heap.size + 2) 9 #[.string ⟨#[]⟩] := by
    rw [← hW0]
    have := Box.new ((w5.alloc (.cells #[.pointer dp] 29)).alloc (.cells #[.string ⟨#[]⟩] 9)) 9 #[.string ⟨#[]⟩]
    simp only [World.size_alloc] at this
    exact (this.alloc _).alloc _
  have c4' : Box W0 (w5.heap.size + 3) 29 #[.pointer dp] := by
    rw [← hW0]
    have := Box.new (((w5.alloc (.cells #[.pointer dp] 29)).alloc (.cells #[.string ⟨#[]⟩] 9)).alloc (.cells #[.string ⟨#[]⟩] 9)) 29 #[.pointer dp]
    simp only [World.size_alloc] at this
    exact this.alloc _
  have c5 : Box W0 (w5.heap.size + 4) 9 #[.string ⟨#[]⟩] := by
    rw [← hW0]
    have := Box.new ((((w5.alloc (.cells #[.pointer dp] 29)).alloc (.cells #[.string ⟨#[]⟩] 9)).alloc (.cells #[.string ⟨#[]⟩] 9)).alloc (.cells #[.pointer dp] 29)) 9 #[.string ⟨#[]⟩]
    simp only [World.size_alloc] at this
    exact this
  rw [hW0]
  clear hW0
  have H6 := Lib.hid (And.intro (H5.out.1.trans (hb0.mono H5.out.1.size)) (And.intro (H5.out.2.1.below hb0 H5.out.2.1.lt) (H5.out.2.2.below hb0)))
  clear hb0
  have hl6 := H5.out.2.1.lt
  refine wpIn_rangeFunc_ownH rfl (by omega) (gf := 42) (lb := #[.pointer (some ⟨w5.heap.size + 1, 0, none⟩), .pointer (some ⟨w5.heap.size + 2, 0, none⟩), .pointer (some ⟨w5.heap.size, 0, none⟩)]) rfl trivial (enters_of Try.func42 (by kernel_rfl) rfl)
    (all_stops 8 ⟨#[]⟩ ⟨#[]⟩ (by decide) (by decide) _ _ _ dp none .leaf W0 sorted0 keys0 (tr0 _) H6.out.2.2 c2 c3 c1) (fun h k => Kp.trans h k) (fun W l o o' _ h hc _ => kp_put W l o o' h hc) (Below.refl _ _) (fun _ => rfl)
    (fun (_ : List KE) V => Below W0.heap.size W0 V) (fun _ _ _ => False) (ownFrom_below (Nat.le_refl _) (Nat.le_refl _)) (fun _ _ _ _ _ hs _ _ => hs) (Below.refl _ _) (fun _ _ _ => True) (fun _ _ _ _ _ _ hs _ _ => hs)
    ?assign ?body ?done ?stop
  case assign =>
    rintro l pre x V K hi hK
    gi_wp2
    exact hK _ _ (KeepsFrom.refl _ _) (Kp.refl _) hi trivial
  case body =>
    rintro l pre x a' V hl hr hi hx hlN
    exact absurd hlN (Nat.not_lt_zero _)
  case stop =>
    rintro D c pre V hD hpre hf hK
    exact hf.elim
  case done =>
    rintro D ys V hD hys hB hK
    have HV := Lib.hid (And.intro hB hK)
    have hv := hB.size
    clear hB hK
    gi_wp2
    refine wpIn_rangeFunc_ownM rfl (by omega) (gf := 44) (lb := #[.pointer (some ⟨w5.heap.size + 1 + 1 + 1 + 1, 0, none⟩), .pointer (some ⟨w5.heap.size + 1 + 1 + 1, 0, none⟩)]) rfl trivial (enters_of Try.func44 (by kernel_rfl) rfl)
      (prefix_seq 8 (by omega) ⟨#[]⟩ (by decide) _ _ dp none .leaf V sorted0 keys0 (tr0 _) (H6.out.2.2.below HV.out.1) (c5.below HV.out.1 c5.lt) (c4'.below HV.out.1 c4'.lt)) (fun h k => Kp.trans h k) (fun W l o o' _ h hc _ => kp_put W l o o' h hc) (Below.refl _ _) (fun _ => rfl)
      (fun (_ : List KE) V2 => Below V.heap.size V V2) (fun _ _ _ => False) (ownFrom_below (Nat.le_refl _) (Nat.le_refl _)) (fun _ _ _ _ _ hs _ _ => hs) (Below.refl _ _) (fun _ _ _ => True) (fun _ _ _ _ _ _ hs _ _ => hs)
      ?assign2 ?body2 ?done2 ?stop2
    case assign2 =>
      rintro l pre x V K hi hK
      gi_wp2
      exact hK _ _ (KeepsFrom.refl _ _) (Kp.refl _) hi trivial
    case body2 =>
      rintro l pre x a' V hl hr hi hx hlN
      exact absurd hlN (Nat.not_lt_zero _)
    case stop2 =>
      rintro D c pre V hD hpre hf hK
      exact hf.elim
    case done2 =>
      rintro D2 ys2 V2 hD2 hys2 hB2 hK2
      have hx2 := (H6.out.2.1.below HV.out.1 H6.out.2.1.lt).below hB2 (by have := H6.out.2.1.lt; omega)
      have hxc := hx2.cell
      have hxf := hx2.free
      have hxl := hx2.lt
      have HV2 := Lib.hid (And.intro hB2 (And.intro hK2 hx2))
      clear hB2 hK2 hx2
      have hDl : D < V.heap.size := (Array.getElem?_eq_some_iff.1 HV.out.2).1
      have hk2 : (V2.setCell ⟨w.heap.size, 0, none⟩ (.bool true)).heap[D2]? = some (.deferred (some [])) := (KeepsOthers.setCell _ _ _).same D2 _ HV2.out.2.1 rfl
      have hk1 : (V2.setCell ⟨w.heap.size, 0, none⟩ (.bool true)).heap[D]? = some (.deferred (some [])) := (KeepsOthers.setCell _ _ _).same D _ ((HV2.out.1.block D hDl).trans HV.out.2) rfl
      have hk1' : ((V2.setCell ⟨w.heap.size, 0, none⟩ (.bool true)).putObj D2 (.deferred none)).heap[D]? = some (.deferred (some [])) := (World.putObj_heap_other (by omega)).trans hk1
      have hcc : (V2.setCell ⟨w.heap.size, 0, none⟩ (.bool true)).cell? ⟨w.heap.size, 0, none⟩ = some (.bool true) := World.cell?_setCell_same' _ _ _ (by rw [hxc]; rfl)
      have hcc2 := cell_kept hcc (grownBy_putObj' _ D2 (.deferred none)) (fun r e => by cases e; exact ⟨_, hk2, rfl⟩)
      have hcc3 := cell_kept hcc2 (grownBy_putObj' _ D (.deferred none)) (fun r e => by cases e; exact ⟨_, hk1', rfl⟩)
      have hl0 := H6.out.1.size
      have hbz : Below w.heap.size w (V2.setCell ⟨w.heap.size, 0, none⟩ (.bool true)) := ((H6.out.1.trans (HV.out.1.mono H6.out.1.size)).trans (HV2.out.1.mono (by omega))).setCell (p := ⟨w.heap.size, 0, none⟩) (Nat.le_refl _) _
      have HF := Lib.hid (And.intro hk2 (And.intro hk1' (And.intro hcc3 hbz)))
      clear hk2 hk1 hk1' hcc hcc2 hcc3 hbz
      gi_wp2
      refine ⟨by simp, .inl ⟨_, _, rfl, run_takeDeferred HF.out.1, ⟨by simp, .inl ⟨_, _, rfl, run_takeDeferred HF.out.2.1, ?_⟩⟩⟩⟩
      refine ⟨.bool true, ?_, rfl, ?_⟩
      · have hcx := HF.out.2.2.1
        simp [results, Try.results34, go_sem, hcx]
      · exact (HF.out.2.2.2.trans (belowK_b (w := w) (Nat.le_refl _) _ D2 _ _ (by omega) HF.out.1 rfl rfl)).trans (belowK_b (w := w) (Nat.le_refl _) _ D _ _ (by omega) HF.out.2.1 rfl rfl)
end Go.Proofs.Ytociadicjbkjcaa
