import Derived.Test.YtociadicjbkjcaaKd11
import Derived.Deep.AppendLies
namespace Go.Proofs.Ytociadicjbkjcaa
open Go.RowKit Go.Maps Go.Shelf
attribute [local go_sem] Oper.semAt_some

theorem room_none (k : Nat) : Wf.room k := fun d h => by cases h
theorem YieldAt.any {m m' : Nat} {P : Program} {l : Nat} {args : Array Value} {W : World} {R : Ending → World → Prop} (h : YieldAt Wf m P l args W R) : YieldAt Wf m' P l args W R := by
  obtain ⟨fn, tmps, assign, body, hy, hR⟩ := h
  exact ⟨fn, tmps, assign, body, hy, hR.1, fun c cs _ => hR.2 c cs (room_none _)⟩
theorem all_stops (n : Nat) (lo hi : ByteArray) (hlo : lo.size ≤ maxLen) (hhi : hi.size ≤ maxLen) (lob hib db : Nat) (dp p : Option Addr) (T : Tn) (w : World) (hs : Sorted T.flat) (hk : KeysOk T.flat) (hT : Tr w w.heap.size T p) (hd : DTop w dp p)
    (h1 : Box w lob 9 #[.string lo]) (h2 : Box w hib 9 #[.string hi]) (h3 : Box w db 29 #[.pointer dp]) :
    SeqStopsK Wf n Try.prog 42 #[.pointer (some ⟨lob, 0, none⟩), .pointer (some ⟨hib, 0, none⟩), .pointer (some ⟨db, 0, none⟩)] encK Kp (fun ys => ys = sel lo hi T.flat) (fun pre => pre <+: sel lo hi T.flat) (sel lo hi T.flat).length w :=
  fun l J Jx W hW hJ _ hY h0 => all1_in n l lo hi hlo hhi lob hib db dp p T J Jx W (fun s A B h g => hJ s A B none h g (fun r e => by cases e)) (fun m pre x W1 hj hl => YieldAt.any (hY pre x W1 hj hl))
    hs hk (hT.below hW) (hd.below hW) (h1.below hW h1.lt) (h2.below hW h2.lt) (h3.below hW h3.lt) h0

def keC (x : KE) : List Value := .string x.1 :: x.2.cells
theorem keC_len (l : List KE) : (l.flatMap keC).length = l.length * 7 := by
  induction l with
  | nil => rfl
  | cons p l ih => simp only [List.flatMap_cons, List.length_append, ih, List.length_cons]; show 7 + _ = _; omega
theorem one_ke (l : List KE) : ∀ u ∈ l.flatMap keC, u.oneCell' = true := by
  intro u hu
  obtain ⟨p, _, hp⟩ := List.mem_flatMap.1 hu
  simp only [keC, En.cells, List.mem_cons, List.not_mem_nil, or_false] at hp
  rcases hp with rfl | rfl | rfl | rfl | rfl | rfl | rfl <;> rfl
theorem infoKE : (Try.prog.info? 28).map (fun i => (i.zero, i.size, i.bytes)) = some (some (.agg #[.string ⟨#[]⟩, .int .i64 0, .int .i64 0, .int .i64 0, .int .i64 0, .int .i64 0, .bool false]), 7, 64) := by kernel_rfl
theorem kp_put (W : World) (l : Nat) (o o' : Obj) (h : W.heap[l]? = some o) (hc : o.isCells = false) : Kp W (W.putObj l o') :=
  ⟨by simp, fun b cs t _ hb => by
    have hne : b ≠ l := fun e => by subst e; rw [h] at hb; cases hb; cases hc
    exact (World.putObj_heap_other hne).trans hb⟩
/-- A turn of one block that holds no node, text or function. -/
theorem Kp.grown {W W' : World} {row : Option Nat} (hg : W.grownBy W' row) (hr : ∀ k, row = some k → ∀ cs t, KpT t → W.heap[k]? ≠ some (.cells cs t (0, 0))) : Kp W W' :=
  ⟨hg.size, fun b cs t ht hb => (hg.block b (Array.getElem?_eq_some_iff.1 hb).1 fun e => hr b e.symm cs t ht hb).trans hb⟩
theorem kp_row {W : World} {base : Nat} {e : TypeId} {size : Nat} {v : Value} {n : Nat} {xs : List Value} (h : W.ownsRow base e size v n xs) (he : ¬ KpT e) : ∀ k, v.ownBlock = some k → ∀ cs t, KpT t → W.heap[k]? ≠ some (.cells cs t (0, 0)) := by
  intro k hk cs t ht hc
  rcases h.2 with ⟨rfl, _⟩ | ⟨g, cap, cur, rfl, _, hh, _⟩
  · cases hk
  · have e1 : g = k := by simpa [Value.ownBlock] using hk
    subst e1
    rw [hh] at hc
    injection hc with hc
    injection hc with _ hc
    exact he (hc ▸ ht)
theorem kp_box {W : World} {b : Nat} {e : TypeId} {v : Value} (h : Boxed W b e v) (he : ¬ KpT e) : ∀ cs t, KpT t → W.heap[b]? ≠ some (.cells cs t (0, 0)) := by
  intro cs t ht hc
  rw [show W.heap[b]? = _ from h] at hc
  injection hc with hc
  injection hc with _ hc
  exact he (hc ▸ ht)
theorem box_own1 {β : Type} (B b : Nat) (t : TypeId) (ar : Array Value) : OwnFrom B (fun (_ : β) W => Box W b t ar) := fun _ W W' row h hg hr =>
  h.grown hg fun e => by
    obtain ⟨_, o, ho, hc⟩ := hr b e.symm
    unfold Box at h
    rw [h] at ho; cases ho; cases hc

/-- What Range answers: xs in a row of its own. -/
def RV (xs : List KE) (w : World) (e : Ending) (w' : World) : Prop := ∃ v, e = .returned v ∧ w'.ownsRow w.heap.size 28 7 v xs.length (xs.flatMap keC) ∧ Below w.heap.size w w'

set_option maxRecDepth 100000 in
set_option maxHeartbeats 4000000 in
theorem range_any (dp p : Option Addr) (T : Tn) (lo hi : ByteArray) (lim : Int) (w : World) (hlo : lo.size ≤ maxLen) (hhi : hi.size ≤ maxLen) (hs : Sorted T.flat) (hk : KeysOk T.flat) (hT : Tr w w.heap.size T p) (hd : DTop w dp p)
    (hN : T.flat.length ≤ 2199023255488) (hl1 : 1 ≤ lim) (hl2 : lim ≤ 9223372036854775807) :
    Calls Try.prog 16 #[.pointer dp, .string lo, .string hi, .int .i64 lim] w (RV ((sel lo hi T.flat).take lim.toNat) w) := by
  obtain ⟨i0, hi0, hz0, hs0, hy0⟩ := info_parts infoKE
  have hsl : (sel lo hi T.flat).length ≤ 2199023255488 := Nat.le_trans (List.length_filter_le _ _) hN
  have hlm : Hid (∀ m : Nat, m = lim.toNat → (m : Int) = lim) := fun m h => by omega
  refine cfw (n := 9) ?_
  refine callsIn_of_wp_marks Try.func16 rfl trivial ?_ rfl
  simp only [Try.ntmps16, List.size_toArray, List.length_cons, List.length_nil, Nat.reduceAdd, Nat.reduceSub, Array.replicate_succ, Array.replicate_zero, List.push_toArray, List.append_toArray, List.nil_append, List.cons_append]
  have hdl : decide (lim < 1) = false := by simp; omega
  gi_wp2_with (first
    | (gi_at_call 27
       refine (wfc (all_any dp lo hi _)).mono ?_
       rintro e w' ⟨rfl, rfl⟩))
  have b1 := Boxed.new w 3 (.int .i64 lim)
  have b2 := Boxed.new (w.alloc (.cells #[.int .i64 lim] 3)) 24 (.slice none 0 0)
  have b3 := Box.new ((w.alloc (.cells #[.int .i64 lim] 3)).alloc (.cells #[.slice none 0 0] 24)) 29 #[.pointer dp]
  have b4 := Box.new (((w.alloc (.cells #[.int .i64 lim] 3)).alloc (.cells #[.slice none 0 0] 24)).alloc (.cells #[.pointer dp] 29)) 9 #[.string lo]
  have b5 := Box.new ((((w.alloc (.cells #[.int .i64 lim] 3)).alloc (.cells #[.slice none 0 0] 24)).alloc (.cells #[.pointer dp] 29)).alloc (.cells #[.string lo] 9)) 9 #[.string hi]
  have hb0 : Below w.heap.size w (((((w.alloc (.cells #[.int .i64 lim] 3)).alloc (.cells #[.slice none 0 0] 24)).alloc (.cells #[.pointer dp] 29)).alloc (.cells #[.string lo] 9)).alloc (.cells #[.string hi] 9)) :=
    (((((Below.refl _ _).alloc (Nat.le_refl _) _).alloc (by simp) _).alloc (by simp <;> omega) _).alloc (by simp <;> omega) _).alloc (by simp <;> omega) _
  simp only [World.size_alloc] at b2 b3 b4 b5
  have b1' := (((b1.alloc (.cells #[.slice none 0 0] 24)).alloc (.cells #[.pointer dp] 29)).alloc (.cells #[.string lo] 9)).alloc (.cells #[.string hi] 9)
  have b2' := ((b2.alloc (.cells #[.pointer dp] 29)).alloc (.cells #[.string lo] 9)).alloc (.cells #[.string hi] 9)
  have b3' := (b3.alloc (.cells #[.string lo] 9)).alloc (.cells #[.string hi] 9)
  have b4' := b4.alloc (.cells #[.string hi] 9)
  have hsz : (((((w.alloc (.cells #[.int .i64 lim] 3)).alloc (.cells #[.slice none 0 0] 24)).alloc (.cells #[.pointer dp] 29)).alloc (.cells #[.string lo] 9)).alloc (.cells #[.string hi] 9)).heap.size = w.heap.size + 5 := by simp
  obtain ⟨W0, hW0⟩ : ∃ W0, (((((w.alloc (.cells #[.int .i64 lim] 3)).alloc (.cells #[.slice none 0 0] 24)).alloc (.cells #[.pointer dp] 29)).alloc (.cells #[.string lo] 9)).alloc (.cells #[.string hi] 9)) = W0 := ⟨_, rfl⟩
  rw [hW0] at b1' b2' b3' b4' b5 hb0 hsz ⊢
  clear hW0 b1 b2 b3 b4
  refine wpIn_rangeFunc_ownH rfl (by omega) (gf := 42) (lb := #[.pointer (some ⟨w.heap.size + 1 + 1 + 1, 0, none⟩), .pointer (some ⟨w.heap.size + 1 + 1 + 2, 0, none⟩), .pointer (some ⟨w.heap.size + 1 + 1, 0, none⟩)]) rfl trivial (enters_of Try.func42 (by kernel_rfl) rfl)
    (all_stops 8 lo hi hlo hhi _ _ _ dp p T W0 hs hk (hT.below hb0) (hd.below hb0) b4' b5 b3') (fun h k => Kp.trans h k) (fun W l o o' _ h hc _ => kp_put W l o o' h hc) (Below.refl _ _) (fun _ => rfl)
    (fun (pre : List KE) W => (∃ v, Boxed W (w.heap.size + 1) 24 v ∧ W.ownsRow w.heap.size 28 7 v pre.length (pre.flatMap keC) ∧ True) ∧ Boxed W w.heap.size 3 (.int .i64 lim) ∧ Below w.heap.size w W ∧ ((pre.length : Int) < lim))
    (fun c (pre : List KE) W => c = .exit 0 ∧ (∃ v, Boxed W (w.heap.size + 1) 24 v ∧ W.ownsRow w.heap.size 28 7 v pre.length (pre.flatMap keC) ∧ True) ∧ Below w.heap.size w W ∧ ((pre.length : Int) = lim))
    (OwnFrom.and (Own.from (holdsRow_own w.heap.size (w.heap.size + 1) 24 28 7 (fun pre : List KE => pre.length) (fun pre : List KE => pre.flatMap keC) (fun _ _ => True)) _) (OwnFrom.and (Own.from (boxed_own _ _ _) _) (OwnFrom.and (ownFrom_below (Nat.le_refl _) (by omega)) (ownFrom_pure _ _))))
    (fun c => OwnFrom.and (ownFrom_pure _ _) (OwnFrom.and (Own.from (holdsRow_own w.heap.size (w.heap.size + 1) 24 28 7 (fun pre : List KE => pre.length) (fun pre : List KE => pre.flatMap keC) (fun _ _ => True)) _) (OwnFrom.and (ownFrom_below (Nat.le_refl _) (by omega)) (ownFrom_pure _ _))))
    ⟨⟨_, b2', World.ownsRow_nil _ _ _ _, trivial⟩, b1', hb0, by simp; omega⟩
    (fun (x : KE) a' W => ∃ Bx, w.heap.size + 2 ≤ Bx ∧ Box W Bx 26 x.2.cells.toArray ∧ a' = { tmps := #[.pointer dp, .string lo, .string hi, .int .i64 lim, undef, undef, undef, .pointer (some ⟨w.heap.size, 0, none⟩), .slice none 0 0, .pointer (some ⟨w.heap.size + 1, 0, none⟩), .string x.1, .pointer (some ⟨Bx, 0, none⟩), .int .i64 lim, .bool false, .pointer dp, .string lo, .string hi, .func (.func 42) #[] #[.pointer (some ⟨w.heap.size + 1 + 1 + 1, 0, none⟩), .pointer (some ⟨w.heap.size + 1 + 1 + 2, 0, none⟩), .pointer (some ⟨w.heap.size + 1 + 1, 0, none⟩)], .string x.1, x.2.v, undef, undef, undef, undef, undef, undef, undef, undef, undef, undef, undef], defers := [] })
    (fun x a' s A B row h hg hr => by obtain ⟨Bx, h1, h2, h3⟩ := h; exact ⟨Bx, h1, box_own1 (β := Unit) _ Bx _ _ s A B row h2 hg hr, h3⟩)
    ?assign ?body ?done ?stop
  case assign =>
    rintro l pre x W K ⟨⟨v, hv, hrow, _⟩, hlb, hB, hlt⟩ hK
    unfold encK
    gi_wp2
    have hB2 := hB.size
    refine hK _ _ ((KeepsOthers.alloc _ _).from _) (Kp.of_below (bal _ _)) ⟨⟨v, hv.alloc _, hrow.alloc _, trivial⟩, hlb.alloc _, hB.alloc hB2 _, hlt⟩ ⟨W.heap.size, by have := hv.lt; omega, Box.new W _ _, rfl⟩
  case body =>
    rintro l pre x a' W hl ⟨r, hr⟩ ⟨⟨v, hv, hrow, _⟩, hlb, hB, hlt⟩ ⟨Bx, hBx, bX, rfl⟩ hlN
    have hc := hv.cell
    have hcl := hlb.cell
    have hcx := bX.cell
    unfold En.cells at hcx
    have Hr := Lib.hid hr
    have hN2 : pre.length + 1 ≤ 2199023255488 := by omega
    have HS := Lib.hid (And.intro hv (And.intro hrow (And.intro hlb (And.intro hB bX))))
    have hkr : ¬ KpT 28 := by unfold KpT; decide
    have hkb : ¬ KpT 24 := by unfold KpT; decide
    have HK := Lib.hid (And.intro hkr hkb)
    have hvl := hv.lt
    clear hr hv hrow hlb hB bX hkr hkb hlN
    by_cases heq : ((pre.length : Int) + 1 = lim)
    all_goals
      first | have hde : decide ((pre.length : Int) + 1 = lim) = true := decide_eq_true heq | have hde : decide ((pre.length : Int) + 1 = lim) = false := decide_eq_false heq
      gi_wp2_with (first
        | (gi_at_builtin
           refine wpListIn_append_own _ rfl (.tmp 20) (.tmp 24) 24 rfl w.heap.size 28 i0 _ 7 64 Try.underlying24 hi0 hz0 hs0 hy0 rfl (by decide) v pre.length (pre.flatMap keC) rfl (HS.out.2.1.alloc _) ⟨W.heap.size, 0, none⟩ 1 1 (keC x) rfl rfl (World.news_of_block (cs := (keC x).toArray) (t := 28) (fr := (0, 0)) (heap_alloc_new W _)) (by simp [keC, En.cells, Value.oneCell']) (by unfold maxLen; omega) (by omega) (by have := HS.out.2.2.2.1.size; simp; omega) ?_
           intro v' w1 hown' hgrow _
           obtain ⟨g', cap', rfl⟩ := ownsRow_succ hown'
           obtain ⟨hv1, hv2, hr2, hk2, hb2⟩ := HS.out.1.appended (by decide) HS.out.2.1 HS.out.2.2.2.1.size (by omega) hown' hgrow
           have hc1 := hv1.cell
           have hf1 := hv1.frozen
           have hcl1 := ((HS.out.2.2.1.alloc (.cells (keC x).toArray 28)).kept hgrow ((HS.out.2.2.1.alloc (.cells (keC x).toArray 28)).not_row (by decide) (HS.out.2.1.alloc (.cells (keC x).toArray 28))))
           have hkp1 : Kp W w1 := (Kp.of_below (bal W (.cells (keC x).toArray 28))).trans (Kp.grown hgrow (kp_row (HS.out.2.1.alloc _) HK.out.1))
           have hlb2 := hcl1.other (B' := w.heap.size + 1) (by omega) (.slice (some ⟨g', 0, none⟩) (pre.length + 1) cap')
           have hll2 := hcl1.cell
           have HS2 := Lib.hid (And.intro hv2 (And.intro hr2 (And.intro hk2 (And.intro hb2 (And.intro hlb2 (hkp1.trans (Kp.grown (grownBy_setCell' w1 (w.heap.size + 1) (.slice (some ⟨g', 0, none⟩) (pre.length + 1) cap')) (fun k e => by cases e; exact kp_box hv1 HK.out.2))))))))
           clear hv1 hv2 hr2 hk2 hb2 hown' hgrow hcl1 hkp1 hlb2))
      first
        | exact ⟨HS2.out.2.2.1.from _, HS2.out.2.2.2.2.2, ⟨⟨_, HS2.out.1, by simpa using HS2.out.2.1, trivial⟩, HS2.out.2.2.2.2.1, HS.out.2.2.2.1.trans HS2.out.2.2.2.1, by simp only [List.length_append, List.length_cons, List.length_nil]; omega⟩⟩
        | exact ⟨HS2.out.2.2.1.from _, rfl, ⟨_, HS2.out.1, by simpa using HS2.out.2.1, trivial⟩, HS.out.2.2.2.1.trans HS2.out.2.2.2.1, by simp only [List.length_append, List.length_cons, List.length_nil]; omega⟩
  case done =>
    rintro D ys W hD rfl ⟨⟨v, hv, hrow, _⟩, hlb, hB, hlt⟩ hK
    have hc := hv.cell
    have HH := Lib.hid (And.intro hrow hB)
    have HKK := Lib.hid hK
    clear hrow hB hK
    gi_wp2
    refine ⟨by simp, .inl ⟨_, _, rfl, run_takeDeferred HKK.out, ?_⟩⟩
    refine ⟨_, results_tmp rfl _ _ _, ?_⟩
    rw [List.take_of_length_le (show (sel lo hi T.flat).length ≤ lim.toNat by omega)]
    exact ⟨v, rfl, ownsRow_putObj HH.out.1 _ HKK.out rfl, HH.out.2.trans (belowK_b (w := w) (Nat.le_refl _) W D _ _ (by omega) HKK.out rfl rfl)⟩
  case stop =>
    rintro D c pre W hD ⟨t, ht⟩ ⟨rfl, ⟨v, hv, hrow, _⟩, hB, hln⟩ hK
    have hc := hv.cell
    have hR : (sel lo hi T.flat).take lim.toNat = pre := by rw [← ht, show lim.toNat = pre.length by omega, List.take_left]
    have HH := Lib.hid (And.intro hrow (And.intro hB hR))
    have HKK := Lib.hid hK
    clear hrow hB hK hR ht
    gi_wp2
    refine ⟨by simp, .inl ⟨_, _, rfl, run_takeDeferred HKK.out, ?_⟩⟩
    refine ⟨_, results_tmp rfl _ _ _, ?_⟩
    rw [HH.out.2.2]
    exact ⟨v, rfl, ownsRow_putObj HH.out.1 _ HKK.out rfl, HH.out.2.1.trans (belowK_b (w := w) (Nat.le_refl _) W D _ _ (by omega) HKK.out rfl rfl)⟩
end Go.Proofs.Ytociadicjbkjcaa
