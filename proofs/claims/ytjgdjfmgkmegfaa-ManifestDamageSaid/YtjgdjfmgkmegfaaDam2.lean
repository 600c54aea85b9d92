import Derived.Test.YtjgdjfmgkmegfaaDam1
import Derived.Test.YtjgdjfmgkmegfaaMan21
import Derived.Test.YtjgdjfmgkmegfaaMan13
import Derived.Test.YtjgdjfmgkmegfaaBeqm
import Derived.Deep.RegionWith
namespace Go.Proofs.Ytjgdjfmgkmegfaa
open Go.RowKit Go.Maps
theorem encM_small2 (id ns nx mk cl : Int) (segs : List Int) (prods : List P3) : (encM id ns nx mk cl segs prods).length ≤ 2639 := by
  unfold encM
  split
  · rename_i hr; rw [wrapB_len]; have := bodyM_len hr; omega
  · simp
theorem bv_set2 (l : List UInt8) (k : Nat) (x : UInt8) : (bv l).set k (.int .u8 x.toNat) = bv (l.set k x) := by simp [bv, List.map_set]
theorem Own.bvs2 {w : World} {B g : Nat} {t : TypeId} {l : List UInt8} (h : Own w B g t (bv l)) {i : Nat} (hi : i < l.length) (x : UInt8) : Own (w.setCell ⟨g, i, none⟩ (.int .u8 x.toNat)) B g t (bv (l.set i x)) := by
  have := h.set_ (i := i) (by simp [bv]; omega) (.int .u8 x.toNat)
  rwa [bv_set2] at this

theorem dman_of {id ns nx mk cl : Int} {segs : List Int} {prods : List P3} (hr : manR id ns nx mk cl segs prods = true) {bs : List UInt8} (hb : encM id ns nx mk cl segs prods = bs) {w w' : World} {e : Ending} (h : DMan bs w w' e) :
    ∃ (b1 : Option Addr) (c1 : Nat) (b2 : Option Addr) (c2 : Nat), e = .returned (.tuple #[manV id ns nx mk cl (.slice b1 segs.length c1) (.slice b2 prods.length c2), .int .i64 0]) ∧ Rd w' w'.heap.size b1 (segs.map (.int .i64)) ∧ Rd w' w'.heap.size b2 (prods.flatMap tri) := by
  rcases h with ⟨id', ns', nx', mk', cl', segs', prods', b1, c1, b2, c2, h1, h2, h3, h4, h5, h6, h7⟩ | ⟨h1, h2⟩
  · obtain ⟨rfl, rfl, rfl, rfl, rfl, rfl, rfl⟩ := h3 _ _ _ _ _ _ _ hr hb
    exact ⟨b1, c1, b2, c2, h4, ownsRow_rd h5, ownsRow_rd h6⟩
  · exact absurd hb (h1 _ _ _ _ _ _ _ hr)
theorem dman_no {bs : List UInt8} (hn : ∀ id ns nx mk cl segs prods, manR id ns nx mk cl segs prods = true → encM id ns nx mk cl segs prods ≠ bs) {w w' : World} {e : Ending} (h : DMan bs w w' e) :
    e = .returned (.tuple #[manV 0 0 0 0 0 (.slice none 0 0) (.slice none 0 0), .int .i64 72]) := by
  rcases h with ⟨id', ns', nx', mk', cl', segs', prods', b1, c1, b2, c2, h1, h2, _⟩ | ⟨h1, h2⟩
  · exact absurd h2 (hn _ _ _ _ _ _ _ h1)
  · exact h2
theorem rd_nil0 (w : World) (B : Nat) (A : Option Addr) : Rd w B A (([] : List P3).flatMap tri) := Rd.nil _ _ _

theorem rd_new' (w : World) (ar : Array Value) (t : TypeId) (k : Nat) (h : w.heap.size = k) : Rd (w.alloc (.cells ar t)) (k + 1) (some ⟨k, 0, none⟩) ar.toList := by subst h; exact rd_new w ar t
theorem Own.rd_all {w : World} {B g : Nat} {t : TypeId} {cs : List Value} (h : Own w B g t cs) : Rd w w.heap.size (some ⟨g, 0, none⟩) cs := h.rd h.lt fun _ _ h => h

set_option maxRecDepth 100000 in
set_option maxHeartbeats 4000000 in
theorem small_any (w : World) : Calls Try.prog 61 #[.int .i64 3] w fun e w' =>
    ∃ b c, e = .returned (manV 3 2 0 0 0 (.slice b 1 c) (.slice none 0 0)) ∧ Rd w' w'.heap.size b (([1] : List Int).map (.int .i64)) ∧ Below w.heap.size w w' := by
  obtain ⟨i0, hi0, hz0, hs0, hy0⟩ := info_parts info_int
  have hb1 : Below w.heap.size w ((w.alloc (.cells #[.int .i64 0, .int .i64 0, .int .i64 0, .int .i64 0, .int .i64 0, .slice none 0 0, .slice none 0 0] 25)).alloc (.cells #[.int .i64 3, .int .i64 2, .int .i64 0, .int .i64 0, .int .i64 0, .slice none 0 0, .slice none 0 0] 25)) := ((Below.refl _ _).alloc (Nat.le_refl _) _).alloc (by simp <;> omega) _
  have hq1 := Box.new (w.alloc (.cells #[.int .i64 0, .int .i64 0, .int .i64 0, .int .i64 0, .int .i64 0, .slice none 0 0, .slice none 0 0] 25)) 25 #[.int .i64 3, .int .i64 2, .int .i64 0, .int .i64 0, .int .i64 0, .slice none 0 0, .slice none 0 0]
  have hq0 := (Box.new w 25 #[.int .i64 0, .int .i64 0, .int .i64 0, .int .i64 0, .int .i64 0, .slice none 0 0, .slice none 0 0]).alloc (.cells #[.int .i64 3, .int .i64 2, .int .i64 0, .int .i64 0, .int .i64 0, .slice none 0 0, .slice none 0 0] 25)
  have H := Lib.hid (And.intro hb1 (And.intro hq0 hq1))
  clear hb1 hq0 hq1
  go_enter Try.func61, Try.ntmps61
  go_wp2_with (first
    | (at_builtin
       refine wpList_app1 _ rfl (.tmp 7) (.tmp 8) _ rfl w.heap.size 3 i0 _ 1 8 Try.underlying22 hi0 hz0 hs0 hy0 rfl (by omega) (.slice none 0 0) 0 [] rfl (nil_own _ _ _ _) _ _ 1 1 [.int .i64 1] rfl rfl (rd_new' _ _ _ _ (by simp)) (by simp [Value.oneCell']) (by unfold maxLen; omega) (by omega) (by simp <;> omega) (by omega) ?_
       intro g cap w8 hO hca hcb hrow hg hwg
       have hb2 := (H.out.1.alloc (by simp <;> omega) (.cells #[.int .i64 1] 3)).grown hg (by simp <;> omega) (fun k e => by cases e)
       have hq0 := (H.out.2.1.alloc (.cells #[.int .i64 1] 3)).grown hg (fun e => by cases e)
       have hq1 := (H.out.2.2.alloc (.cells #[.int .i64 1] 3)).grown hg (fun e => by cases e)
       simp only [World.size_alloc] at hq1
       have hqg : g = w.heap.size + 3 := by
         rcases hwg with h | h
         · cases h
         · simpa using h
       have hc0 := hq0.cell
       have hc1 := hq1.cell
       have hf0 := hq0.free
       have hf1 := hq1.free
       have hsz := hq1.lt
       have H2 := Lib.hid (And.intro hb2 (And.intro hO (And.intro hq0 hq1)))
       clear hb2 hO hq0 hq1 hg hrow hwg H))
  refine bodyPost_ret (v := manV 3 2 0 0 0 (.slice (some ⟨g, 0, none⟩) 1 cap) (.slice none 0 0)) ?_ rfl ?_
  · simp [results, Try.results61, go_sem, hc0]
  refine ⟨some ⟨g, 0, none⟩, cap, rfl, ?_, ?_⟩
  · refine (show Rd _ _ _ ([] ++ [Value.int .i64 1]) from Own.rd_all (B := w.heap.size) (t := 3) ?_)
    repeat (first | with_reducible exact H2.out.2.1 | refine Own.far ?_ (show g ≠ _ by simp only; omega) _)
  · repeat (first | with_reducible exact H2.out.1 | refine Below.setCell ?_ (by simp) _)

set_option maxRecDepth 100000 in
set_option maxHeartbeats 4000000 in
theorem works_any (w : World) : Calls Try.prog 31 #[] w fun e w' => e = .returned (.bool true) ∧ Below w.heap.size w w' := by
  have hm : manR 3 2 0 0 0 [1] [] = true := by decide
  have HE := Lib.hid (show manE 3 2 0 0 0 [1] [] = 0 by rw [manE, hm]; rfl)
  generalize hse : encM 3 2 0 0 0 [1] [] = enc
  have hel := encM_small2 3 2 0 0 0 [1] []
  rw [hse] at hel
  generalize hL : enc.length = L at hel
  have HM := Lib.hid (And.intro hm hse)
  have HL := Lib.hid hL
  clear hm hse hL
  go_enter Try.func31, Try.ntmps31
  go_wp2_with (first
    | (go_at_call 61
       refine (small_any _).mono ?_
       rintro e w1 ⟨b1, c1, rfl, hr1, hb1⟩
       have H1 := Lib.hid (And.intro hr1 hb1)
       clear hr1 hb1)
    | (go_at_call 21
       refine (octEncode 3 2 0 0 0 b1 none c1 0 [1] [] _ H1.out.1 (Rd.nil _ _ _) (by simp [Lit.wf, IntKind.min, IntKind.max, IntKind.signed, IntKind.bits])).mono ?_
       rintro e w2 ⟨b, cap, rfl, hown, hb2⟩
       rw [HE.out, HM.out.2, HL.out]
       rw [HM.out.2, HL.out] at hown
       have hcp : L ≤ cap := by
         rcases hown.2 with ⟨h, _⟩ | ⟨g', c', cu, h, _, _, h2, _⟩
         · cases h; omega
         · cases h; omega
       have H2 := Lib.hid (And.intro (ownsRow_rd hown) (H1.out.2.trans (hb2.mono H1.out.2.size)))
       clear hown hb2 H1)
    | (go_at_call 25
       refine (manDecode b L cap enc _ H2.out.1 HL.out hcp (by omega)).mono ?_
       rintro e w3 ⟨hd, hb3⟩
       obtain ⟨d1, k1, d2, k2, rfl, hr1, hr2⟩ := dman_of HM.out.1 HM.out.2 hd
       have H3 := Lib.hid (And.intro hr1 (And.intro hr2 (And.intro (H2.out.2.trans (hb3.mono H2.out.2.size)) (Box.new w3 25 #[.int .i64 3, .int .i64 2, .int .i64 0, .int .i64 0, .int .i64 0, .slice d1 1 k1, .slice d2 0 k2]))))
       clear hr1 hr2 hd hb3 H2))
  have hcx := H3.out.2.2.2.cell
  have hlx := H3.out.2.2.2.lt
  have hfx := H3.out.2.2.2.free
  go_region_with (first
    | (go_at_call 61
       refine (small_any _).mono ?_
       rintro e w5 ⟨b5, c5, rfl, hr5, hb5⟩
       have hb5' : Below (w3.alloc (.cells #[.int .i64 3, .int .i64 2, .int .i64 0, .int .i64 0, .int .i64 0, .slice d1 1 k1, .slice d2 0 k2] 25)).heap.size (w3.alloc (.cells #[.int .i64 3, .int .i64 2, .int .i64 0, .int .i64 0, .int .i64 0, .slice d1 1 k1, .slice d2 0 k2] 25)) w5 := (below_drew1 _).trans hb5
       have hX := H3.out.2.2.2.below hb5' (by simp)
       have hcx5 := hX.cell
       have hlx5 := hX.lt
       have hfx5 := hX.free
       have hb35 := (Below.al' w3 (.cells #[.int .i64 3, .int .i64 2, .int .i64 0, .int .i64 0, .int .i64 0, .slice d1 1 k1, .slice d2 0 k2] 25)).trans (hb5'.mono (by simp))
       have H5 := Lib.hid (And.intro hr5 (And.intro hb35 ((H3.out.1.below hb35).mono hb35.size)))
       clear hr5 hb5 hb5' hX hb35)
    | (go_at_call 30
       refine (sameMan_eq 3 2 0 0 0 d1 b5 d2 none k1 c5 k2 0 [1] [] _ H5.out.2.2 H5.out.1 (Rd.nil _ _ _) (Rd.nil _ _ _) (by unfold maxLen; simp) (by unfold maxLen; simp)).mono ?_
       rintro e w6 ⟨rfl, hb6⟩
       have H6 := Lib.hid ((H3.out.2.2.1.trans (H5.out.2.1.mono H3.out.2.2.1.size)).trans (hb6.mono (by have := H3.out.2.2.1.size; have := H5.out.2.1.size; omega)))
       clear hb6))
  all_goals
    go_wp2
    go_ret
    exact ⟨rfl, H6.out⟩

/-! The plain part: what Decode may answer of damaged bytes. -/
theorem encM_yes {id ns nx mk cl : Int} {segs : List Int} {prods : List P3} (hr : manR id ns nx mk cl segs prods = true) : encM id ns nx mk cl segs prods = wrapB 179 (bodyM id ns nx mk cl segs prods) ∧ (bodyM id ns nx mk cl segs prods).length ≤ 2630 :=
  ⟨by rw [encM, if_pos hr], bodyM_len hr⟩
theorem dam_cut {id ns nx mk cl : Int} {segs : List Int} {prods : List P3} (hr : manR id ns nx mk cl segs prods = true) {enc : List UInt8} (he : encM id ns nx mk cl segs prods = enc) {k : Nat} (hk : k < enc.length) :
    ∀ id ns nx mk cl segs prods, manR id ns nx mk cl segs prods = true → encM id ns nx mk cl segs prods ≠ enc.take k := by
  intro id' ns' nx' mk' cl' segs' prods' hr' h
  obtain ⟨a1, a2⟩ := encM_yes hr
  obtain ⟨b1, b2⟩ := encM_yes hr'
  subst he
  rw [b1, a1] at h
  rw [a1] at hk
  exact wrapB_cut (by omega) (by omega) hk h
theorem dam_more {id ns nx mk cl : Int} {segs : List Int} {prods : List P3} (hr : manR id ns nx mk cl segs prods = true) {enc : List UInt8} (he : encM id ns nx mk cl segs prods = enc) {ms : List UInt8} (hk : 0 < ms.length) :
    ∀ id ns nx mk cl segs prods, manR id ns nx mk cl segs prods = true → encM id ns nx mk cl segs prods ≠ enc ++ ms := by
  intro id' ns' nx' mk' cl' segs' prods' hr' h
  obtain ⟨a1, a2⟩ := encM_yes hr
  obtain ⟨b1, b2⟩ := encM_yes hr'
  subst he
  rw [b1, a1] at h
  exact wrapB_more (by omega) (by omega) hk h
theorem dam_burst {id ns nx mk cl : Int} {segs : List Int} {prods : List P3} (hr : manR id ns nx mk cl segs prods = true) {enc : List UInt8} (he : encM id ns nx mk cl segs prods = enc) {k : Nat} {o : List UInt8} (h4 : o.length ≤ 4)
    (hk : k + o.length ≤ enc.length) (hpl : 9 ≤ k ∨ k + o.length ≤ 9) (hne : enc ≠ splice enc k o) :
    ∀ id ns nx mk cl segs prods, manR id ns nx mk cl segs prods = true → encM id ns nx mk cl segs prods ≠ splice enc k o := by
  intro id' ns' nx' mk' cl' segs' prods' hr' h
  obtain ⟨a1, a2⟩ := encM_yes hr
  obtain ⟨b1, b2⟩ := encM_yes hr'
  subst he
  rw [a1] at hk
  have h2 := h
  rw [b1, a1] at h2
  have := wrapB_burst (by omega) h4 hk hpl h2
  rw [← b1, ← a1] at this
  exact hne (this.symm.trans h)
theorem splice_set {l o : List UInt8} {k i : Nat} (hi : i < o.length) (hk : k + o.length ≤ l.length) : (splice l k (o.take i)).set (k + i) o[i] = splice l k (o.take (i + 1)) := by
  have h1 : (o.take i).length = i := by simp; omega
  have h2 : (o.take (i + 1)).length = i + 1 := by simp; omega
  unfold splice
  have h3 : o.take (i + 1) = o.take i ++ [o[i]] := by rw [List.take_add_one, List.getElem?_eq_getElem hi]; rfl
  rw [h1, h2, List.set_append_right _ _ (by simp; omega)]
  have e : k + i - (l.take k ++ o.take i).length = 0 := by simp; omega
  rw [e, List.drop_eq_getElem_cons (show k + i < l.length by omega), List.set_cons_zero, h3]
  simp only [List.append_assoc, List.cons_append, List.nil_append, Nat.add_assoc]
theorem splice_nil (l : List UInt8) (k : Nat) : splice l k [] = l := by simp [splice]

/-- What the law knows behind Encode: the bytes. -/
structure KD (w : World) (g : Nat) (enc : List UInt8) (W : World) : Prop where
  below : Below w.heap.size w W
  own : Own W w.heap.size g 5 (bv enc)
section
variable {w W W' : World} {g : Nat} {enc : List UInt8}
theorem KD.next (d : KD w g enc W) (hb : Below W.heap.size W W') : KD w g enc W' := ⟨d.below.trans (hb.mono d.below.size), d.own.below hb d.own.lt⟩
theorem KD.rd (d : KD w g enc W) : Rd W W.heap.size (some ⟨g, 0, none⟩) (bv enc) := d.own.rd d.own.lt fun _ _ h => h
theorem KD.rdk (d : KD w g enc W) (k : Nat) : Rd W W.heap.size (some ⟨g, 0, none⟩) (bv (enc.take k)) := d.own.rd d.own.lt fun j u h => by
  simp only [bv, List.getElem?_map, List.getElem?_take] at h ⊢
  split at h
  · exact h
  · cases h
end
end Go.Proofs.Ytjgdjfmgkmegfaa
