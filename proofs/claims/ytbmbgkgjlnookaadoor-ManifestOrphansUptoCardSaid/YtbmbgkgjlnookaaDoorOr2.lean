import Derived.Test.YtbmbgkgjlnookaaDoorOr1
/- ManifestOrphans: rows of names; manifest.choose. -/
namespace Go.Proofs.YtbmbgkgjlnookaaDoor
open Go.RowKit Go.Maps

theorem info_str : (Tryd.prog.info? 9).map (fun i => (i.zero, i.size, i.bytes)) = some (some (.string ByteArray.empty), 1, 16) := by kernel_rfl
theorem row_sliceS {w : World} {base : Nat} {e : TypeId} {size n : Nat} {v : Value} {xs : List Value} (h : w.ownsRow base e size v n xs) : ∃ b c, v = .slice b n c := by
  rcases h.2 with ⟨hv, h0⟩ | ⟨g, c, cur, hv, _⟩
  · exact ⟨none, 0, by rw [hv, h0]⟩
  · exact ⟨some ⟨g, 0, none⟩, c, hv⟩
theorem ownsRow_rdS {w : World} {base : Nat} {e : TypeId} {size n : Nat} {b : Option Addr} {cap : Nat} {xs : List Value} (h : w.ownsRow base e size (.slice b n cap) n xs) : Rd w w.heap.size b xs := by
  rcases h.2 with ⟨hv, h0⟩ | ⟨g, c, cur, hv, _, hb, hnc, _, hsz, hxs⟩
  · have hl : xs.length = 0 := by rw [h.1, h0, Nat.zero_mul]
    have : xs = [] := List.eq_nil_of_length_eq_zero hl
    subst this; exact Rd.nil _ _ _
  · cases hv
    intro j u hj
    refine ⟨_, rfl, (Array.getElem?_eq_some_iff.1 hb).1, ?_⟩
    have hjl : j < n * size := by rw [← h.1]; exact (List.getElem?_eq_some_iff.1 hj).1
    rw [← hxs, List.getElem?_take_of_lt hjl] at hj
    have e : (⟨g, 0, none⟩ : Addr).add j = ⟨g, j, none⟩ := by unfold Addr.add; split <;> simp_all
    rw [e, cell_of_row w g j cur _ _ hb, ← Array.getElem?_toList]
    exact hj
theorem ownsRow_blockS {w w' : World} {base : Nat} {e : TypeId} {size n : Nat} {v : Value} {xs : List Value} (h : w.ownsRow base e size v n xs) (hb : ∀ k, v.ownBlock = some k → w'.heap[k]? = w.heap[k]?) : w'.ownsRow base e size v n xs := by
  refine ⟨h.1, ?_⟩
  rcases h.2 with h | ⟨g, c, cur, hv, h1, h2, h3⟩
  · exact .inl h
  · exact .inr ⟨g, c, cur, hv, h1, (hb g (by rw [hv]; rfl)).trans h2, h3⟩
/-- A row of names of the call's own, at v. -/
def SRow (w W : World) (v : Value) (l : List ByteArray) : Prop := W.ownsRow w.heap.size 9 1 v l.length (l.map Value.string) ∧ Below w.heap.size w W
section
variable {w W W' : World} {v : Value} {l : List ByteArray}
theorem SRow.next (h : SRow w W v l) (hb : Below W.heap.size W W') : SRow w W' v l :=
  ⟨ownsRow_blockS h.1 fun k hk => hb.block k (h.1.lt k hk).2, h.2.trans (hb.mono h.2.size)⟩
theorem SRow.nil (w : World) : SRow w w (.slice none 0 0) [] := ⟨World.ownsRow_nil _ _ _ _, Below.refl _ _⟩
theorem SRow.drewN (h : SRow w W v l) (n : Nat) : SRow w (W.drewN n) v l := h.next (below_drewN (Below.refl _ _) n)
theorem SRow.slice (h : SRow w W v l) : ∃ b c, v = .slice b l.length c ∧ Rd W W.heap.size b (l.map Value.string) := by
  obtain ⟨b, c, rfl⟩ := row_sliceS h.1
  exact ⟨b, c, rfl, ownsRow_rdS h.1⟩
theorem SRow.grow {v' : Value} {p : ByteArray} (h : SRow w W v l) (hown : W'.ownsRow w.heap.size 9 1 v' (l.length + 1) (l.map Value.string ++ [Value.string p])) (hg : W.grownBy W' v.ownBlock) : SRow w W' v' (l ++ [p]) := by
  refine ⟨?_, h.2.grown hg h.2.size fun k hk => (h.1.lt k hk).1⟩
  rw [List.map_append, List.length_append]
  simpa using hown
end
theorem Rd.str {w : World} {B : Nat} {A : Option Addr} {l : List ByteArray} (h : Rd w B A (l.map Value.string)) {i : Nat} (hi : i < l.length) :
    ∃ ad : Addr, A = some ad ∧ ad.block < B ∧ w.cell? (ad.add i) = some (.string l[i]) := by
  obtain ⟨ad, rfl, hb, hc⟩ := h i (.string l[i]) (by simp [hi])
  exact ⟨ad, rfl, hb, hc⟩
theorem rd_newS (W : World) (t : TypeId) (xs : List Value) : Rd (W.alloc (.cells xs.toArray t)) (W.heap.size + 1) (some ⟨W.heap.size, 0, none⟩) xs := by
  intro j u hj
  refine ⟨_, rfl, Nat.lt_succ_self _, ?_⟩
  have e : (⟨W.heap.size, 0, none⟩ : Addr).add j = ⟨W.heap.size, j, none⟩ := by unfold Addr.add; split <;> simp_all
  rw [e, (Box.new W t xs.toArray).cell]
  simpa using hj
theorem bytes_back (S : ByteArray) : (⟨S.data.toList.toArray⟩ : ByteArray) = S := by
  apply ByteArray.ext
  simp
def parseB (S : ByteArray) : FN := parseP S.data.toList
theorem parseM_b (S : ByteArray) (w : World) (E : Env w) (hs : S.size ≤ 1048576) :
    Calls Tryd.prog 7 #[.string S] w fun e w' => e = .returned (FN.v (parseB S)) ∧ Below w.heap.size w w' := by
  have h := parseM_any S.data.toList w E (by simpa using hs)
  rw [bytes_back] at h
  exact h
theorem parseR_b (S : ByteArray) (w : World) (hs : S.size ≤ 1048576) :
    Calls Tryd.prog 8 #[.string S] w fun e w' => e = .returned (FN.v (parseB S)) ∧ Below w.heap.size w w' := by
  have h := parseR_any S.data.toList (by simpa using hs) w
  rw [bytes_back, ← parse_same] at h
  exact h
theorem parseB_ok (S : ByteArray) : (parseB S).Ok := parse_ok _
theorem filter_snoc {f : ByteArray → Bool} {l : List ByteArray} {k : Nat} (hk : k < l.length) : (l.take (k + 1)).filter f = if f l[k] = true then (l.take k).filter f ++ [l[k]] else (l.take k).filter f := by
  rw [List.take_succ_eq_append_getElem hk, List.filter_append]
  by_cases h : f l[k] = true <;> simp [h]
theorem pfilter_snoc {pr : FN → Bool} {l : List ByteArray} {k : Nat} (hk : k < l.length) : (l.take (k + 1)).filter (fun s => pr (parseB s)) = if pr (parseB l[k]) = true then (l.take k).filter (fun s => pr (parseB s)) ++ [l[k]] else (l.take k).filter (fun s => pr (parseB s)) := filter_snoc (f := fun s => pr (parseB s)) hk
theorem filter_lenS {f : ByteArray → Bool} {l : List ByteArray} {k : Nat} : ((l.take k).filter f).length ≤ k := Nat.le_trans (List.length_filter_le _ _) (by rw [List.length_take]; omega)
set_option maxRecDepth 100000 in
set_option maxHeartbeats 4000000 in
theorem choose_orph (A : Option Addr) (n cc : Nat) (ns : List ByteArray) (id a b c d : Int) (p q : Value) (segs : List Int) (bm bn mb N : Nat) (f : Int → Int) (w : World) (E : Env w) (hA : Rd w w.heap.size A (ns.map Value.string)) (hn : ns.length = n) (hmx : n ≤ 1048576) (hz : ∀ s ∈ ns, s.size ≤ 1048576)
    (hm : Box w bm 31 #[.int .i64 id, .int .i64 a, .int .i64 b, .int .i64 c, .int .i64 d, p, q]) (hc : Box w bn 63 #[.map (some mb)])
    (hI : IMap Tryd.prog 3 3 w mb N f) (hf : ∀ x, f x = markP segs x) :
    Calls Tryd.prog 32 #[.slice A n cc, .func (.func 33) #[] #[.pointer (some ⟨bm, 0, none⟩), .pointer (some ⟨bn, 0, none⟩)]] w fun e w' => ∃ v, e = .returned v ∧ SRow w w' v (ns.filter fun s => orphP id segs (parseB s)) := by
  obtain ⟨i1, hi1, hz1, hs1, hy1⟩ := info_parts info_str
  have HA := Lib.hid hA
  have Hn := Lib.hid hn
  have Hz := Lib.hid hz
  have EE := Lib.hid E
  have ASK := Lib.hid (show ∀ (x : FN), x.Ok → ∀ W, Below w.heap.size w W → Calls Tryd.prog 33 #[FN.v x, .pointer (some ⟨bm, 0, none⟩), .pointer (some ⟨bn, 0, none⟩)] W fun e w' => e = .returned (.bool (orphP id segs x)) ∧ Below W.heap.size W w' from fun x hx W hb => orph_ask x hx id a b c d p q segs bm bn mb N f W (hm.below hb hm.lt) (hc.below hb hc.lt) (hI.below hb) hf)
  clear hA hn hz E hm hc hI hf
  generalize hpred : (orphP id segs) = pr at ASK
  clear hpred
  go_enter Tryd.func32, Tryd.ntmps32
  go_wp2
  go_loopw [5, 10] (fun v i wr => ∃ k : Nat, k ≤ n ∧ i = .int .i64 k ∧ SRow w wr v ((ns.take k).filter fun s => pr (parseB s))) (fun _ i _ => n - (intOf i).toNat)
  case atStart => exact ⟨0, Nat.zero_le _, rfl, SRow.nil w⟩
  case round =>
    obtain ⟨k, hk, rfl, hR⟩ := hrel
    by_cases hlt : k < n
    · have hkl : k < ns.length := by rw [Hn.out]; exact hlt
      obtain ⟨ad, rfl, hadb, p0⟩ := (HA.out.below hR.2).str hkl
      have HT := Lib.hid (pfilter_snoc (pr := pr) hkl)
      have hzk := Hz.out _ (List.getElem_mem hkl)
      generalize ns[k] = s at p0 HT hzk
      have hlm := filter_lenS (f := fun s => pr (parseB s)) (l := ns) (k := k)
      have DS := Lib.hid hR
      have C1 := Lib.hid (fun W E => parseM_b s W E hzk)
      have hok := parseB_ok s
      have C2 := Lib.hid (ASK.out (parseB s) hok)
      generalize parseB s = x at C1 C2 HT
      have hk0 : (0 : Int) ≤ k := by omega
      have hk1 : (k : Int) < n := by omega
      clear hR hkl hok hzk
      cases hpx : pr x with
      | false =>
        rw [hpx] at C2 HT
        have HX := Lib.hid (HT.out.trans (if_neg (by simp)))
        clear hpx
        go_wp2_with (first
          | (go_at_call 7
             refine (C1.out _ (EE.out.below DS.out.2)).mono ?_
             rintro e w1 ⟨rfl, hb1⟩
             have D1 := Lib.hid (DS.out.next hb1)
             clear hb1)
          | (go_at_call 33
             refine (C2.out _ D1.out.2).mono ?_
             rintro e w2 ⟨rfl, hb2⟩
             have D2 := Lib.hid (D1.out.next hb2)
             clear hb2))
        go_roundw
        case rel => exact ⟨k + 1, by omega, by go_num, by rw [HX.out]; exact D2.out⟩
        case measure => simp [intOf]; omega
      | true =>
        rw [hpx] at C2 HT
        have HX := Lib.hid (HT.out.trans (if_pos rfl))
        clear hpx
        go_wp2_with (first
          | (go_at_call 7
             refine (C1.out _ (EE.out.below DS.out.2)).mono ?_
             rintro e w1 ⟨rfl, hb1⟩
             have D1 := Lib.hid (DS.out.next hb1)
             clear hb1)
          | (go_at_call 33
             refine (C2.out _ D1.out.2).mono ?_
             rintro e w2 ⟨rfl, hb2⟩
             have D2 := Lib.hid (D1.out.next hb2)
             clear hb2)
          | (at_builtin
             have D3 := D2.out.next (Below.al w2 (.cells #[.string s] 9))
             refine wpList_app _ rfl (.tmp 18) (.tmp 20) _ rfl w.heap.size 9 i1 _ 1 16 Tryd.underlying27 hi1 hz1 hs1 hy1 rfl (by decide) _ _ _ rfl D3.1 _ _ 1 1 [.string s] rfl rfl (rd_newS _ _ _) (by intro u hu; simp at hu; subst hu; rfl) (by unfold maxLen; omega) (by omega) (by have := D2.out.2.size; simp; omega) ?_
             intro v' w4 hown hg4 hor
             have HG := Lib.hid (D3.grow hown hg4)
             clear hown hg4 hor D3))
        go_roundw
        case rel => exact ⟨k + 1, by omega, by go_num, by rw [HX.out]; exact HG.out⟩
        case measure => simp [intOf]; omega
    · have hkn : k = n := by omega
      subst hkn
      have HT := Lib.hid (show ns.take k = ns by rw [← Hn.out, List.take_length])
      have DS := Lib.hid hR
      clear hR
      go_wp2
      go_ret
      rw [HT.out] at DS
      exact ⟨_, rfl, DS.out⟩
set_option maxRecDepth 100000 in
set_option maxHeartbeats 4000000 in
theorem choose_str (A : Option Addr) (n cc : Nat) (ns : List ByteArray) (ids : List Int) (bn mb N : Nat) (f : Int → Int) (w : World) (E : Env w) (hA : Rd w w.heap.size A (ns.map Value.string)) (hn : ns.length = n) (hmx : n ≤ 1048576) (hz : ∀ s ∈ ns, s.size ≤ 1048576)
    (hc : Box w bn 63 #[.map (some mb)])
    (hI : IMap Tryd.prog 3 3 w mb N f) (hf : ∀ x, f x = knowG ids x) :
    Calls Tryd.prog 32 #[.slice A n cc, .func (.func 34) #[] #[.pointer (some ⟨bn, 0, none⟩)]] w fun e w' => ∃ v, e = .returned v ∧ SRow w w' v (ns.filter fun s => strP ids (parseB s)) := by
  obtain ⟨i1, hi1, hz1, hs1, hy1⟩ := info_parts info_str
  have HA := Lib.hid hA
  have Hn := Lib.hid hn
  have Hz := Lib.hid hz
  have EE := Lib.hid E
  have ASK := Lib.hid (show ∀ (x : FN), x.Ok → ∀ W, Below w.heap.size w W → Calls Tryd.prog 34 #[FN.v x, .pointer (some ⟨bn, 0, none⟩)] W fun e w' => e = .returned (.bool (strP ids x)) ∧ Below W.heap.size W w' from fun x hx W hb => str_ask x hx ids bn mb N f W (hc.below hb hc.lt) (hI.below hb) hf)
  clear hA hn hz E hc hI hf
  generalize hpred : (strP ids) = pr at ASK
  clear hpred
  go_enter Tryd.func32, Tryd.ntmps32
  go_wp2
  go_loopw [5, 10] (fun v i wr => ∃ k : Nat, k ≤ n ∧ i = .int .i64 k ∧ SRow w wr v ((ns.take k).filter fun s => pr (parseB s))) (fun _ i _ => n - (intOf i).toNat)
  case atStart => exact ⟨0, Nat.zero_le _, rfl, SRow.nil w⟩
  case round =>
    obtain ⟨k, hk, rfl, hR⟩ := hrel
    by_cases hlt : k < n
    · have hkl : k < ns.length := by rw [Hn.out]; exact hlt
      obtain ⟨ad, rfl, hadb, p0⟩ := (HA.out.below hR.2).str hkl
      have HT := Lib.hid (pfilter_snoc (pr := pr) hkl)
      have hzk := Hz.out _ (List.getElem_mem hkl)
      generalize ns[k] = s at p0 HT hzk
      have hlm := filter_lenS (f := fun s => pr (parseB s)) (l := ns) (k := k)
      have DS := Lib.hid hR
      have C1 := Lib.hid (fun W E => parseM_b s W E hzk)
      have hok := parseB_ok s
      have C2 := Lib.hid (ASK.out (parseB s) hok)
      generalize parseB s = x at C1 C2 HT
      have hk0 : (0 : Int) ≤ k := by omega
      have hk1 : (k : Int) < n := by omega
      clear hR hkl hok hzk
      cases hpx : pr x with
      | false =>
        rw [hpx] at C2 HT
        have HX := Lib.hid (HT.out.trans (if_neg (by simp)))
        clear hpx
        go_wp2_with (first
          | (go_at_call 7
             refine (C1.out _ (EE.out.below DS.out.2)).mono ?_
             rintro e w1 ⟨rfl, hb1⟩
             have D1 := Lib.hid (DS.out.next hb1)
             clear hb1)
          | (go_at_call 34
             refine (C2.out _ D1.out.2).mono ?_
             rintro e w2 ⟨rfl, hb2⟩
             have D2 := Lib.hid (D1.out.next hb2)
             clear hb2))
        go_roundw
        case rel => exact ⟨k + 1, by omega, by go_num, by rw [HX.out]; exact D2.out⟩
        case measure => simp [intOf]; omega
      | true =>
        rw [hpx] at C2 HT
        have HX := Lib.hid (HT.out.trans (if_pos rfl))
        clear hpx
        go_wp2_with (first
          | (go_at_call 7
             refine (C1.out _ (EE.out.below DS.out.2)).mono ?_
             rintro e w1 ⟨rfl, hb1⟩
             have D1 := Lib.hid (DS.out.next hb1)
             clear hb1)
          | (go_at_call 34
             refine (C2.out _ D1.out.2).mono ?_
             rintro e w2 ⟨rfl, hb2⟩
             have D2 := Lib.hid (D1.out.next hb2)
             clear hb2)
          | (at_builtin
             have D3 := D2.out.next (Below.al w2 (.cells #[.string s] 9))
             refine wpList_app _ rfl (.tmp 18) (.tmp 20) _ rfl w.heap.size 9 i1 _ 1 16 Tryd.underlying27 hi1 hz1 hs1 hy1 rfl (by decide) _ _ _ rfl D3.1 _ _ 1 1 [.string s] rfl rfl (rd_newS _ _ _) (by intro u hu; simp at hu; subst hu; rfl) (by unfold maxLen; omega) (by omega) (by have := D2.out.2.size; simp; omega) ?_
             intro v' w4 hown hg4 hor
             have HG := Lib.hid (D3.grow hown hg4)
             clear hown hg4 hor D3))
        go_roundw
        case rel => exact ⟨k + 1, by omega, by go_num, by rw [HX.out]; exact HG.out⟩
        case measure => simp [intOf]; omega
    · have hkn : k = n := by omega
      subst hkn
      have HT := Lib.hid (show ns.take k = ns by rw [← Hn.out, List.take_length])
      have DS := Lib.hid hR
      clear hR
      go_wp2
      go_ret
      rw [HT.out] at DS
      exact ⟨_, rfl, DS.out⟩
end Go.Proofs.YtbmbgkgjlnookaaDoor
