import Derived.Test.YtebeefkibbbkdaaSm5
import Derived.Maps.OwnSet
import Derived.Sort.KeysCollected
/- A directory in memory: a map from names to files, each by its block's number. -/
namespace Go.Proofs.Ytebeefkibbbkdaa
open Go.RowKit Go.Maps
open Go.Proofs (encStr)

/-- How the map's elements are read: a pointer to a block's head as the block's number, nil as nil. -/
def ptrR (v : Value) : Option (DataW Nat × List MemPlace) :=
  match v with
  | .pointer (some ⟨b, 0, none⟩) => some (.held b, [])
  | .pointer none => some (.nil, [])
  | _ => none
theorem ptrR_mk (b : Nat) : ptrR (.pointer (some ⟨b, 0, none⟩)) = some (.held b, []) := rfl
theorem ptrR_none : ptrR (.pointer none) = some (.nil, []) := rfl
theorem ptrR_inv {v : Value} {b : Nat} {ps : List MemPlace} (h : ptrR v = some (.held b, ps)) : v = .pointer (some ⟨b, 0, none⟩) := by
  unfold ptrR at h
  split at h
  · simp at h; rw [h.1]
  · simp at h
  · cases h
theorem ptrR_inv0 {v : Value} {ps : List MemPlace} (h : ptrR v = some (.nil, ps)) : v = .pointer none := by
  unfold ptrR at h
  split at h
  · simp at h
  · rfl
  · cases h
/-- Block b is a map that reads as D, which has just the pairs of l. -/
structure FD (w : World) (b : Nat) (D : DataW Nat) (l : List KE) : Prop where
  own : w.ownsMap Try.prog 9 ptrR b (Maps.size D) D
  has_ : ∀ x : List UInt8, Maps.has D (.string x) = true ↔ ∃ p ∈ l, p.1.data.toList = x
  at_ : ∀ p ∈ l, ∀ zd, D.atKey (.string p.1.data.toList) zd = .held p.2
theorem own_tight {w : World} {b n : Nat} {D : DataW Nat} (h : w.ownsMap Try.prog 9 ptrR b n D) : w.ownsMap Try.prog 9 ptrR b (Maps.size D) D := by
  obtain ⟨es, clock, h1, h2, h3, rfl⟩ := h
  exact ⟨es, clock, h1, h2, by simp [Maps.size, length_sorted], rfl⟩
def MD (w : World) (b : Nat) (l : List KE) : Prop := Sorted l ∧ (∀ p ∈ l, p.1.size ≤ 32) ∧ ∃ D, FD w b D l
theorem kstr : Keyed Try.prog 9 := string_keyed Try.underlying9
theorem bytes_eq {a b : ByteArray} (h : a.data.toList = b.data.toList) : a = b := WideShapes.bytes_inj h
section
variable {w w' : World} {b : Nat} {D : DataW Nat} {l : List KE}
theorem FD.put {k : ByteArray} {e n' : Nat} (h : FD w b D l) (hown : w'.ownsMap Try.prog 9 ptrR b n' (D.put (.string k.data.toList) (.held e))) : FD w' b (D.put (.string k.data.toList) (.held e)) (putL k e l) := by
  have him := h.own.isMap
  refine ⟨own_tight hown, fun x => ?_, fun q hq zd => ?_⟩
  · by_cases hx : x = k.data.toList
    · subst hx
      rw [has_put_same him (by trivial)]
      exact ⟨fun _ => ⟨(k, e), mem_put.2 (.inl rfl), rfl⟩, fun _ => rfl⟩
    · rw [has_put_other (by intro e; injection e with e; exact hx e), h.has_]
      constructor
      · rintro ⟨q, hq, rfl⟩
        exact ⟨q, mem_put.2 (.inr ⟨hq, fun e => hx (by rw [e])⟩), rfl⟩
      · rintro ⟨q, hq, rfl⟩
        rcases mem_put.1 hq with rfl | hq
        · exact absurd rfl hx
        · exact ⟨q, hq.1, rfl⟩
  · rcases mem_put.1 hq with rfl | hq
    · rw [atKey_put_same him (by trivial)]
    · obtain ⟨h1, h2⟩ := hq
      rw [atKey_put_other (by intro e; injection e with e; exact h2 (bytes_eq e))]
      exact h.at_ q h1 zd
theorem FD.del {k : ByteArray} {n' : Nat} (h : FD w b D l) (hown : w'.ownsMap Try.prog 9 ptrR b n' (D.del (.string k.data.toList))) : FD w' b (D.del (.string k.data.toList)) (delL k l) := by
  refine ⟨own_tight hown, fun x => ?_, fun q hq zd => ?_⟩
  · by_cases hx : x = k.data.toList
    · subst hx
      rw [has_del_same]
      refine ⟨fun h => (by cases h), ?_⟩
      rintro ⟨q, hq, e⟩
      exact absurd (bytes_eq e) (mem_del.1 hq).2
    · rw [has_del_other (by intro e; injection e with e; exact hx e), h.has_]
      constructor
      · rintro ⟨q, hq, rfl⟩
        exact ⟨q, mem_del.2 ⟨hq, fun e => hx (by rw [e])⟩, rfl⟩
      · rintro ⟨q, hq, rfl⟩
        exact ⟨q, (mem_del.1 hq).1, rfl⟩
  · obtain ⟨h1, h2⟩ := mem_del.1 hq
    rw [atKey_del_other (by intro e; injection e with e; exact h2 (bytes_eq e))]
    exact h.at_ q h1 zd
theorem cmp_lt : ∀ {a b : List UInt8}, cmpB a b = -1 → a < b
  | [], [], h => by simp [cmpB] at h
  | [], _ :: _, _ => List.nil_lt_cons _ _
  | _ :: _, [], h => by simp [cmpB] at h
  | x :: a, y :: b, h => by
    simp only [cmpB] at h
    rw [List.cons_lt_cons_iff]
    by_cases h1 : x.toNat < y.toNat
    · exact .inl (UInt8.lt_iff_toNat_lt.2 h1)
    · rw [if_neg h1] at h
      by_cases h2 : y.toNat < x.toNat
      · rw [if_pos h2] at h; cases h
      · rw [if_neg h2] at h
        exact .inr ⟨UInt8.toNat_inj.1 (by omega), cmp_lt h⟩
theorem sorted_lt (hs : Sorted l) : (l.map fun p => p.1.data.toList).Pairwise fun a b => a < b := by
  rw [List.pairwise_map]
  exact hs.imp fun h => cmp_lt h
theorem FD.perm (h : FD w b D l) (hs : Sorted l) : (l.map fun p => p.1.data.toList).Perm (strKeys D) := by
  obtain ⟨es, hD, hpw, _⟩ := h.own.entries kstr
  obtain ⟨es', hD', hko⟩ := h.own.keysOf
  obtain rfl : es = es' := by rw [hD] at hD'; simpa using hD'
  have hnd : (l.map fun p => p.1.data.toList).Nodup := (sorted_lt hs).imp fun h e => by rw [e] at h; exact absurd h (List.lt_irrefl _)
  have hmem : ∀ x, x ∈ (l.map fun p => p.1.data.toList) ↔ Maps.has (DataW.map es) (.string x) = true := fun x => by
    have := h.has_ x
    rw [hD] at this
    rw [this, List.mem_map]
  have hpk := perm_strKeys hpw (fun p hp => by obtain ⟨v, hv⟩ := hko p hp; obtain ⟨x, _, hx, _⟩ := Maps.keyOf_str Try.underlying9 hv; exact ⟨x, hx⟩) hnd hmem
  rw [hD]
  exact hpk
theorem FD.size (h : FD w b D l) (hs : Sorted l) : Maps.size D = l.length := by
  have := (h.perm hs).length_eq
  obtain ⟨es, hD, _⟩ := h.own.entries kstr
  rw [hD] at this ⊢
  simpa [strKeys, Maps.size] using this.symm
theorem FD.keys (h : FD w b D l) (hs : Sorted l) {ss : List (List UInt8)} (hp : ss.Perm (strKeys D)) : ss.mergeSort (fun x y => decide (x ≤ y)) = l.map fun p => p.1.data.toList := by
  have tr : ∀ a b c : List UInt8, leB a b = true → leB b c = true → leB a c = true := fun a b c h1 h2 => by simp only [leB, decide_eq_true_eq] at *; exact List.le_trans h1 h2
  have tot : ∀ a b : List UInt8, (leB a b || leB b a) = true := fun a b => by simp only [leB, Bool.or_eq_true, decide_eq_true_eq]; exact List.le_total a b
  refine List.Perm.eq_of_pairwise (le := fun a b => leB a b = true) (fun a b _ _ h1 h2 => ?_) (List.pairwise_mergeSort tr tot ss) ((sorted_lt hs).imp fun h => ?_) (((List.mergeSort_perm ss leB).trans hp).trans (h.perm hs).symm)
  · simp only [leB, decide_eq_true_eq] at h1 h2
    exact List.le_antisymm h1 h2
  · simp only [leB, decide_eq_true_eq]
    exact List.le_of_lt h
theorem MD.lt (h : MD w b l) : b < w.heap.size := let ⟨_, _, _, h⟩ := h; h.own.lt
theorem MD.made (w : World) : MD (w.alloc (.map #[] 0)) w.heap.size [] :=
  ⟨List.Pairwise.nil, fun p h => (by cases h), .map [], World.ownsMap_made _ _ _ _, fun x => (by simp [Maps.has]), fun p h => (by cases h)⟩
theorem MD.keep (h : MD w b l) (hb : w'.heap[b]? = w.heap[b]?) : MD w' b l := by
  obtain ⟨h1, h2, D, h3, h4, h5⟩ := h
  obtain ⟨es, clock, e1, e2⟩ := h3
  exact ⟨h1, h2, D, ⟨es, clock, hb.trans e1, e2⟩, h4, h5⟩
theorem MD.alloc (h : MD w b l) (o : Obj) : MD (w.alloc o) b l := h.keep (Below.heap_alloc w o b h.lt)
theorem MD.chg {S : Nat → Prop} (h : MD w b l) (hc : Chg S w w') (hn : ¬ S b) : MD w' b l := h.keep (hc.block b h.lt hn)
theorem MD.below (h : MD w b l) (hb : Below w.heap.size w w') : MD w' b l := h.keep (hb.block b h.lt)
/-- A name that is there. -/
theorem MD.look (h : MD w b l) {k : ByteArray} {e : Nat} (hg : getL k l = some e) (hk : k.size ≤ maxLen) :
    (Instr.lookup 67 (.map (some b)) (.string k) false).run Try.prog w = .ok (.pointer (some ⟨e, 0, none⟩)) w ∧ (Instr.lookup 67 (.map (some b)) (.string k) true).run Try.prog w = .ok (.tuple #[.pointer (some ⟨e, 0, none⟩), .bool true]) w := by
  obtain ⟨h1, h2, D, hF⟩ := h
  have hm := (get_mem h1).1 hg
  have hkey := WideMaps.keyOf_string_mk Try.underlying9 hk
  obtain ⟨v, ps, hrun, hv⟩ := hF.own.lookup kstr Try.underlying67 (Try.zeroValue81 w) ptrR_none hkey
  obtain ⟨v', ps', hrun', hv'⟩ := hF.own.look_ok kstr Try.underlying67 (Try.zeroValue81 w) ptrR_none hkey
  have ha := hF.at_ _ hm
  have hh := (hF.has_ k.data.toList).2 ⟨_, hm, rfl⟩
  simp only at ha
  rw [ha] at hv hv'
  rw [ptrR_inv hv] at hrun
  rw [ptrR_inv hv', hh] at hrun'
  exact ⟨hrun, hrun'⟩
theorem MD.miss (h : MD w b l) {k : ByteArray} (hg : getL k l = none) (hk : k.size ≤ maxLen) :
    (Instr.lookup 67 (.map (some b)) (.string k) false).run Try.prog w = .ok (.pointer none) w ∧ (Instr.lookup 67 (.map (some b)) (.string k) true).run Try.prog w = .ok (.tuple #[.pointer none, .bool false]) w := by
  obtain ⟨h1, h2, D, hF⟩ := h
  have hkey := WideMaps.keyOf_string_mk Try.underlying9 hk
  obtain ⟨v, ps, hrun, hv⟩ := hF.own.lookup kstr Try.underlying67 (Try.zeroValue81 w) ptrR_none hkey
  obtain ⟨v', ps', hrun', hv'⟩ := hF.own.look_ok kstr Try.underlying67 (Try.zeroValue81 w) ptrR_none hkey
  have hh : Maps.has D (.string k.data.toList) = false := by
    rw [Bool.eq_false_iff]
    intro hh
    obtain ⟨p, hp, e⟩ := (hF.has_ _).1 hh
    exact get_none.1 hg p hp (bytes_eq e)
  rw [atKey_of_not_has hh] at hv hv'
  rw [ptrR_inv0 hv] at hrun
  rw [ptrR_inv0 hv', hh] at hrun'
  exact ⟨hrun, hrun'⟩
theorem MD.len (h : MD w b l) (ty : TypeId) : (Builtin.len_ #[67] ty #[.map (some b)]).run Try.prog w = .ok (.int .i64 l.length) w := by
  obtain ⟨h1, _, D, hF⟩ := h
  rw [hF.own.len Try.underlying67 ty, hF.size h1]
theorem MD.put' (h : MD w b l) {k : ByteArray} {e n' : Nat} {D : DataW Nat} (hF : FD w b D l) (hk : k.size ≤ 32) (hown : w'.ownsMap Try.prog 9 ptrR b n' (D.put (.string k.data.toList) (.held e))) : MD w' b (putL k e l) :=
  ⟨h.1.put k e, fun p hp => by
    rcases mem_put.1 hp with rfl | hp
    · exact hk
    · exact h.2.1 p hp.1, _, hF.put hown⟩
theorem MD.del' (h : MD w b l) {k : ByteArray} {n' : Nat} {D : DataW Nat} (hF : FD w b D l) (hown : w'.ownsMap Try.prog 9 ptrR b n' (D.del (.string k.data.toList))) : MD w' b (delL k l) :=
  ⟨h.1.del k, fun p hp => h.2.1 p (mem_del.1 hp).1, _, hF.del hown⟩
end
theorem grown_chg {w w' : World} {b : Nat} (h : w.grownBy w' (some b)) : Chg (fun k => k = b) w w' := (Chg.refl _ w).grown h fun k hk => .inl (by injection hk with hk; exact hk.symm)

set_option maxRecDepth 100000 in
set_option maxHeartbeats 2000000 in
theorem made_do (b e : Nat) (l : List KE) (k : ByteArray) (w : World) (h : MD w b l) (hk : k.size ≤ 32) (hl : l.length < 1000000000000) :
    Calls Try.prog 163 #[.agg #[.string k, .pointer (some ⟨e, 0, none⟩)], .map (some b)] w fun r w' => r = .returned (.map (some b)) ∧ MD w' b (putL k e l) ∧ Chg (fun j => j = b) w w' := by
  obtain ⟨D, hF⟩ := h.2.2
  have hsz := hF.size h.1
  have HK := Lib.hid (WideMaps.keyOf_string_mk Try.underlying9 (s := k) (by unfold maxLen; omega))
  have HM : Hid (Maps.size D < maxLen) := by show _ < _; unfold maxLen; omega
  have HA := Lib.hid (hF.own.alloc (.cells #[.string k, .pointer (some ⟨e, 0, none⟩)] 139))
  have H := Lib.hid (And.intro h (And.intro hF hk))
  clear h hF hsz
  go_enter Try.func163, Try.ntmps163
  go_wp2_with (at_mapUpdate
               refine wpList_mapUpdate_own _ rfl (.tmp 5) (.tmp 7) (.tmp 9) _ rfl 9 81 kstr Try.underlying67 ptrR b (Maps.size D) D rfl HA.out HM.out _ _ (.string k.data.toList) rfl rfl HK.out (.held e) [] (ptrR_mk e) ?_
               intro w1 hown1 hg1
               have H1 := Lib.hid (And.intro hown1 hg1)
               clear hown1 hg1)
  go_ret
  exact ⟨rfl, H.out.1.put' H.out.2.1 H.out.2.2 H1.out.1, ((Chg.refl _ w).alloc _).grown H1.out.2 fun j hj => .inl (by injection hj with hj; exact hj.symm)⟩

set_option maxRecDepth 100000 in
set_option maxHeartbeats 2000000 in
theorem removed_do (b : Nat) (l : List KE) (k : ByteArray) (w : World) (h : MD w b l) (hk : k.size ≤ maxLen) :
    Calls Try.prog 162 #[.agg #[.string k], .map (some b)] w fun r w' => r = .returned (.map (some b)) ∧ MD w' b (delL k l) ∧ Chg (fun j => j = b) w w' := by
  obtain ⟨D, hF⟩ := h.2.2
  have HK := Lib.hid (WideMaps.keyOf_string_mk Try.underlying9 (s := k) hk)
  have HA := Lib.hid (hF.own.alloc (.cells #[.string k] 137))
  have H := Lib.hid (And.intro h hF)
  clear h hF
  go_enter Try.func162, Try.ntmps162
  go_wp2_with (at_delete
               refine wpList_delete_own _ rfl (.tmp 5) (.tmp 7) _ 9 rfl 81 kstr Try.underlying67 ptrR b (Maps.size D) D rfl HA.out _ (.string k.data.toList) rfl HK.out ?_
               intro w1 hown1 ht1
               have H1 := Lib.hid (And.intro hown1 ht1.grown)
               clear hown1 ht1)
  go_ret
  exact ⟨rfl, H.out.1.del' H.out.2 H1.out.1, ((Chg.refl _ w).alloc _).grown H1.out.2 fun j hj => .inl (by injection hj with hj; exact hj.symm)⟩

set_option maxRecDepth 100000 in
set_option maxHeartbeats 4000000 in
theorem renamed_do (b e : Nat) (l : List KE) (k k2 : ByteArray) (w : World) (h : MD w b l) (hk : k.size ≤ maxLen) (hk2 : k2.size ≤ 32) (hg : getL k l = some e) (hl : l.length < 1000000000000) :
    Calls Try.prog 165 #[.agg #[.string k, .string k2], .map (some b)] w fun r w' => r = .returned (.map (some b)) ∧ MD w' b (delL k (putL k2 e l)) ∧ Chg (fun j => j = b) w w' := by
  obtain ⟨D, hF⟩ := h.2.2
  have hsz := hF.size h.1
  have HK := Lib.hid (WideMaps.keyOf_string_mk Try.underlying9 (s := k) hk)
  have HK2 := Lib.hid (WideMaps.keyOf_string_mk Try.underlying9 (s := k2) (by unfold maxLen; omega))
  have HM : Hid (Maps.size D < maxLen) := by show _ < _; unfold maxLen; omega
  have HA := Lib.hid (hF.own.alloc (.cells #[.string k, .string k2] 145))
  have hrun := ((h.alloc (.cells #[.string k, .string k2] 145)).look hg hk).1
  have H := Lib.hid (And.intro h (And.intro hF hk2))
  have hbl := h.lt
  clear h hF hsz hg
  go_enter Try.func165, Try.ntmps165
  go_wp2_with (first
    | (at_mapUpdate
       refine wpList_mapUpdate_own _ rfl (.tmp 5) (.tmp 7) (.tmp 11) _ rfl 9 81 kstr Try.underlying67 ptrR b (Maps.size D) D rfl HA.out HM.out _ _ (.string k2.data.toList) rfl rfl HK2.out (.held e) [] (ptrR_mk e) ?_
       intro w1 hown1 hg1
       have hC : Chg (fun j => j = b) w w1 := ((Chg.refl _ w).alloc _).grown hg1 fun j hj => .inl (by injection hj with hj; exact hj.symm)
       have hbox := (Box.new w 145 #[.string k, .string k2]).grown hg1 (by simp; omega)
       have hxc := hbox.cell
       have HF2 := Lib.hid (H.out.2.1.put hown1)
       have H1 := Lib.hid (And.intro (H.out.1.put' H.out.2.1 H.out.2.2 hown1) hC)
       clear hown1 hg1 hC hbox)
    | (at_delete
       refine wpList_delete_own _ rfl (.tmp 12) (.tmp 14) _ 9 rfl 81 kstr Try.underlying67 ptrR b _ _ rfl HF2.out.own _ (.string k.data.toList) rfl HK.out ?_
       intro w2 hown2 ht2
       have H2 := Lib.hid (And.intro hown2 ht2.grown)
       clear hown2 ht2))
  go_ret
  exact ⟨rfl, H1.out.1.del' HF2.out H2.out.1, H1.out.2.grown H2.out.2 fun j hj => .inl (by injection hj with hj; exact hj.symm)⟩
theorem meth_made (f : Nat) (k : ByteArray) (p : Option Addr) (w : World) : (method (f + 1) 139 (.agg #[.string k, .pointer p]) "chronicle/simfs.do").run Try.prog w = .ok (163, .agg #[.string k, .pointer p]) w := by kernel_rfl
theorem ahead_made (f : Nat) (k : ByteArray) (p : Option Addr) (w : World) : (nilAhead (f + 1) 139 (.agg #[.string k, .pointer p]) "chronicle/simfs.do").run Try.prog w = .ok (some false) w := by kernel_rfl

theorem meth_ren (f : Nat) (k k2 : ByteArray) (w : World) : (method (f + 1) 145 (.agg #[.string k, .string k2]) "chronicle/simfs.do").run Try.prog w = .ok (165, .agg #[.string k, .string k2]) w := by kernel_rfl
theorem ahead_ren (f : Nat) (k k2 : ByteArray) (w : World) : (nilAhead (f + 1) 145 (.agg #[.string k, .string k2]) "chronicle/simfs.do").run Try.prog w = .ok (some false) w := by kernel_rfl

theorem meth_rem (f : Nat) (k : ByteArray) (w : World) : (method (f + 1) 137 (.agg #[.string k]) "chronicle/simfs.do").run Try.prog w = .ok (162, .agg #[.string k]) w := by kernel_rfl
theorem ahead_rem (f : Nat) (k : ByteArray) (w : World) : (nilAhead (f + 1) 137 (.agg #[.string k]) "chronicle/simfs.do").run Try.prog w = .ok (some false) w := by kernel_rfl
end Go.Proofs.Ytebeefkibbbkdaa
