import Derived.Test.YtdeaefbjddodjaaGreatDoorGb
import Derived.Shelf.Small.Wraps
import Derived.Shelf.Strings.Split
import Derived.Shelf.Strings.Prefix
import Derived.Shelf.Strconv.ErrVarAll
import Derived.Lib.AtoiErrMem
/- ManifestNames: the document's Name. -/
namespace Go.Proofs.YtdeaefbjddodjaaGreatDoor
open Go.Shelf Go.RowKit

theorem dec_size (a : Int) (h : a < 1073741824) : (⟨(Lib.decDigits a.toNat).toArray⟩ : ByteArray).size ≤ 1073741824 := by
  show (Lib.decDigits a.toNat).toArray.size ≤ _
  have := dig_len a.toNat
  simp
  omega
theorem piece_goodI (suf : List UInt8) (a b : Int) (h1 : 0 ≤ a) (h2 : a < 1073741824) (h3 : 1 ≤ b) (h4 : b < 1073741824) :
    (⟨(pieceN suf a b).toArray⟩ : ByteArray) = ByteArray.mk #[116] ++ ⟨(Lib.decDigits a.toNat).toArray⟩ ++ ByteArray.mk #[46] ++ ⟨(Lib.decDigits b.toNat).toArray⟩ ++ ⟨suf.toArray⟩ := by
  unfold pieceN okId okSeg dec
  rw [if_pos ⟨⟨h1, h2⟩, h3, h4⟩]
  apply ByteArray.ext
  simp
end Go.Proofs.YtdeaefbjddodjaaGreatDoor
/- ManifestNames: the document's Name, where there is none. -/
namespace Go.Proofs.YtdeaefbjddodjaaGreatDoor
open Go.Shelf Go.RowKit

end Go.Proofs.YtdeaefbjddodjaaGreatDoor
/- ManifestNames: the document's Name, the other ways; joined. -/
namespace Go.Proofs.YtdeaefbjddodjaaGreatDoor
open Go.Shelf Go.RowKit

theorem name_bad1 (a b : Int) (t : Bool) (h : ¬ (0 ≤ a ∧ a < 1073741824) ∨ ¬ (1 ≤ b ∧ b < 1073741824)) : nameN ⟨1, a, b, t⟩ = [] := by
  have h1 : baseN ⟨1, a, b, t⟩ = pieceN (46 :: segB) a b := by rw [base_piece]; rfl
  rw [piece_bad h] at h1
  unfold nameN
  rw [if_pos h1]
theorem name_bad2 (a b : Int) (t : Bool) (h : ¬ (0 ≤ a ∧ a < 1073741824) ∨ ¬ (1 ≤ b ∧ b < 1073741824)) : nameN ⟨2, a, b, t⟩ = [] := by
  have h1 : baseN ⟨2, a, b, t⟩ = pieceN (46 :: hintB) a b := by rw [base_piece]; rfl
  rw [piece_bad h] at h1
  unfold nameN
  rw [if_pos h1]
end Go.Proofs.YtdeaefbjddodjaaGreatDoor
/- ManifestNames: what the library's functions that Parse calls do, over plain bytes. -/
namespace Go.Proofs.YtdeaefbjddodjaaGreatDoor
open Go.Shelf Go.RowKit

/-- What Parse asks of the package variables of the library. -/
structure Env (w : World) : Prop where
  tab : Tab w
  ml : ∃ m, w.cell? ⟨3, 0, none⟩ = some (.int .i64 m)
  es : ∃ tp p, w.var? Tryz.prog "strconv.ErrSyntax" = some #[.iface tp p]
  er : ∃ tp p, w.var? Tryz.prog "strconv.ErrRange" = some #[.iface tp p]
theorem var_below {w w' : World} {n : String} {cs : Array Value} (h : w.var? Tryz.prog n = some cs) (hb : Below w.heap.size w w') : w'.var? Tryz.prog n = some cs := by
  unfold World.var? at h ⊢
  cases hg : Tryz.prog.globalNamed n with
  | none => rw [hg] at h; cases h
  | some g =>
    rw [hg] at h
    simp only [Option.bind_some] at h ⊢
    rw [hb.block]
    · exact h
    · refine Classical.byContradiction fun hn => ?_
      rw [Array.getElem?_eq_none (by omega)] at h
      simp at h
theorem Env.below {w w' : World} (h : Env w) (hb : Below w.heap.size w w') : Env w' := by
  refine ⟨tab_below h.tab hb, ?_, ?_, ?_⟩
  · obtain ⟨m, hm⟩ := h.ml
    refine ⟨m, ?_⟩
    have hl : 3 < w.heap.size := World.block_lt_of_cell? _ _ hm
    rw [hb.cell (p := ⟨3, 0, none⟩) hl]
    exact hm
  · obtain ⟨a, b, h1⟩ := h.es; exact ⟨a, b, var_below h1 hb⟩
  · obtain ⟨a, b, h1⟩ := h.er; exact ⟨a, b, var_below h1 hb⟩
theorem Env.heap {w w' : World} (h : Env w) (e : w'.heap = w.heap) : Env w' := by
  obtain ⟨h1, h2, h3, h4⟩ := h
  refine ⟨tab_heap h1 e, ?_, ?_, ?_⟩
  · unfold World.cell? at h2 ⊢; rw [e]; exact h2
  · unfold World.var? at h3 ⊢; rw [e]; exact h3
  · unfold World.var? at h4 ⊢; rw [e]; exact h4
theorem cut_call (s : List UInt8) (hs : s.length ≤ 1048576) (w : World) :
    Calls Tryz.prog 36 #[.string ⟨s.toArray⟩, .string ⟨#[46, 116, 109, 112]⟩] w fun e w' => e = .returned (.tuple #[.string ⟨(cutT s).1.toArray⟩, .bool (cutT s).2]) ∧ w' = w := by
  refine (Any.strings_CutSuffix lay104 ⟨s.toArray⟩ ⟨#[46, 116, 109, 112]⟩ w (by show s.toArray.size ≤ _; simp; omega)).mono ?_
  rintro e w' ⟨rfl, rfl⟩
  refine ⟨?_, rfl⟩
  have h1 : Lib.trimSuffix s tmpB = (cutT s).1 := by unfold Lib.trimSuffix cutT; split <;> rfl
  have h2 : Lib.hasSuffix s tmpB = (cutT s).2 := by unfold cutT; split <;> simp_all
  rw [← h1, ← h2]
  rfl
theorem trim_call (s : List UInt8) (w : World) :
    Calls Tryz.prog 39 #[.string ⟨s.toArray⟩, .string ⟨#[116]⟩] w fun e w' => e = .returned (.string ⟨(Lib.trimPrefix s [116]).toArray⟩) ∧ w' = w :=
  Any.strings_TrimPrefix lay101 ⟨s.toArray⟩ ⟨#[116]⟩ w
theorem split_call (s : List UInt8) (hs : s.length ≤ 1048576) (w : World) (E : Env w) :
    Calls Tryz.prog 37 #[.string ⟨s.toArray⟩, .string ⟨#[46]⟩] w fun e w' =>
      e = .returned (.slice (some ⟨w.heap.size, 0, none⟩) (spl s).length (spl s).length) ∧ w' = w.alloc (.cells ((spl s).map fun l => Value.string ⟨l.toArray⟩).toArray 9) := by
  obtain ⟨m, hm⟩ := E.ml
  refine (Any.strings_Split lay146 (by kernel_rfl) ⟨s.toArray⟩ ⟨#[46]⟩ m w (by show s.toArray.size < _; simp; omega) hm (Nat.le_refl 1)).mono ?_
  rintro e w' ⟨rfl, rfl⟩
  have hc : Lib.countB ⟨s.toArray⟩ ⟨#[46]⟩ = s.count 46 := Lib.count_one 46 s
  have hd := Lib.splitB_data ⟨#[46]⟩ 0 (s.count 46) ⟨s.toArray⟩
  have hsp : Lib.splitK [46] 0 (s.count 46) s = spl s := split_spl _ s rfl
  have hd2 : (Lib.splitB ⟨#[46]⟩ 0 (s.count 46) ⟨s.toArray⟩).map (·.data.toList) = spl s := hd.trans hsp
  have hb := Lib.splitB_all ⟨#[46]⟩ (Nat.le_refl 1) 0 _ ⟨s.toArray⟩ hc
  rw [hc]
  have hlen : s.count 46 + 1 = (spl s).length := by rw [← hd2, List.length_map, hb]
  have hval : (Lib.splitB ⟨#[46]⟩ 0 (s.count 46) ⟨s.toArray⟩).map Value.string = (spl s).map fun l => Value.string ⟨l.toArray⟩ := by
    rw [← hd2, List.map_map]
    rfl
  rw [hlen, hval]
  exact ⟨rfl, rfl⟩
theorem atoi_call (s : List UInt8) (hs : s.length ≤ 1048576) (w : World) (E : Env w) :
    Calls Tryz.prog 38 #[.string ⟨s.toArray⟩] w fun e w' => (∃ x, e = .returned (.tuple #[.int .i64 (atoiV s), x])) ∧ Below w.heap.size w w' := by
  have hz : (⟨s.toArray⟩ : ByteArray).size = s.length := by show s.toArray.size = _; simp
  rcases h : Lib.atoiAll s with v | _ | _
  · refine (Any.strconv_Atoi_ok layC172 ⟨s.toArray⟩ (by omega) v h w).mono ?_
    rintro e w' ⟨rfl, hw⟩
    refine ⟨⟨_, by unfold atoiV; rw [h]⟩, ?_⟩
    rcases hw with rfl | ⟨t, rfl⟩
    · exact Below.refl _ _
    · exact Lib.bytesWorld_below w _ t
  · obtain ⟨tp, p, hv⟩ := E.es
    refine (Any.strconv_Atoi_syntax_var layC172 ⟨s.toArray⟩ (by omega) h tp p w hv).mono ?_
    rintro e w' ⟨N, rfl, _, _, hb⟩
    exact ⟨⟨_, by unfold atoiV; rw [h]⟩, hb⟩
  · obtain ⟨tp, p, hv⟩ := E.er
    refine (Any.strconv_Atoi_range_var layC172 ⟨s.toArray⟩ (by omega) h tp p w hv).mono ?_
    rintro e w' ⟨N, rfl, _, _, hb⟩
    exact ⟨⟨_, by unfold atoiV; rw [h]⟩, hb⟩
theorem spl_len : ∀ (s : List UInt8), ∀ x ∈ spl s, x.length ≤ s.length
  | [], x, h => by simp [spl] at h; subst h; simp
  | b :: s, x, h => by
    rw [spl] at h
    split at h
    · rcases List.mem_cons.1 h with rfl | h
      · simp
      · have := spl_len s x h; simp; omega
    · cases hs : spl s with
      | nil => rw [hs] at h; simp at h; subst h; simp
      | cons y r =>
        rw [hs] at h
        simp only at h
        rcases List.mem_cons.1 h with rfl | h
        · have := spl_len s y (by rw [hs]; simp); simp; omega
        · have := spl_len s x (by rw [hs]; exact List.mem_cons_of_mem _ h); simp; omega
theorem spl_ne : ∀ (s : List UInt8), spl s ≠ []
  | [] => by simp [spl]
  | b :: s => by
    rw [spl]
    split
    · simp
    · split <;> simp
theorem cut_len (s : List UInt8) : (cutT s).1.length ≤ s.length := by
  unfold cutT
  split
  · simp
  · simp
end Go.Proofs.YtdeaefbjddodjaaGreatDoor
/- ManifestNames: manifest.Parse, walked. -/
namespace Go.Proofs.YtdeaefbjddodjaaGreatDoor
open Go.Shelf Go.RowKit

/-- A file's name as a value. -/
def FN.v (n : FN) : Value := .agg #[.int .i64 n.k, .int .i64 n.id, .int .i64 n.seg, .bool n.t]
theorem beq_no {a b : List UInt8} (h : ¬ a = b) : ((⟨a.toArray⟩ : ByteArray).toList == (⟨b.toArray⟩ : ByteArray).toList) = false := by
  rw [beq_eq_false_iff_ne, ByteArray.toList_eq, ByteArray.toList_eq]
  exact h
theorem beq_yes {a b : List UInt8} (h : a = b) : ((⟨a.toArray⟩ : ByteArray).toList == (⟨b.toArray⟩ : ByteArray).toList) = true := by
  rw [h, beq_self_eq_true]
theorem beq_no2 {a b : List UInt8} (h : ¬ a = b) : ((⟨a.toArray⟩ : ByteArray).toList == b) = false := by
  rw [beq_eq_false_iff_ne, ByteArray.toList_eq]
  exact h
theorem beq_yes2 {a b : List UInt8} (h : a = b) : ((⟨a.toArray⟩ : ByteArray).toList == b) = true := by
  rw [ByteArray.toList_eq, beq_iff_eq]
  exact h
/-- What Parse hands back: the name's parts if the name is just this one. -/
def pickV (nm s : List UInt8) (v : Value) : Value := if nm = s then v else FN.v FN.zero
theorem trim_len {x : List UInt8} (h : x.length ≤ 1048576) : (Lib.trimPrefix x [116]).length ≤ 1048576 := by
  unfold Lib.trimPrefix
  split
  · rw [List.length_drop]; omega
  · exact h
set_option maxRecDepth 100000 in
set_option maxHeartbeats 4000000 in
theorem parseM_cat (s r : List UInt8) (t : Bool) (w : World) (hs : s.length ≤ 1048576) (hcut : cutT s = (r, t)) (hcat : r = [99, 97, 116, 97, 108, 111, 103]) :
    Calls Tryz.prog 15 #[.string ⟨s.toArray⟩] w fun e w' => e = .returned (FN.v ⟨4, 0, 0, t⟩) ∧ Below w.heap.size w w' := by
  have C1 := Lib.hid (cut_call s hs)
  rw [hcut] at C1
  have k0 := beq_yes2 hcat
  clear hcut hcat
  obtain ⟨S, hS⟩ : ∃ S : ByteArray, (⟨s.toArray⟩ : ByteArray) = S := ⟨_, rfl⟩
  obtain ⟨R, hR⟩ : ∃ S : ByteArray, (⟨r.toArray⟩ : ByteArray) = S := ⟨_, rfl⟩
  simp only [hS, hR] at C1 k0
  simp only [hS]
  clear hR hS
  go_enter Tryz.func15, Tryz.ntmps15
  go_upto_region 5 with (first
    | (go_at_call 36
       refine (C1.out _).mono ?_
       rintro e w1 ⟨rfl, hw1⟩
       rw [hw1]
       clear hw1)
    | go_in)
  obtain ⟨W0, hW0⟩ : ∃ W0, (w.alloc (.cells #[.int .i64 0, .int .i64 0, .int .i64 0, .bool false] 30)).alloc (.cells #[.int .i64 0, .int .i64 0, .int .i64 0, .bool t] 30) = W0 := ⟨_, rfl⟩
  have hz0 : W0.heap.size = w.heap.size + 2 := by rw [← hW0]; simp
  have hb0 : Below w.heap.size w W0 := by rw [← hW0]; exact (Below.al _ _).alloc (by simp) _
  have hx2 : Box W0 w.heap.size 30 #[.int .i64 0, .int .i64 0, .int .i64 0, .bool false] := by rw [← hW0]; exact (Box.new _ _ _).alloc _
  have hx3 : Box W0 (w.heap.size + 1) 30 #[.int .i64 0, .int .i64 0, .int .i64 0, .bool t] := by rw [← hW0]; simpa using Box.new (w.alloc (.cells #[.int .i64 0, .int .i64 0, .int .i64 0, .bool false] 30)) 30 #[.int .i64 0, .int .i64 0, .int .i64 0, .bool t]
  rw [hW0]
  clear hW0
  have H0 := Lib.hid (And.intro hz0 (And.intro hb0 (And.intro hx2 hx3)))
  clear hz0 hb0 hx2 hx3
  have hxc := H0.out.2.2.2.cell
  have hxf := H0.out.2.2.2.free
  have hxl := H0.out.2.2.2.lt
  have hxc2 := H0.out.2.2.1.cell
  have hxf2 := H0.out.2.2.1.free
  have hxl2 := H0.out.2.2.1.lt
  go_wp2_with fail
  refine bodyPost_ret (v := FN.v ⟨4, 0, 0, t⟩) ?_ rfl ?_
  · simp [results, Tryz.results15, go_sem, hxc2, FN.v]
  refine ⟨rfl, ?_⟩
  repeat (first | with_reducible exact H0.out.2.1 | refine Below.setCell ?_ (by simp) _)
set_option maxRecDepth 100000 in
set_option maxHeartbeats 4000000 in
theorem parseM_1 (s x r : List UInt8) (t : Bool) (w : World) (E : Env w)  (hs : s.length ≤ 1048576) (hr : r.length ≤ 1048576)
    (hne : ¬ s = []) (hcut : cutT s = (r, t)) (hcat : ¬ r = [99, 97, 116, 97, 108, 111, 103]) (hspl : spl r = [x]) (hlx : x.length ≤ 1048576) :
    Calls Tryz.prog 15 #[.string ⟨s.toArray⟩] w fun e w' => e = .returned (pickV (nameN ⟨0, atoiV (Lib.trimPrefix x [116]), 0, t⟩) s (FN.v ⟨0, atoiV (Lib.trimPrefix x [116]), 0, t⟩)) ∧ Below w.heap.size w w' := by
  have C1 := Lib.hid (cut_call s hs)
  rw [hcut] at C1
  have C2 := Lib.hid (split_call r hr)
  rw [hspl] at C2
  have C3 := Lib.hid (trim_call x)
  have C4 := Lib.hid (atoi_call (Lib.trimPrefix x [116]) (trim_len hlx))
  have C6 := Lib.hid (nameM_any 0 (atoiV (Lib.trimPrefix x [116])) (0) t)
  generalize hid1 : atoiV (Lib.trimPrefix x [116]) = id1 at C4 C6
  generalize htx : Lib.trimPrefix x [116] = tx at C3 C4
  generalize hnm : nameN ⟨0, id1, 0, t⟩ = nm at C6
  have k0 := beq_no2 hcat
  have k1 := beq_no2 hne
  have EE := Lib.hid E
  clear E hcut hspl hlx hcat hne hs hr htx hid1
  obtain ⟨S, hS⟩ : ∃ S : ByteArray, (⟨s.toArray⟩ : ByteArray) = S := ⟨_, rfl⟩
  obtain ⟨R, hR⟩ : ∃ S : ByteArray, (⟨r.toArray⟩ : ByteArray) = S := ⟨_, rfl⟩
  obtain ⟨X, hX⟩ : ∃ S : ByteArray, (⟨x.toArray⟩ : ByteArray) = S := ⟨_, rfl⟩
  obtain ⟨T, hT⟩ : ∃ S : ByteArray, (⟨tx.toArray⟩ : ByteArray) = S := ⟨_, rfl⟩
  obtain ⟨NM, hNM⟩ : ∃ S : ByteArray, (⟨nm.toArray⟩ : ByteArray) = S := ⟨_, rfl⟩
  have HS := Lib.hid (And.intro hS hNM)
  simp only [List.map_cons, List.map_nil, List.length_cons, List.length_nil, Nat.zero_add, hS, hR, hX, hT, hNM] at C1 C2 C3 C4 C6 k0 k1
  simp only [hS]
  clear hS hR hX hT hNM
  go_enter Tryz.func15, Tryz.ntmps15
  go_upto_region 7 with (first
    | (go_at_call 36
       refine (C1.out _).mono ?_
       rintro e w1 ⟨rfl, hw1⟩
       rw [hw1]
       clear hw1)
    | go_in)
  obtain ⟨W0, hW0⟩ : ∃ W0, (w.alloc (.cells #[.int .i64 0, .int .i64 0, .int .i64 0, .bool false] 30)).alloc (.cells #[.int .i64 0, .int .i64 0, .int .i64 0, .bool t] 30) = W0 := ⟨_, rfl⟩
  have hz0 : W0.heap.size = w.heap.size + 2 := by rw [← hW0]; simp
  have hb0 : Below w.heap.size w W0 := by rw [← hW0]; exact (Below.al _ _).alloc (by simp) _
  have hx2 : Box W0 w.heap.size 30 #[.int .i64 0, .int .i64 0, .int .i64 0, .bool false] := by rw [← hW0]; exact (Box.new _ _ _).alloc _
  have hx3 : Box W0 (w.heap.size + 1) 30 #[.int .i64 0, .int .i64 0, .int .i64 0, .bool t] := by rw [← hW0]; simpa using Box.new (w.alloc (.cells #[.int .i64 0, .int .i64 0, .int .i64 0, .bool false] 30)) 30 #[.int .i64 0, .int .i64 0, .int .i64 0, .bool t]
  rw [hW0]
  clear hW0
  have H0 := Lib.hid (And.intro hz0 (And.intro hb0 (And.intro hx2 hx3)))
  clear hz0 hb0 hx2 hx3
  go_upto_region 9 with (first
    | (go_at_call 37
       refine (C2.out _ (EE.out.below H0.out.2.1)).mono ?_
       rintro e w1 ⟨rfl, hw1⟩
       have hb1 : Below W0.heap.size W0 w1 := by rw [hw1]; exact Below.al _ _
       have hz1 : w1.heap.size = W0.heap.size + 1 := by rw [hw1]; simp
       have hxp : Box w1 W0.heap.size 9 #[.string X] := by rw [hw1]; exact Box.new _ _ _
       have hxc := hxp.cell
       have H1 := Lib.hid (And.intro hz1 (And.intro (H0.out.2.1.trans (hb1.mono H0.out.2.1.size)) (And.intro (H0.out.2.2.1.next hb1) (And.intro (H0.out.2.2.2.next hb1) hxp))))
       clear hb1 hz1 hxp hw1)
    | (go_at_call 39
       refine (C3.out _).mono ?_
       rintro e w2 ⟨rfl, hw2⟩
       rw [hw2]
       clear hw2)
    | (go_at_call 38
       refine (C4.out _ (EE.out.below H1.out.2.1)).mono ?_
       rintro e w3 ⟨⟨xe, rfl⟩, hb3⟩
       clear hxc
       have hx3 := H1.out.2.2.2.1.next hb3
       have hxc := hx3.cell
       have hxf := hx3.free
       have hxl := hx3.lt
       have H3 := Lib.hid (And.intro (H1.out.2.1.trans (hb3.mono H1.out.2.1.size)) (And.intro (H1.out.2.2.1.next hb3) (And.intro hx3 (H1.out.2.2.2.2.next hb3))))
       clear hb3 hx3)
    | go_in)
  obtain ⟨W4, hW4⟩ : ∃ Wx, w3.setCell ⟨w.heap.size + 1, 1, none⟩ (.int .i64 id1) = Wx := ⟨_, rfl⟩
  have hb4 : Below w.heap.size w W4 := by rw [← hW4]; exact H3.out.1.setCell (by simp) _
  have hx2 : Box W4 w.heap.size 30 #[.int .i64 0, .int .i64 0, .int .i64 0, .bool false] := by rw [← hW4]; exact H3.out.2.1.far (by simp) _
  have hx3 : Box W4 (w.heap.size + 1) 30 #[.int .i64 0, .int .i64 id1, .int .i64 0, .bool t] := by rw [← hW4]; exact H3.out.2.2.1.set_ 1 _
  have hxp : Box W4 W0.heap.size 9 #[.string X] := by rw [← hW4]; exact H3.out.2.2.2.far (by have := H0.out.1; simp; omega) _
  rw [hW4]
  clear hxc hxf hxl hW4
  have hxc := hx3.cell
  have hxf := hx3.free
  have hxl := hx3.lt
  have H4 := Lib.hid (And.intro hb4 (And.intro hx2 (And.intro hx3 hxp)))
  clear hb4 hx2 hx3 hxp
  go_upto_region 17 with fail
  have HE : Hid (∀ W, Below w.heap.size w W → Tab W) := Lib.hid fun W hb => (EE.out.below hb).tab
  by_cases hq : nm = s
  · have k9 : (NM.toList == S.toList) = true := by rw [← HS.out.1, ← HS.out.2]; exact beq_yes hq
    have HQ := Lib.hid hq
    clear hq
    go_wp2_with (first
      | (go_at_call 14
         refine (C6.out _ (HE.out _ H4.out.1)).mono ?_
         rintro e w8 ⟨rfl, hb8⟩
         clear hxc hxf hxl
         have hx2 := H4.out.2.1.next hb8
         have hx3 := H4.out.2.2.1.next hb8
         have hxc := hx3.cell
         have hxc2 := hx2.cell
         have hxf2 := hx2.free
         have hxl2 := hx2.lt
         have H8 := Lib.hid (H4.out.1.trans (hb8.mono H4.out.1.size))
         clear hb8 hx2 hx3))
    refine bodyPost_ret (v := FN.v ⟨0, id1, 0, t⟩) ?_ rfl ?_
    · simp [results, Tryz.results15, go_sem, hxc2, FN.v]
    refine ⟨by unfold pickV; rw [if_pos HQ.out], ?_⟩
    repeat (first | with_reducible exact H8.out | refine Below.setCell ?_ (by simp) _)
  · have k9 : (NM.toList == S.toList) = false := by rw [← HS.out.1, ← HS.out.2]; exact beq_no hq
    have HQ := Lib.hid hq
    clear hq
    go_wp2_with (first
      | (go_at_call 14
         refine (C6.out _ (HE.out _ H4.out.1)).mono ?_
         rintro e w8 ⟨rfl, hb8⟩
         clear hxc hxf hxl
         have hx2 := H4.out.2.1.next hb8
         have hx3 := H4.out.2.2.1.next hb8
         have hxc := hx3.cell
         have hxc2 := hx2.cell
         have hxf2 := hx2.free
         have hxl2 := hx2.lt
         have H8 := Lib.hid (H4.out.1.trans (hb8.mono H4.out.1.size))
         clear hb8 hx2 hx3))
    refine bodyPost_ret (v := FN.v FN.zero) ?_ rfl ?_
    · simp [results, Tryz.results15, go_sem, hxc2, FN.v, FN.zero]
    refine ⟨by unfold pickV; rw [if_neg HQ.out], ?_⟩
    repeat (first | with_reducible exact H8.out | refine Below.setCell ?_ (by simp) _)
set_option maxRecDepth 100000 in
set_option maxHeartbeats 4000000 in
theorem parseM_1e (s x r : List UInt8) (t : Bool) (w : World) (E : Env w)  (hs : s.length ≤ 1048576) (hr : r.length ≤ 1048576)
    (hne : s = []) (hcut : cutT s = (r, t)) (hcat : ¬ r = [99, 97, 116, 97, 108, 111, 103]) (hspl : spl r = [x]) (hlx : x.length ≤ 1048576) :
    Calls Tryz.prog 15 #[.string ⟨s.toArray⟩] w fun e w' => e = .returned (FN.v FN.zero) ∧ Below w.heap.size w w' := by
  have C1 := Lib.hid (cut_call s hs)
  rw [hcut] at C1
  have C2 := Lib.hid (split_call r hr)
  rw [hspl] at C2
  have C3 := Lib.hid (trim_call x)
  have C4 := Lib.hid (atoi_call (Lib.trimPrefix x [116]) (trim_len hlx))
  generalize hid1 : atoiV (Lib.trimPrefix x [116]) = id1 at C4
  generalize htx : Lib.trimPrefix x [116] = tx at C3 C4
  have k0 := beq_no2 hcat
  have k1 := beq_yes2 hne
  have EE := Lib.hid E
  clear E hcut hspl hlx hcat hne hs hr htx hid1
  obtain ⟨S, hS⟩ : ∃ S : ByteArray, (⟨s.toArray⟩ : ByteArray) = S := ⟨_, rfl⟩
  obtain ⟨R, hR⟩ : ∃ S : ByteArray, (⟨r.toArray⟩ : ByteArray) = S := ⟨_, rfl⟩
  obtain ⟨X, hX⟩ : ∃ S : ByteArray, (⟨x.toArray⟩ : ByteArray) = S := ⟨_, rfl⟩
  obtain ⟨T, hT⟩ : ∃ S : ByteArray, (⟨tx.toArray⟩ : ByteArray) = S := ⟨_, rfl⟩
  simp only [List.map_cons, List.map_nil, List.length_cons, List.length_nil, Nat.zero_add, hS, hR, hX, hT] at C1 C2 C3 C4 k0 k1
  simp only [hS]
  clear hS hR hX hT
  go_enter Tryz.func15, Tryz.ntmps15
  go_upto_region 7 with (first
    | (go_at_call 36
       refine (C1.out _).mono ?_
       rintro e w1 ⟨rfl, hw1⟩
       rw [hw1]
       clear hw1)
    | go_in)
  obtain ⟨W0, hW0⟩ : ∃ W0, (w.alloc (.cells #[.int .i64 0, .int .i64 0, .int .i64 0, .bool false] 30)).alloc (.cells #[.int .i64 0, .int .i64 0, .int .i64 0, .bool t] 30) = W0 := ⟨_, rfl⟩
  have hz0 : W0.heap.size = w.heap.size + 2 := by rw [← hW0]; simp
  have hb0 : Below w.heap.size w W0 := by rw [← hW0]; exact (Below.al _ _).alloc (by simp) _
  have hx2 : Box W0 w.heap.size 30 #[.int .i64 0, .int .i64 0, .int .i64 0, .bool false] := by rw [← hW0]; exact (Box.new _ _ _).alloc _
  have hx3 : Box W0 (w.heap.size + 1) 30 #[.int .i64 0, .int .i64 0, .int .i64 0, .bool t] := by rw [← hW0]; simpa using Box.new (w.alloc (.cells #[.int .i64 0, .int .i64 0, .int .i64 0, .bool false] 30)) 30 #[.int .i64 0, .int .i64 0, .int .i64 0, .bool t]
  rw [hW0]
  clear hW0
  have H0 := Lib.hid (And.intro hz0 (And.intro hb0 (And.intro hx2 hx3)))
  clear hz0 hb0 hx2 hx3
  go_upto_region 9 with (first
    | (go_at_call 37
       refine (C2.out _ (EE.out.below H0.out.2.1)).mono ?_
       rintro e w1 ⟨rfl, hw1⟩
       have hb1 : Below W0.heap.size W0 w1 := by rw [hw1]; exact Below.al _ _
       have hz1 : w1.heap.size = W0.heap.size + 1 := by rw [hw1]; simp
       have hxp : Box w1 W0.heap.size 9 #[.string X] := by rw [hw1]; exact Box.new _ _ _
       have hxc := hxp.cell
       have H1 := Lib.hid (And.intro hz1 (And.intro (H0.out.2.1.trans (hb1.mono H0.out.2.1.size)) (And.intro (H0.out.2.2.1.next hb1) (And.intro (H0.out.2.2.2.next hb1) hxp))))
       clear hb1 hz1 hxp hw1)
    | (go_at_call 39
       refine (C3.out _).mono ?_
       rintro e w2 ⟨rfl, hw2⟩
       rw [hw2]
       clear hw2)
    | (go_at_call 38
       refine (C4.out _ (EE.out.below H1.out.2.1)).mono ?_
       rintro e w3 ⟨⟨xe, rfl⟩, hb3⟩
       clear hxc
       have hx3 := H1.out.2.2.2.1.next hb3
       have hxc := hx3.cell
       have hxf := hx3.free
       have hxl := hx3.lt
       have H3 := Lib.hid (And.intro (H1.out.2.1.trans (hb3.mono H1.out.2.1.size)) (And.intro (H1.out.2.2.1.next hb3) (And.intro hx3 (H1.out.2.2.2.2.next hb3))))
       clear hb3 hx3)
    | go_in)
  obtain ⟨W4, hW4⟩ : ∃ Wx, w3.setCell ⟨w.heap.size + 1, 1, none⟩ (.int .i64 id1) = Wx := ⟨_, rfl⟩
  have hb4 : Below w.heap.size w W4 := by rw [← hW4]; exact H3.out.1.setCell (by simp) _
  have hx2 : Box W4 w.heap.size 30 #[.int .i64 0, .int .i64 0, .int .i64 0, .bool false] := by rw [← hW4]; exact H3.out.2.1.far (by simp) _
  have hx3 : Box W4 (w.heap.size + 1) 30 #[.int .i64 0, .int .i64 id1, .int .i64 0, .bool t] := by rw [← hW4]; exact H3.out.2.2.1.set_ 1 _
  have hxp : Box W4 W0.heap.size 9 #[.string X] := by rw [← hW4]; exact H3.out.2.2.2.far (by have := H0.out.1; simp; omega) _
  rw [hW4]
  clear hxc hxf hxl hW4
  have hxc := hx3.cell
  have hxf := hx3.free
  have hxl := hx3.lt
  have H4 := Lib.hid (And.intro hb4 (And.intro hx2 (And.intro hx3 hxp)))
  clear hb4 hx2 hx3 hxp
  have hx2 := H4.out.2.1
  have hxc2 := hx2.cell
  have hxf2 := hx2.free
  have hxl2 := hx2.lt
  go_wp2_with fail
  refine bodyPost_ret (v := FN.v FN.zero) ?_ rfl ?_
  · simp [results, Tryz.results15, go_sem, hxc2, FN.v, FN.zero]
  refine ⟨rfl, ?_⟩
  repeat (first | with_reducible exact H4.out.1 | refine Below.setCell ?_ (by simp) _)
set_option maxRecDepth 100000 in
set_option maxHeartbeats 4000000 in
theorem parseM_2m (s x y r : List UInt8) (t : Bool) (w : World) (E : Env w)  (hs : s.length ≤ 1048576) (hr : r.length ≤ 1048576)
    (hne : ¬ s = []) (hcut : cutT s = (r, t)) (hcat : ¬ r = [99, 97, 116, 97, 108, 111, 103]) (hspl : spl r = [x, y]) (hlx : x.length ≤ 1048576) (h0 : y = [109, 97, 110]) :
    Calls Tryz.prog 15 #[.string ⟨s.toArray⟩] w fun e w' => e = .returned (pickV (nameN ⟨3, atoiV (Lib.trimPrefix x [116]), 0, t⟩) s (FN.v ⟨3, atoiV (Lib.trimPrefix x [116]), 0, t⟩)) ∧ Below w.heap.size w w' := by
  have C1 := Lib.hid (cut_call s hs)
  rw [hcut] at C1
  have C2 := Lib.hid (split_call r hr)
  rw [hspl] at C2
  have C3 := Lib.hid (trim_call x)
  have C4 := Lib.hid (atoi_call (Lib.trimPrefix x [116]) (trim_len hlx))
  have C6 := Lib.hid (nameM_any 3 (atoiV (Lib.trimPrefix x [116])) (0) t)
  generalize hid1 : atoiV (Lib.trimPrefix x [116]) = id1 at C4 C6
  generalize htx : Lib.trimPrefix x [116] = tx at C3 C4
  generalize hnm : nameN ⟨3, id1, 0, t⟩ = nm at C6
  have k0 := beq_no2 hcat
  have k1 := beq_no2 hne
  have g0 := beq_yes2 h0
  have EE := Lib.hid E
  clear E hcut hspl hlx hcat hne hs hr htx hid1 h0
  obtain ⟨S, hS⟩ : ∃ S : ByteArray, (⟨s.toArray⟩ : ByteArray) = S := ⟨_, rfl⟩
  obtain ⟨R, hR⟩ : ∃ S : ByteArray, (⟨r.toArray⟩ : ByteArray) = S := ⟨_, rfl⟩
  obtain ⟨X, hX⟩ : ∃ S : ByteArray, (⟨x.toArray⟩ : ByteArray) = S := ⟨_, rfl⟩
  obtain ⟨T, hT⟩ : ∃ S : ByteArray, (⟨tx.toArray⟩ : ByteArray) = S := ⟨_, rfl⟩
  obtain ⟨Y, hY⟩ : ∃ S : ByteArray, (⟨y.toArray⟩ : ByteArray) = S := ⟨_, rfl⟩
  obtain ⟨NM, hNM⟩ : ∃ S : ByteArray, (⟨nm.toArray⟩ : ByteArray) = S := ⟨_, rfl⟩
  have HS := Lib.hid (And.intro hS hNM)
  simp only [List.map_cons, List.map_nil, List.length_cons, List.length_nil, Nat.zero_add, Nat.reduceAdd, hS, hR, hX, hT, hY, hNM] at C1 C2 C3 C4 C6 k0 k1 g0
  simp only [hS]
  clear hS hR hX hT hY hNM
  go_enter Tryz.func15, Tryz.ntmps15
  go_upto_region 7 with (first
    | (go_at_call 36
       refine (C1.out _).mono ?_
       rintro e w1 ⟨rfl, hw1⟩
       rw [hw1]
       clear hw1)
    | go_in)
  obtain ⟨W0, hW0⟩ : ∃ W0, (w.alloc (.cells #[.int .i64 0, .int .i64 0, .int .i64 0, .bool false] 30)).alloc (.cells #[.int .i64 0, .int .i64 0, .int .i64 0, .bool t] 30) = W0 := ⟨_, rfl⟩
  have hz0 : W0.heap.size = w.heap.size + 2 := by rw [← hW0]; simp
  have hb0 : Below w.heap.size w W0 := by rw [← hW0]; exact (Below.al _ _).alloc (by simp) _
  have hx2 : Box W0 w.heap.size 30 #[.int .i64 0, .int .i64 0, .int .i64 0, .bool false] := by rw [← hW0]; exact (Box.new _ _ _).alloc _
  have hx3 : Box W0 (w.heap.size + 1) 30 #[.int .i64 0, .int .i64 0, .int .i64 0, .bool t] := by rw [← hW0]; simpa using Box.new (w.alloc (.cells #[.int .i64 0, .int .i64 0, .int .i64 0, .bool false] 30)) 30 #[.int .i64 0, .int .i64 0, .int .i64 0, .bool t]
  rw [hW0]
  clear hW0
  have H0 := Lib.hid (And.intro hz0 (And.intro hb0 (And.intro hx2 hx3)))
  clear hz0 hb0 hx2 hx3
  go_upto_region 9 with (first
    | (go_at_call 37
       refine (C2.out _ (EE.out.below H0.out.2.1)).mono ?_
       rintro e w1 ⟨rfl, hw1⟩
       have hb1 : Below W0.heap.size W0 w1 := by rw [hw1]; exact Below.al _ _
       have hz1 : w1.heap.size = W0.heap.size + 1 := by rw [hw1]; simp
       have hxp : Box w1 W0.heap.size 9 #[.string X, .string Y] := by rw [hw1]; exact Box.new _ _ _
       have hxc := hxp.cell
       have H1 := Lib.hid (And.intro hz1 (And.intro (H0.out.2.1.trans (hb1.mono H0.out.2.1.size)) (And.intro (H0.out.2.2.1.next hb1) (And.intro (H0.out.2.2.2.next hb1) hxp))))
       clear hb1 hz1 hxp hw1)
    | (go_at_call 39
       refine (C3.out _).mono ?_
       rintro e w2 ⟨rfl, hw2⟩
       rw [hw2]
       clear hw2)
    | (go_at_call 38
       refine (C4.out _ (EE.out.below H1.out.2.1)).mono ?_
       rintro e w3 ⟨⟨xe, rfl⟩, hb3⟩
       clear hxc
       have hx3 := H1.out.2.2.2.1.next hb3
       have hxc := hx3.cell
       have hxf := hx3.free
       have hxl := hx3.lt
       have H3 := Lib.hid (And.intro (H1.out.2.1.trans (hb3.mono H1.out.2.1.size)) (And.intro (H1.out.2.2.1.next hb3) (And.intro hx3 (H1.out.2.2.2.2.next hb3))))
       clear hb3 hx3)
    | go_in)
  obtain ⟨W4, hW4⟩ : ∃ Wx, w3.setCell ⟨w.heap.size + 1, 1, none⟩ (.int .i64 id1) = Wx := ⟨_, rfl⟩
  have hb4 : Below w.heap.size w W4 := by rw [← hW4]; exact H3.out.1.setCell (by simp) _
  have hx2 : Box W4 w.heap.size 30 #[.int .i64 0, .int .i64 0, .int .i64 0, .bool false] := by rw [← hW4]; exact H3.out.2.1.far (by simp) _
  have hx3 : Box W4 (w.heap.size + 1) 30 #[.int .i64 0, .int .i64 id1, .int .i64 0, .bool t] := by rw [← hW4]; exact H3.out.2.2.1.set_ 1 _
  have hxp : Box W4 W0.heap.size 9 #[.string X, .string Y] := by rw [← hW4]; exact H3.out.2.2.2.far (by have := H0.out.1; simp; omega) _
  rw [hW4]
  clear hxc hxf hxl hW4
  have hxc := hx3.cell
  have hxf := hx3.free
  have hxl := hx3.lt
  have hxq := hxp.cell
  have H4 := Lib.hid (And.intro hb4 (And.intro hx2 (And.intro hx3 hxp)))
  clear hb4 hx2 hx3 hxp
  go_upto_region 15 with fail
  obtain ⟨W5, hW5⟩ : ∃ Wx, W4.setCell ⟨w.heap.size + 1, 0, none⟩ (.int .i64 3) = Wx := ⟨_, rfl⟩
  have hb4 : Below w.heap.size w W5 := by rw [← hW5]; exact H4.out.1.setCell (by simp) _
  have hx2 : Box W5 w.heap.size 30 #[.int .i64 0, .int .i64 0, .int .i64 0, .bool false] := by rw [← hW5]; exact H4.out.2.1.far (by simp) _
  have hx3 : Box W5 (w.heap.size + 1) 30 #[.int .i64 3, .int .i64 id1, .int .i64 0, .bool t] := by rw [← hW5]; exact H4.out.2.2.1.set_ 0 _
  have hxp : Box W5 W0.heap.size 9 #[.string X, .string Y] := by rw [← hW5]; exact H4.out.2.2.2.far (by have := H0.out.1; simp; omega) _
  rw [hW5]
  clear hxc hxf hxl hxq hW5
  have hxc := hx3.cell
  have hxf := hx3.free
  have hxl := hx3.lt
  have H5 := Lib.hid (And.intro hb4 (And.intro hx2 (And.intro hx3 hxp)))
  clear hb4 hx2 hx3 hxp
  go_upto_region 17 with fail
  have HE : Hid (∀ W, Below w.heap.size w W → Tab W) := Lib.hid fun W hb => (EE.out.below hb).tab
  by_cases hq : nm = s
  · have k9 : (NM.toList == S.toList) = true := by rw [← HS.out.1, ← HS.out.2]; exact beq_yes hq
    have HQ := Lib.hid hq
    clear hq
    go_wp2_with (first
      | (go_at_call 14
         refine (C6.out _ (HE.out _ H5.out.1)).mono ?_
         rintro e w8 ⟨rfl, hb8⟩
         clear hxc hxf hxl
         have hx2 := H5.out.2.1.next hb8
         have hx3 := H5.out.2.2.1.next hb8
         have hxc := hx3.cell
         have hxc2 := hx2.cell
         have hxf2 := hx2.free
         have hxl2 := hx2.lt
         have H8 := Lib.hid (H5.out.1.trans (hb8.mono H5.out.1.size))
         clear hb8 hx2 hx3))
    refine bodyPost_ret (v := FN.v ⟨3, id1, 0, t⟩) ?_ rfl ?_
    · simp [results, Tryz.results15, go_sem, hxc2, FN.v]
    refine ⟨by unfold pickV; rw [if_pos HQ.out], ?_⟩
    repeat (first | with_reducible exact H8.out | refine Below.setCell ?_ (by simp) _)
  · have k9 : (NM.toList == S.toList) = false := by rw [← HS.out.1, ← HS.out.2]; exact beq_no hq
    have HQ := Lib.hid hq
    clear hq
    go_wp2_with (first
      | (go_at_call 14
         refine (C6.out _ (HE.out _ H5.out.1)).mono ?_
         rintro e w8 ⟨rfl, hb8⟩
         clear hxc hxf hxl
         have hx2 := H5.out.2.1.next hb8
         have hx3 := H5.out.2.2.1.next hb8
         have hxc := hx3.cell
         have hxc2 := hx2.cell
         have hxf2 := hx2.free
         have hxl2 := hx2.lt
         have H8 := Lib.hid (H5.out.1.trans (hb8.mono H5.out.1.size))
         clear hb8 hx2 hx3))
    refine bodyPost_ret (v := FN.v FN.zero) ?_ rfl ?_
    · simp [results, Tryz.results15, go_sem, hxc2, FN.v, FN.zero]
    refine ⟨by unfold pickV; rw [if_neg HQ.out], ?_⟩
    repeat (first | with_reducible exact H8.out | refine Below.setCell ?_ (by simp) _)
set_option maxRecDepth 100000 in
set_option maxHeartbeats 4000000 in
theorem parseM_2o (s x y r : List UInt8) (t : Bool) (w : World) (E : Env w)  (hs : s.length ≤ 1048576) (hr : r.length ≤ 1048576)
    (hne : ¬ s = []) (hcut : cutT s = (r, t)) (hcat : ¬ r = [99, 97, 116, 97, 108, 111, 103]) (hspl : spl r = [x, y]) (hlx : x.length ≤ 1048576) (h0 : ¬ y = [109, 97, 110]) :
    Calls Tryz.prog 15 #[.string ⟨s.toArray⟩] w fun e w' => e = .returned (pickV (nameN ⟨0, atoiV (Lib.trimPrefix x [116]), 0, t⟩) s (FN.v ⟨0, atoiV (Lib.trimPrefix x [116]), 0, t⟩)) ∧ Below w.heap.size w w' := by
  have C1 := Lib.hid (cut_call s hs)
  rw [hcut] at C1
  have C2 := Lib.hid (split_call r hr)
  rw [hspl] at C2
  have C3 := Lib.hid (trim_call x)
  have C4 := Lib.hid (atoi_call (Lib.trimPrefix x [116]) (trim_len hlx))
  have C6 := Lib.hid (nameM_any 0 (atoiV (Lib.trimPrefix x [116])) (0) t)
  generalize hid1 : atoiV (Lib.trimPrefix x [116]) = id1 at C4 C6
  generalize htx : Lib.trimPrefix x [116] = tx at C3 C4
  generalize hnm : nameN ⟨0, id1, 0, t⟩ = nm at C6
  have k0 := beq_no2 hcat
  have k1 := beq_no2 hne
  have g0 := beq_no2 h0
  have EE := Lib.hid E
  clear E hcut hspl hlx hcat hne hs hr htx hid1 h0
  obtain ⟨S, hS⟩ : ∃ S : ByteArray, (⟨s.toArray⟩ : ByteArray) = S := ⟨_, rfl⟩
  obtain ⟨R, hR⟩ : ∃ S : ByteArray, (⟨r.toArray⟩ : ByteArray) = S := ⟨_, rfl⟩
  obtain ⟨X, hX⟩ : ∃ S : ByteArray, (⟨x.toArray⟩ : ByteArray) = S := ⟨_, rfl⟩
  obtain ⟨T, hT⟩ : ∃ S : ByteArray, (⟨tx.toArray⟩ : ByteArray) = S := ⟨_, rfl⟩
  obtain ⟨Y, hY⟩ : ∃ S : ByteArray, (⟨y.toArray⟩ : ByteArray) = S := ⟨_, rfl⟩
  obtain ⟨NM, hNM⟩ : ∃ S : ByteArray, (⟨nm.toArray⟩ : ByteArray) = S := ⟨_, rfl⟩
  have HS := Lib.hid (And.intro hS hNM)
  simp only [List.map_cons, List.map_nil, List.length_cons, List.length_nil, Nat.zero_add, Nat.reduceAdd, hS, hR, hX, hT, hY, hNM] at C1 C2 C3 C4 C6 k0 k1 g0
  simp only [hS]
  clear hS hR hX hT hY hNM
  go_enter Tryz.func15, Tryz.ntmps15
  go_upto_region 7 with (first
    | (go_at_call 36
       refine (C1.out _).mono ?_
       rintro e w1 ⟨rfl, hw1⟩
       rw [hw1]
       clear hw1)
    | go_in)
  obtain ⟨W0, hW0⟩ : ∃ W0, (w.alloc (.cells #[.int .i64 0, .int .i64 0, .int .i64 0, .bool false] 30)).alloc (.cells #[.int .i64 0, .int .i64 0, .int .i64 0, .bool t] 30) = W0 := ⟨_, rfl⟩
  have hz0 : W0.heap.size = w.heap.size + 2 := by rw [← hW0]; simp
  have hb0 : Below w.heap.size w W0 := by rw [← hW0]; exact (Below.al _ _).alloc (by simp) _
  have hx2 : Box W0 w.heap.size 30 #[.int .i64 0, .int .i64 0, .int .i64 0, .bool false] := by rw [← hW0]; exact (Box.new _ _ _).alloc _
  have hx3 : Box W0 (w.heap.size + 1) 30 #[.int .i64 0, .int .i64 0, .int .i64 0, .bool t] := by rw [← hW0]; simpa using Box.new (w.alloc (.cells #[.int .i64 0, .int .i64 0, .int .i64 0, .bool false] 30)) 30 #[.int .i64 0, .int .i64 0, .int .i64 0, .bool t]
  rw [hW0]
  clear hW0
  have H0 := Lib.hid (And.intro hz0 (And.intro hb0 (And.intro hx2 hx3)))
  clear hz0 hb0 hx2 hx3
  go_upto_region 9 with (first
    | (go_at_call 37
       refine (C2.out _ (EE.out.below H0.out.2.1)).mono ?_
       rintro e w1 ⟨rfl, hw1⟩
       have hb1 : Below W0.heap.size W0 w1 := by rw [hw1]; exact Below.al _ _
       have hz1 : w1.heap.size = W0.heap.size + 1 := by rw [hw1]; simp
       have hxp : Box w1 W0.heap.size 9 #[.string X, .string Y] := by rw [hw1]; exact Box.new _ _ _
       have hxc := hxp.cell
       have H1 := Lib.hid (And.intro hz1 (And.intro (H0.out.2.1.trans (hb1.mono H0.out.2.1.size)) (And.intro (H0.out.2.2.1.next hb1) (And.intro (H0.out.2.2.2.next hb1) hxp))))
       clear hb1 hz1 hxp hw1)
    | (go_at_call 39
       refine (C3.out _).mono ?_
       rintro e w2 ⟨rfl, hw2⟩
       rw [hw2]
       clear hw2)
    | (go_at_call 38
       refine (C4.out _ (EE.out.below H1.out.2.1)).mono ?_
       rintro e w3 ⟨⟨xe, rfl⟩, hb3⟩
       clear hxc
       have hx3 := H1.out.2.2.2.1.next hb3
       have hxc := hx3.cell
       have hxf := hx3.free
       have hxl := hx3.lt
       have H3 := Lib.hid (And.intro (H1.out.2.1.trans (hb3.mono H1.out.2.1.size)) (And.intro (H1.out.2.2.1.next hb3) (And.intro hx3 (H1.out.2.2.2.2.next hb3))))
       clear hb3 hx3)
    | go_in)
  obtain ⟨W4, hW4⟩ : ∃ Wx, w3.setCell ⟨w.heap.size + 1, 1, none⟩ (.int .i64 id1) = Wx := ⟨_, rfl⟩
  have hb4 : Below w.heap.size w W4 := by rw [← hW4]; exact H3.out.1.setCell (by simp) _
  have hx2 : Box W4 w.heap.size 30 #[.int .i64 0, .int .i64 0, .int .i64 0, .bool false] := by rw [← hW4]; exact H3.out.2.1.far (by simp) _
  have hx3 : Box W4 (w.heap.size + 1) 30 #[.int .i64 0, .int .i64 id1, .int .i64 0, .bool t] := by rw [← hW4]; exact H3.out.2.2.1.set_ 1 _
  have hxp : Box W4 W0.heap.size 9 #[.string X, .string Y] := by rw [← hW4]; exact H3.out.2.2.2.far (by have := H0.out.1; simp; omega) _
  rw [hW4]
  clear hxc hxf hxl hW4
  have hxc := hx3.cell
  have hxf := hx3.free
  have hxl := hx3.lt
  have hxq := hxp.cell
  have H4 := Lib.hid (And.intro hb4 (And.intro hx2 (And.intro hx3 hxp)))
  clear hb4 hx2 hx3 hxp
  go_upto_region 17 with fail
  have HE : Hid (∀ W, Below w.heap.size w W → Tab W) := Lib.hid fun W hb => (EE.out.below hb).tab
  by_cases hq : nm = s
  · have k9 : (NM.toList == S.toList) = true := by rw [← HS.out.1, ← HS.out.2]; exact beq_yes hq
    have HQ := Lib.hid hq
    clear hq
    go_wp2_with (first
      | (go_at_call 14
         refine (C6.out _ (HE.out _ H4.out.1)).mono ?_
         rintro e w8 ⟨rfl, hb8⟩
         clear hxc hxf hxl hxq
         have hx2 := H4.out.2.1.next hb8
         have hx3 := H4.out.2.2.1.next hb8
         have hxc := hx3.cell
         have hxc2 := hx2.cell
         have hxf2 := hx2.free
         have hxl2 := hx2.lt
         have H8 := Lib.hid (H4.out.1.trans (hb8.mono H4.out.1.size))
         clear hb8 hx2 hx3))
    refine bodyPost_ret (v := FN.v ⟨0, id1, 0, t⟩) ?_ rfl ?_
    · simp [results, Tryz.results15, go_sem, hxc2, FN.v]
    refine ⟨by unfold pickV; rw [if_pos HQ.out], ?_⟩
    repeat (first | with_reducible exact H8.out | refine Below.setCell ?_ (by simp) _)
  · have k9 : (NM.toList == S.toList) = false := by rw [← HS.out.1, ← HS.out.2]; exact beq_no hq
    have HQ := Lib.hid hq
    clear hq
    go_wp2_with (first
      | (go_at_call 14
         refine (C6.out _ (HE.out _ H4.out.1)).mono ?_
         rintro e w8 ⟨rfl, hb8⟩
         clear hxc hxf hxl hxq
         have hx2 := H4.out.2.1.next hb8
         have hx3 := H4.out.2.2.1.next hb8
         have hxc := hx3.cell
         have hxc2 := hx2.cell
         have hxf2 := hx2.free
         have hxl2 := hx2.lt
         have H8 := Lib.hid (H4.out.1.trans (hb8.mono H4.out.1.size))
         clear hb8 hx2 hx3))
    refine bodyPost_ret (v := FN.v FN.zero) ?_ rfl ?_
    · simp [results, Tryz.results15, go_sem, hxc2, FN.v, FN.zero]
    refine ⟨by unfold pickV; rw [if_neg HQ.out], ?_⟩
    repeat (first | with_reducible exact H8.out | refine Below.setCell ?_ (by simp) _)
end Go.Proofs.YtdeaefbjddodjaaGreatDoor
/- ManifestNames: manifest.Parse, walked. -/
namespace Go.Proofs.YtdeaefbjddodjaaGreatDoor
open Go.Shelf Go.RowKit

set_option maxRecDepth 100000 in
set_option maxHeartbeats 4000000 in
theorem parseM_3s (s x y z r : List UInt8) (t : Bool) (w : World) (E : Env w)  (hs : s.length ≤ 1048576) (hr : r.length ≤ 1048576)
    (hne : ¬ s = []) (hcut : cutT s = (r, t)) (hcat : ¬ r = [99, 97, 116, 97, 108, 111, 103]) (hspl : spl r = [x, y, z]) (hlx : x.length ≤ 1048576) (hly : y.length ≤ 1048576) (h0 : z = [115, 101, 103]) :
    Calls Tryz.prog 15 #[.string ⟨s.toArray⟩] w fun e w' => e = .returned (pickV (nameN ⟨1, atoiV (Lib.trimPrefix x [116]), atoiV y, t⟩) s (FN.v ⟨1, atoiV (Lib.trimPrefix x [116]), atoiV y, t⟩)) ∧ Below w.heap.size w w' := by
  have C1 := Lib.hid (cut_call s hs)
  rw [hcut] at C1
  have C2 := Lib.hid (split_call r hr)
  rw [hspl] at C2
  have C3 := Lib.hid (trim_call x)
  have C4 := Lib.hid (atoi_call (Lib.trimPrefix x [116]) (trim_len hlx))
  have C5 := Lib.hid (atoi_call y hly)
  have C6 := Lib.hid (nameM_any 1 (atoiV (Lib.trimPrefix x [116])) (atoiV y) t)
  generalize hid1 : atoiV (Lib.trimPrefix x [116]) = id1 at C4 C6
  generalize hsg1 : atoiV y = sg1 at C5 C6
  generalize htx : Lib.trimPrefix x [116] = tx at C3 C4
  generalize hnm : nameN ⟨1, id1, sg1, t⟩ = nm at C6
  have k0 := beq_no2 hcat
  have k1 := beq_no2 hne
  have g0 := beq_yes2 h0
  have EE := Lib.hid E
  clear E hcut hspl hlx hcat hne hs hr htx hid1 hsg1 hly h0
  obtain ⟨S, hS⟩ : ∃ S : ByteArray, (⟨s.toArray⟩ : ByteArray) = S := ⟨_, rfl⟩
  obtain ⟨R, hR⟩ : ∃ S : ByteArray, (⟨r.toArray⟩ : ByteArray) = S := ⟨_, rfl⟩
  obtain ⟨X, hX⟩ : ∃ S : ByteArray, (⟨x.toArray⟩ : ByteArray) = S := ⟨_, rfl⟩
  obtain ⟨T, hT⟩ : ∃ S : ByteArray, (⟨tx.toArray⟩ : ByteArray) = S := ⟨_, rfl⟩
  obtain ⟨Y, hY⟩ : ∃ S : ByteArray, (⟨y.toArray⟩ : ByteArray) = S := ⟨_, rfl⟩
  obtain ⟨Z, hZ⟩ : ∃ S : ByteArray, (⟨z.toArray⟩ : ByteArray) = S := ⟨_, rfl⟩
  obtain ⟨NM, hNM⟩ : ∃ S : ByteArray, (⟨nm.toArray⟩ : ByteArray) = S := ⟨_, rfl⟩
  have HS := Lib.hid (And.intro hS hNM)
  simp only [List.map_cons, List.map_nil, List.length_cons, List.length_nil, Nat.zero_add, Nat.reduceAdd, hS, hR, hX, hT, hY, hZ, hNM] at C1 C2 C3 C4 C5 C6 k0 k1 g0
  simp only [hS]
  clear hS hR hX hT hY hZ hNM
  go_enter Tryz.func15, Tryz.ntmps15
  go_upto_region 7 with (first
    | (go_at_call 36
       refine (C1.out _).mono ?_
       rintro e w1 ⟨rfl, hw1⟩
       rw [hw1]
       clear hw1)
    | go_in)
  obtain ⟨W0, hW0⟩ : ∃ W0, (w.alloc (.cells #[.int .i64 0, .int .i64 0, .int .i64 0, .bool false] 30)).alloc (.cells #[.int .i64 0, .int .i64 0, .int .i64 0, .bool t] 30) = W0 := ⟨_, rfl⟩
  have hz0 : W0.heap.size = w.heap.size + 2 := by rw [← hW0]; simp
  have hb0 : Below w.heap.size w W0 := by rw [← hW0]; exact (Below.al _ _).alloc (by simp) _
  have hx2 : Box W0 w.heap.size 30 #[.int .i64 0, .int .i64 0, .int .i64 0, .bool false] := by rw [← hW0]; exact (Box.new _ _ _).alloc _
  have hx3 : Box W0 (w.heap.size + 1) 30 #[.int .i64 0, .int .i64 0, .int .i64 0, .bool t] := by rw [← hW0]; simpa using Box.new (w.alloc (.cells #[.int .i64 0, .int .i64 0, .int .i64 0, .bool false] 30)) 30 #[.int .i64 0, .int .i64 0, .int .i64 0, .bool t]
  rw [hW0]
  clear hW0
  have H0 := Lib.hid (And.intro hz0 (And.intro hb0 (And.intro hx2 hx3)))
  clear hz0 hb0 hx2 hx3
  go_upto_region 9 with (first
    | (go_at_call 37
       refine (C2.out _ (EE.out.below H0.out.2.1)).mono ?_
       rintro e w1 ⟨rfl, hw1⟩
       have hb1 : Below W0.heap.size W0 w1 := by rw [hw1]; exact Below.al _ _
       have hz1 : w1.heap.size = W0.heap.size + 1 := by rw [hw1]; simp
       have hxp : Box w1 W0.heap.size 9 #[.string X, .string Y, .string Z] := by rw [hw1]; exact Box.new _ _ _
       have hxc := hxp.cell
       have H1 := Lib.hid (And.intro hz1 (And.intro (H0.out.2.1.trans (hb1.mono H0.out.2.1.size)) (And.intro (H0.out.2.2.1.next hb1) (And.intro (H0.out.2.2.2.next hb1) hxp))))
       clear hb1 hz1 hxp hw1)
    | (go_at_call 39
       refine (C3.out _).mono ?_
       rintro e w2 ⟨rfl, hw2⟩
       rw [hw2]
       clear hw2)
    | (go_at_call 38
       refine (C4.out _ (EE.out.below H1.out.2.1)).mono ?_
       rintro e w3 ⟨⟨xe, rfl⟩, hb3⟩
       clear hxc
       have hx3 := H1.out.2.2.2.1.next hb3
       have hxc := hx3.cell
       have hxf := hx3.free
       have hxl := hx3.lt
       have H3 := Lib.hid (And.intro (H1.out.2.1.trans (hb3.mono H1.out.2.1.size)) (And.intro (H1.out.2.2.1.next hb3) (And.intro hx3 (H1.out.2.2.2.2.next hb3))))
       clear hb3 hx3)
    | go_in)
  obtain ⟨W4, hW4⟩ : ∃ Wx, w3.setCell ⟨w.heap.size + 1, 1, none⟩ (.int .i64 id1) = Wx := ⟨_, rfl⟩
  have hb4 : Below w.heap.size w W4 := by rw [← hW4]; exact H3.out.1.setCell (by simp) _
  have hx2 : Box W4 w.heap.size 30 #[.int .i64 0, .int .i64 0, .int .i64 0, .bool false] := by rw [← hW4]; exact H3.out.2.1.far (by simp) _
  have hx3 : Box W4 (w.heap.size + 1) 30 #[.int .i64 0, .int .i64 id1, .int .i64 0, .bool t] := by rw [← hW4]; exact H3.out.2.2.1.set_ 1 _
  have hxp : Box W4 W0.heap.size 9 #[.string X, .string Y, .string Z] := by rw [← hW4]; exact H3.out.2.2.2.far (by have := H0.out.1; simp; omega) _
  rw [hW4]
  clear hxc hxf hxl hW4
  have hxc := hx3.cell
  have hxf := hx3.free
  have hxl := hx3.lt
  have hxq := hxp.cell
  have H4 := Lib.hid (And.intro hb4 (And.intro hx2 (And.intro hx3 hxp)))
  clear hb4 hx2 hx3 hxp
  go_upto_region 15 with fail
  obtain ⟨W5, hW5⟩ : ∃ Wx, W4.setCell ⟨w.heap.size + 1, 0, none⟩ (.int .i64 1) = Wx := ⟨_, rfl⟩
  have hb4 : Below w.heap.size w W5 := by rw [← hW5]; exact H4.out.1.setCell (by simp) _
  have hx2 : Box W5 w.heap.size 30 #[.int .i64 0, .int .i64 0, .int .i64 0, .bool false] := by rw [← hW5]; exact H4.out.2.1.far (by simp) _
  have hx3 : Box W5 (w.heap.size + 1) 30 #[.int .i64 1, .int .i64 id1, .int .i64 0, .bool t] := by rw [← hW5]; exact H4.out.2.2.1.set_ 0 _
  have hxp : Box W5 W0.heap.size 9 #[.string X, .string Y, .string Z] := by rw [← hW5]; exact H4.out.2.2.2.far (by have := H0.out.1; simp; omega) _
  rw [hW5]
  clear hxc hxf hxl hxq hW5
  have hxc := hx3.cell
  have hxf := hx3.free
  have hxl := hx3.lt
  have hxq := hxp.cell
  have H5 := Lib.hid (And.intro hb4 (And.intro hx2 (And.intro hx3 hxp)))
  clear hb4 hx2 hx3 hxp
  go_upto_region 17 with (first
    | (go_at_call 38
       refine (C5.out _ (EE.out.below H5.out.1)).mono ?_
       rintro e w6 ⟨⟨xe2, rfl⟩, hb6⟩
       clear hxc hxf hxl hxq
       have hx3 := H5.out.2.2.1.next hb6
       have hxc := hx3.cell
       have hxf := hx3.free
       have hxl := hx3.lt
       have H6 := Lib.hid (And.intro (H5.out.1.trans (hb6.mono H5.out.1.size)) (And.intro (H5.out.2.1.next hb6) (And.intro hx3 (H5.out.2.2.2.next hb6))))
       clear hb6 hx3)
    | go_in)
  obtain ⟨W7, hW7⟩ : ∃ Wx, w6.setCell ⟨w.heap.size + 1, 2, none⟩ (.int .i64 sg1) = Wx := ⟨_, rfl⟩
  have hb4 : Below w.heap.size w W7 := by rw [← hW7]; exact H6.out.1.setCell (by simp) _
  have hx2 : Box W7 w.heap.size 30 #[.int .i64 0, .int .i64 0, .int .i64 0, .bool false] := by rw [← hW7]; exact H6.out.2.1.far (by simp) _
  have hx3 : Box W7 (w.heap.size + 1) 30 #[.int .i64 1, .int .i64 id1, .int .i64 sg1, .bool t] := by rw [← hW7]; exact H6.out.2.2.1.set_ 2 _
  have hxp : Box W7 W0.heap.size 9 #[.string X, .string Y, .string Z] := by rw [← hW7]; exact H6.out.2.2.2.far (by have := H0.out.1; simp; omega) _
  rw [hW7]
  clear hxc hxf hxl hW7
  have hxc := hx3.cell
  have hxf := hx3.free
  have hxl := hx3.lt
  have H7 := Lib.hid (And.intro hb4 (And.intro hx2 (And.intro hx3 hxp)))
  clear hb4 hx2 hx3 hxp
  have HE : Hid (∀ W, Below w.heap.size w W → Tab W) := Lib.hid fun W hb => (EE.out.below hb).tab
  by_cases hq : nm = s
  · have k9 : (NM.toList == S.toList) = true := by rw [← HS.out.1, ← HS.out.2]; exact beq_yes hq
    have HQ := Lib.hid hq
    clear hq
    go_wp2_with (first
      | (go_at_call 14
         refine (C6.out _ (HE.out _ H7.out.1)).mono ?_
         rintro e w8 ⟨rfl, hb8⟩
         clear hxc hxf hxl
         have hx2 := H7.out.2.1.next hb8
         have hx3 := H7.out.2.2.1.next hb8
         have hxc := hx3.cell
         have hxc2 := hx2.cell
         have hxf2 := hx2.free
         have hxl2 := hx2.lt
         have H8 := Lib.hid (H7.out.1.trans (hb8.mono H7.out.1.size))
         clear hb8 hx2 hx3))
    refine bodyPost_ret (v := FN.v ⟨1, id1, sg1, t⟩) ?_ rfl ?_
    · simp [results, Tryz.results15, go_sem, hxc2, FN.v]
    refine ⟨by unfold pickV; rw [if_pos HQ.out], ?_⟩
    repeat (first | with_reducible exact H8.out | refine Below.setCell ?_ (by simp) _)
  · have k9 : (NM.toList == S.toList) = false := by rw [← HS.out.1, ← HS.out.2]; exact beq_no hq
    have HQ := Lib.hid hq
    clear hq
    go_wp2_with (first
      | (go_at_call 14
         refine (C6.out _ (HE.out _ H7.out.1)).mono ?_
         rintro e w8 ⟨rfl, hb8⟩
         clear hxc hxf hxl
         have hx2 := H7.out.2.1.next hb8
         have hx3 := H7.out.2.2.1.next hb8
         have hxc := hx3.cell
         have hxc2 := hx2.cell
         have hxf2 := hx2.free
         have hxl2 := hx2.lt
         have H8 := Lib.hid (H7.out.1.trans (hb8.mono H7.out.1.size))
         clear hb8 hx2 hx3))
    refine bodyPost_ret (v := FN.v FN.zero) ?_ rfl ?_
    · simp [results, Tryz.results15, go_sem, hxc2, FN.v, FN.zero]
    refine ⟨by unfold pickV; rw [if_neg HQ.out], ?_⟩
    repeat (first | with_reducible exact H8.out | refine Below.setCell ?_ (by simp) _)
set_option maxRecDepth 100000 in
set_option maxHeartbeats 4000000 in
theorem parseM_3h (s x y z r : List UInt8) (t : Bool) (w : World) (E : Env w)  (hs : s.length ≤ 1048576) (hr : r.length ≤ 1048576)
    (hne : ¬ s = []) (hcut : cutT s = (r, t)) (hcat : ¬ r = [99, 97, 116, 97, 108, 111, 103]) (hspl : spl r = [x, y, z]) (hlx : x.length ≤ 1048576) (hly : y.length ≤ 1048576) (h0 : ¬ z = [115, 101, 103]) (h1 : z = [104, 105, 110, 116]) :
    Calls Tryz.prog 15 #[.string ⟨s.toArray⟩] w fun e w' => e = .returned (pickV (nameN ⟨2, atoiV (Lib.trimPrefix x [116]), atoiV y, t⟩) s (FN.v ⟨2, atoiV (Lib.trimPrefix x [116]), atoiV y, t⟩)) ∧ Below w.heap.size w w' := by
  have C1 := Lib.hid (cut_call s hs)
  rw [hcut] at C1
  have C2 := Lib.hid (split_call r hr)
  rw [hspl] at C2
  have C3 := Lib.hid (trim_call x)
  have C4 := Lib.hid (atoi_call (Lib.trimPrefix x [116]) (trim_len hlx))
  have C5 := Lib.hid (atoi_call y hly)
  have C6 := Lib.hid (nameM_any 2 (atoiV (Lib.trimPrefix x [116])) (atoiV y) t)
  generalize hid1 : atoiV (Lib.trimPrefix x [116]) = id1 at C4 C6
  generalize hsg1 : atoiV y = sg1 at C5 C6
  generalize htx : Lib.trimPrefix x [116] = tx at C3 C4
  generalize hnm : nameN ⟨2, id1, sg1, t⟩ = nm at C6
  have k0 := beq_no2 hcat
  have k1 := beq_no2 hne
  have g0 := beq_no2 h0
  have g1 := beq_yes2 h1
  have EE := Lib.hid E
  clear E hcut hspl hlx hcat hne hs hr htx hid1 hsg1 hly h0 h1
  obtain ⟨S, hS⟩ : ∃ S : ByteArray, (⟨s.toArray⟩ : ByteArray) = S := ⟨_, rfl⟩
  obtain ⟨R, hR⟩ : ∃ S : ByteArray, (⟨r.toArray⟩ : ByteArray) = S := ⟨_, rfl⟩
  obtain ⟨X, hX⟩ : ∃ S : ByteArray, (⟨x.toArray⟩ : ByteArray) = S := ⟨_, rfl⟩
  obtain ⟨T, hT⟩ : ∃ S : ByteArray, (⟨tx.toArray⟩ : ByteArray) = S := ⟨_, rfl⟩
  obtain ⟨Y, hY⟩ : ∃ S : ByteArray, (⟨y.toArray⟩ : ByteArray) = S := ⟨_, rfl⟩
  obtain ⟨Z, hZ⟩ : ∃ S : ByteArray, (⟨z.toArray⟩ : ByteArray) = S := ⟨_, rfl⟩
  obtain ⟨NM, hNM⟩ : ∃ S : ByteArray, (⟨nm.toArray⟩ : ByteArray) = S := ⟨_, rfl⟩
  have HS := Lib.hid (And.intro hS hNM)
  simp only [List.map_cons, List.map_nil, List.length_cons, List.length_nil, Nat.zero_add, Nat.reduceAdd, hS, hR, hX, hT, hY, hZ, hNM] at C1 C2 C3 C4 C5 C6 k0 k1 g0 g1
  simp only [hS]
  clear hS hR hX hT hY hZ hNM
  go_enter Tryz.func15, Tryz.ntmps15
  go_upto_region 7 with (first
    | (go_at_call 36
       refine (C1.out _).mono ?_
       rintro e w1 ⟨rfl, hw1⟩
       rw [hw1]
       clear hw1)
    | go_in)
  obtain ⟨W0, hW0⟩ : ∃ W0, (w.alloc (.cells #[.int .i64 0, .int .i64 0, .int .i64 0, .bool false] 30)).alloc (.cells #[.int .i64 0, .int .i64 0, .int .i64 0, .bool t] 30) = W0 := ⟨_, rfl⟩
  have hz0 : W0.heap.size = w.heap.size + 2 := by rw [← hW0]; simp
  have hb0 : Below w.heap.size w W0 := by rw [← hW0]; exact (Below.al _ _).alloc (by simp) _
  have hx2 : Box W0 w.heap.size 30 #[.int .i64 0, .int .i64 0, .int .i64 0, .bool false] := by rw [← hW0]; exact (Box.new _ _ _).alloc _
  have hx3 : Box W0 (w.heap.size + 1) 30 #[.int .i64 0, .int .i64 0, .int .i64 0, .bool t] := by rw [← hW0]; simpa using Box.new (w.alloc (.cells #[.int .i64 0, .int .i64 0, .int .i64 0, .bool false] 30)) 30 #[.int .i64 0, .int .i64 0, .int .i64 0, .bool t]
  rw [hW0]
  clear hW0
  have H0 := Lib.hid (And.intro hz0 (And.intro hb0 (And.intro hx2 hx3)))
  clear hz0 hb0 hx2 hx3
  go_upto_region 9 with (first
    | (go_at_call 37
       refine (C2.out _ (EE.out.below H0.out.2.1)).mono ?_
       rintro e w1 ⟨rfl, hw1⟩
       have hb1 : Below W0.heap.size W0 w1 := by rw [hw1]; exact Below.al _ _
       have hz1 : w1.heap.size = W0.heap.size + 1 := by rw [hw1]; simp
       have hxp : Box w1 W0.heap.size 9 #[.string X, .string Y, .string Z] := by rw [hw1]; exact Box.new _ _ _
       have hxc := hxp.cell
       have H1 := Lib.hid (And.intro hz1 (And.intro (H0.out.2.1.trans (hb1.mono H0.out.2.1.size)) (And.intro (H0.out.2.2.1.next hb1) (And.intro (H0.out.2.2.2.next hb1) hxp))))
       clear hb1 hz1 hxp hw1)
    | (go_at_call 39
       refine (C3.out _).mono ?_
       rintro e w2 ⟨rfl, hw2⟩
       rw [hw2]
       clear hw2)
    | (go_at_call 38
       refine (C4.out _ (EE.out.below H1.out.2.1)).mono ?_
       rintro e w3 ⟨⟨xe, rfl⟩, hb3⟩
       clear hxc
       have hx3 := H1.out.2.2.2.1.next hb3
       have hxc := hx3.cell
       have hxf := hx3.free
       have hxl := hx3.lt
       have H3 := Lib.hid (And.intro (H1.out.2.1.trans (hb3.mono H1.out.2.1.size)) (And.intro (H1.out.2.2.1.next hb3) (And.intro hx3 (H1.out.2.2.2.2.next hb3))))
       clear hb3 hx3)
    | go_in)
  obtain ⟨W4, hW4⟩ : ∃ Wx, w3.setCell ⟨w.heap.size + 1, 1, none⟩ (.int .i64 id1) = Wx := ⟨_, rfl⟩
  have hb4 : Below w.heap.size w W4 := by rw [← hW4]; exact H3.out.1.setCell (by simp) _
  have hx2 : Box W4 w.heap.size 30 #[.int .i64 0, .int .i64 0, .int .i64 0, .bool false] := by rw [← hW4]; exact H3.out.2.1.far (by simp) _
  have hx3 : Box W4 (w.heap.size + 1) 30 #[.int .i64 0, .int .i64 id1, .int .i64 0, .bool t] := by rw [← hW4]; exact H3.out.2.2.1.set_ 1 _
  have hxp : Box W4 W0.heap.size 9 #[.string X, .string Y, .string Z] := by rw [← hW4]; exact H3.out.2.2.2.far (by have := H0.out.1; simp; omega) _
  rw [hW4]
  clear hxc hxf hxl hW4
  have hxc := hx3.cell
  have hxf := hx3.free
  have hxl := hx3.lt
  have hxq := hxp.cell
  have H4 := Lib.hid (And.intro hb4 (And.intro hx2 (And.intro hx3 hxp)))
  clear hb4 hx2 hx3 hxp
  go_upto_region 15 with fail
  obtain ⟨W5, hW5⟩ : ∃ Wx, W4.setCell ⟨w.heap.size + 1, 0, none⟩ (.int .i64 2) = Wx := ⟨_, rfl⟩
  have hb4 : Below w.heap.size w W5 := by rw [← hW5]; exact H4.out.1.setCell (by simp) _
  have hx2 : Box W5 w.heap.size 30 #[.int .i64 0, .int .i64 0, .int .i64 0, .bool false] := by rw [← hW5]; exact H4.out.2.1.far (by simp) _
  have hx3 : Box W5 (w.heap.size + 1) 30 #[.int .i64 2, .int .i64 id1, .int .i64 0, .bool t] := by rw [← hW5]; exact H4.out.2.2.1.set_ 0 _
  have hxp : Box W5 W0.heap.size 9 #[.string X, .string Y, .string Z] := by rw [← hW5]; exact H4.out.2.2.2.far (by have := H0.out.1; simp; omega) _
  rw [hW5]
  clear hxc hxf hxl hxq hW5
  have hxc := hx3.cell
  have hxf := hx3.free
  have hxl := hx3.lt
  have hxq := hxp.cell
  have H5 := Lib.hid (And.intro hb4 (And.intro hx2 (And.intro hx3 hxp)))
  clear hb4 hx2 hx3 hxp
  go_upto_region 17 with (first
    | (go_at_call 38
       refine (C5.out _ (EE.out.below H5.out.1)).mono ?_
       rintro e w6 ⟨⟨xe2, rfl⟩, hb6⟩
       clear hxc hxf hxl hxq
       have hx3 := H5.out.2.2.1.next hb6
       have hxc := hx3.cell
       have hxf := hx3.free
       have hxl := hx3.lt
       have H6 := Lib.hid (And.intro (H5.out.1.trans (hb6.mono H5.out.1.size)) (And.intro (H5.out.2.1.next hb6) (And.intro hx3 (H5.out.2.2.2.next hb6))))
       clear hb6 hx3)
    | go_in)
  obtain ⟨W7, hW7⟩ : ∃ Wx, w6.setCell ⟨w.heap.size + 1, 2, none⟩ (.int .i64 sg1) = Wx := ⟨_, rfl⟩
  have hb4 : Below w.heap.size w W7 := by rw [← hW7]; exact H6.out.1.setCell (by simp) _
  have hx2 : Box W7 w.heap.size 30 #[.int .i64 0, .int .i64 0, .int .i64 0, .bool false] := by rw [← hW7]; exact H6.out.2.1.far (by simp) _
  have hx3 : Box W7 (w.heap.size + 1) 30 #[.int .i64 2, .int .i64 id1, .int .i64 sg1, .bool t] := by rw [← hW7]; exact H6.out.2.2.1.set_ 2 _
  have hxp : Box W7 W0.heap.size 9 #[.string X, .string Y, .string Z] := by rw [← hW7]; exact H6.out.2.2.2.far (by have := H0.out.1; simp; omega) _
  rw [hW7]
  clear hxc hxf hxl hW7
  have hxc := hx3.cell
  have hxf := hx3.free
  have hxl := hx3.lt
  have H7 := Lib.hid (And.intro hb4 (And.intro hx2 (And.intro hx3 hxp)))
  clear hb4 hx2 hx3 hxp
  have HE : Hid (∀ W, Below w.heap.size w W → Tab W) := Lib.hid fun W hb => (EE.out.below hb).tab
  by_cases hq : nm = s
  · have k9 : (NM.toList == S.toList) = true := by rw [← HS.out.1, ← HS.out.2]; exact beq_yes hq
    have HQ := Lib.hid hq
    clear hq
    go_wp2_with (first
      | (go_at_call 14
         refine (C6.out _ (HE.out _ H7.out.1)).mono ?_
         rintro e w8 ⟨rfl, hb8⟩
         clear hxc hxf hxl
         have hx2 := H7.out.2.1.next hb8
         have hx3 := H7.out.2.2.1.next hb8
         have hxc := hx3.cell
         have hxc2 := hx2.cell
         have hxf2 := hx2.free
         have hxl2 := hx2.lt
         have H8 := Lib.hid (H7.out.1.trans (hb8.mono H7.out.1.size))
         clear hb8 hx2 hx3))
    refine bodyPost_ret (v := FN.v ⟨2, id1, sg1, t⟩) ?_ rfl ?_
    · simp [results, Tryz.results15, go_sem, hxc2, FN.v]
    refine ⟨by unfold pickV; rw [if_pos HQ.out], ?_⟩
    repeat (first | with_reducible exact H8.out | refine Below.setCell ?_ (by simp) _)
  · have k9 : (NM.toList == S.toList) = false := by rw [← HS.out.1, ← HS.out.2]; exact beq_no hq
    have HQ := Lib.hid hq
    clear hq
    go_wp2_with (first
      | (go_at_call 14
         refine (C6.out _ (HE.out _ H7.out.1)).mono ?_
         rintro e w8 ⟨rfl, hb8⟩
         clear hxc hxf hxl
         have hx2 := H7.out.2.1.next hb8
         have hx3 := H7.out.2.2.1.next hb8
         have hxc := hx3.cell
         have hxc2 := hx2.cell
         have hxf2 := hx2.free
         have hxl2 := hx2.lt
         have H8 := Lib.hid (H7.out.1.trans (hb8.mono H7.out.1.size))
         clear hb8 hx2 hx3))
    refine bodyPost_ret (v := FN.v FN.zero) ?_ rfl ?_
    · simp [results, Tryz.results15, go_sem, hxc2, FN.v, FN.zero]
    refine ⟨by unfold pickV; rw [if_neg HQ.out], ?_⟩
    repeat (first | with_reducible exact H8.out | refine Below.setCell ?_ (by simp) _)
set_option maxRecDepth 100000 in
set_option maxHeartbeats 4000000 in
theorem parseM_3o (s x y z r : List UInt8) (t : Bool) (w : World) (E : Env w)  (hs : s.length ≤ 1048576) (hr : r.length ≤ 1048576)
    (hne : ¬ s = []) (hcut : cutT s = (r, t)) (hcat : ¬ r = [99, 97, 116, 97, 108, 111, 103]) (hspl : spl r = [x, y, z]) (hlx : x.length ≤ 1048576) (hly : y.length ≤ 1048576) (h0 : ¬ z = [115, 101, 103]) (h1 : ¬ z = [104, 105, 110, 116]) :
    Calls Tryz.prog 15 #[.string ⟨s.toArray⟩] w fun e w' => e = .returned (pickV (nameN ⟨0, atoiV (Lib.trimPrefix x [116]), atoiV y, t⟩) s (FN.v ⟨0, atoiV (Lib.trimPrefix x [116]), atoiV y, t⟩)) ∧ Below w.heap.size w w' := by
  have C1 := Lib.hid (cut_call s hs)
  rw [hcut] at C1
  have C2 := Lib.hid (split_call r hr)
  rw [hspl] at C2
  have C3 := Lib.hid (trim_call x)
  have C4 := Lib.hid (atoi_call (Lib.trimPrefix x [116]) (trim_len hlx))
  have C5 := Lib.hid (atoi_call y hly)
  have C6 := Lib.hid (nameM_any 0 (atoiV (Lib.trimPrefix x [116])) (atoiV y) t)
  generalize hid1 : atoiV (Lib.trimPrefix x [116]) = id1 at C4 C6
  generalize hsg1 : atoiV y = sg1 at C5 C6
  generalize htx : Lib.trimPrefix x [116] = tx at C3 C4
  generalize hnm : nameN ⟨0, id1, sg1, t⟩ = nm at C6
  have k0 := beq_no2 hcat
  have k1 := beq_no2 hne
  have g0 := beq_no2 h0
  have g1 := beq_no2 h1
  have EE := Lib.hid E
  clear E hcut hspl hlx hcat hne hs hr htx hid1 hsg1 hly h0 h1
  obtain ⟨S, hS⟩ : ∃ S : ByteArray, (⟨s.toArray⟩ : ByteArray) = S := ⟨_, rfl⟩
  obtain ⟨R, hR⟩ : ∃ S : ByteArray, (⟨r.toArray⟩ : ByteArray) = S := ⟨_, rfl⟩
  obtain ⟨X, hX⟩ : ∃ S : ByteArray, (⟨x.toArray⟩ : ByteArray) = S := ⟨_, rfl⟩
  obtain ⟨T, hT⟩ : ∃ S : ByteArray, (⟨tx.toArray⟩ : ByteArray) = S := ⟨_, rfl⟩
  obtain ⟨Y, hY⟩ : ∃ S : ByteArray, (⟨y.toArray⟩ : ByteArray) = S := ⟨_, rfl⟩
  obtain ⟨Z, hZ⟩ : ∃ S : ByteArray, (⟨z.toArray⟩ : ByteArray) = S := ⟨_, rfl⟩
  obtain ⟨NM, hNM⟩ : ∃ S : ByteArray, (⟨nm.toArray⟩ : ByteArray) = S := ⟨_, rfl⟩
  have HS := Lib.hid (And.intro hS hNM)
  simp only [List.map_cons, List.map_nil, List.length_cons, List.length_nil, Nat.zero_add, Nat.reduceAdd, hS, hR, hX, hT, hY, hZ, hNM] at C1 C2 C3 C4 C5 C6 k0 k1 g0 g1
  simp only [hS]
  clear hS hR hX hT hY hZ hNM
  go_enter Tryz.func15, Tryz.ntmps15
  go_upto_region 7 with (first
    | (go_at_call 36
       refine (C1.out _).mono ?_
       rintro e w1 ⟨rfl, hw1⟩
       rw [hw1]
       clear hw1)
    | go_in)
  obtain ⟨W0, hW0⟩ : ∃ W0, (w.alloc (.cells #[.int .i64 0, .int .i64 0, .int .i64 0, .bool false] 30)).alloc (.cells #[.int .i64 0, .int .i64 0, .int .i64 0, .bool t] 30) = W0 := ⟨_, rfl⟩
  have hz0 : W0.heap.size = w.heap.size + 2 := by rw [← hW0]; simp
  have hb0 : Below w.heap.size w W0 := by rw [← hW0]; exact (Below.al _ _).alloc (by simp) _
  have hx2 : Box W0 w.heap.size 30 #[.int .i64 0, .int .i64 0, .int .i64 0, .bool false] := by rw [← hW0]; exact (Box.new _ _ _).alloc _
  have hx3 : Box W0 (w.heap.size + 1) 30 #[.int .i64 0, .int .i64 0, .int .i64 0, .bool t] := by rw [← hW0]; simpa using Box.new (w.alloc (.cells #[.int .i64 0, .int .i64 0, .int .i64 0, .bool false] 30)) 30 #[.int .i64 0, .int .i64 0, .int .i64 0, .bool t]
  rw [hW0]
  clear hW0
  have H0 := Lib.hid (And.intro hz0 (And.intro hb0 (And.intro hx2 hx3)))
  clear hz0 hb0 hx2 hx3
  go_upto_region 9 with (first
    | (go_at_call 37
       refine (C2.out _ (EE.out.below H0.out.2.1)).mono ?_
       rintro e w1 ⟨rfl, hw1⟩
       have hb1 : Below W0.heap.size W0 w1 := by rw [hw1]; exact Below.al _ _
       have hz1 : w1.heap.size = W0.heap.size + 1 := by rw [hw1]; simp
       have hxp : Box w1 W0.heap.size 9 #[.string X, .string Y, .string Z] := by rw [hw1]; exact Box.new _ _ _
       have hxc := hxp.cell
       have H1 := Lib.hid (And.intro hz1 (And.intro (H0.out.2.1.trans (hb1.mono H0.out.2.1.size)) (And.intro (H0.out.2.2.1.next hb1) (And.intro (H0.out.2.2.2.next hb1) hxp))))
       clear hb1 hz1 hxp hw1)
    | (go_at_call 39
       refine (C3.out _).mono ?_
       rintro e w2 ⟨rfl, hw2⟩
       rw [hw2]
       clear hw2)
    | (go_at_call 38
       refine (C4.out _ (EE.out.below H1.out.2.1)).mono ?_
       rintro e w3 ⟨⟨xe, rfl⟩, hb3⟩
       clear hxc
       have hx3 := H1.out.2.2.2.1.next hb3
       have hxc := hx3.cell
       have hxf := hx3.free
       have hxl := hx3.lt
       have H3 := Lib.hid (And.intro (H1.out.2.1.trans (hb3.mono H1.out.2.1.size)) (And.intro (H1.out.2.2.1.next hb3) (And.intro hx3 (H1.out.2.2.2.2.next hb3))))
       clear hb3 hx3)
    | go_in)
  obtain ⟨W4, hW4⟩ : ∃ Wx, w3.setCell ⟨w.heap.size + 1, 1, none⟩ (.int .i64 id1) = Wx := ⟨_, rfl⟩
  have hb4 : Below w.heap.size w W4 := by rw [← hW4]; exact H3.out.1.setCell (by simp) _
  have hx2 : Box W4 w.heap.size 30 #[.int .i64 0, .int .i64 0, .int .i64 0, .bool false] := by rw [← hW4]; exact H3.out.2.1.far (by simp) _
  have hx3 : Box W4 (w.heap.size + 1) 30 #[.int .i64 0, .int .i64 id1, .int .i64 0, .bool t] := by rw [← hW4]; exact H3.out.2.2.1.set_ 1 _
  have hxp : Box W4 W0.heap.size 9 #[.string X, .string Y, .string Z] := by rw [← hW4]; exact H3.out.2.2.2.far (by have := H0.out.1; simp; omega) _
  rw [hW4]
  clear hxc hxf hxl hW4
  have hxc := hx3.cell
  have hxf := hx3.free
  have hxl := hx3.lt
  have hxq := hxp.cell
  have H4 := Lib.hid (And.intro hb4 (And.intro hx2 (And.intro hx3 hxp)))
  clear hb4 hx2 hx3 hxp
  go_upto_region 17 with (first
    | (go_at_call 38
       refine (C5.out _ (EE.out.below H4.out.1)).mono ?_
       rintro e w6 ⟨⟨xe2, rfl⟩, hb6⟩
       clear hxc hxf hxl hxq
       have hx3 := H4.out.2.2.1.next hb6
       have hxc := hx3.cell
       have hxf := hx3.free
       have hxl := hx3.lt
       have H6 := Lib.hid (And.intro (H4.out.1.trans (hb6.mono H4.out.1.size)) (And.intro (H4.out.2.1.next hb6) (And.intro hx3 (H4.out.2.2.2.next hb6))))
       clear hb6 hx3)
    | go_in)
  obtain ⟨W7, hW7⟩ : ∃ Wx, w6.setCell ⟨w.heap.size + 1, 2, none⟩ (.int .i64 sg1) = Wx := ⟨_, rfl⟩
  have hb4 : Below w.heap.size w W7 := by rw [← hW7]; exact H6.out.1.setCell (by simp) _
  have hx2 : Box W7 w.heap.size 30 #[.int .i64 0, .int .i64 0, .int .i64 0, .bool false] := by rw [← hW7]; exact H6.out.2.1.far (by simp) _
  have hx3 : Box W7 (w.heap.size + 1) 30 #[.int .i64 0, .int .i64 id1, .int .i64 sg1, .bool t] := by rw [← hW7]; exact H6.out.2.2.1.set_ 2 _
  have hxp : Box W7 W0.heap.size 9 #[.string X, .string Y, .string Z] := by rw [← hW7]; exact H6.out.2.2.2.far (by have := H0.out.1; simp; omega) _
  rw [hW7]
  clear hxc hxf hxl hW7
  have hxc := hx3.cell
  have hxf := hx3.free
  have hxl := hx3.lt
  have H7 := Lib.hid (And.intro hb4 (And.intro hx2 (And.intro hx3 hxp)))
  clear hb4 hx2 hx3 hxp
  have HE : Hid (∀ W, Below w.heap.size w W → Tab W) := Lib.hid fun W hb => (EE.out.below hb).tab
  by_cases hq : nm = s
  · have k9 : (NM.toList == S.toList) = true := by rw [← HS.out.1, ← HS.out.2]; exact beq_yes hq
    have HQ := Lib.hid hq
    clear hq
    go_wp2_with (first
      | (go_at_call 14
         refine (C6.out _ (HE.out _ H7.out.1)).mono ?_
         rintro e w8 ⟨rfl, hb8⟩
         clear hxc hxf hxl
         have hx2 := H7.out.2.1.next hb8
         have hx3 := H7.out.2.2.1.next hb8
         have hxc := hx3.cell
         have hxc2 := hx2.cell
         have hxf2 := hx2.free
         have hxl2 := hx2.lt
         have H8 := Lib.hid (H7.out.1.trans (hb8.mono H7.out.1.size))
         clear hb8 hx2 hx3))
    refine bodyPost_ret (v := FN.v ⟨0, id1, sg1, t⟩) ?_ rfl ?_
    · simp [results, Tryz.results15, go_sem, hxc2, FN.v]
    refine ⟨by unfold pickV; rw [if_pos HQ.out], ?_⟩
    repeat (first | with_reducible exact H8.out | refine Below.setCell ?_ (by simp) _)
  · have k9 : (NM.toList == S.toList) = false := by rw [← HS.out.1, ← HS.out.2]; exact beq_no hq
    have HQ := Lib.hid hq
    clear hq
    go_wp2_with (first
      | (go_at_call 14
         refine (C6.out _ (HE.out _ H7.out.1)).mono ?_
         rintro e w8 ⟨rfl, hb8⟩
         clear hxc hxf hxl
         have hx2 := H7.out.2.1.next hb8
         have hx3 := H7.out.2.2.1.next hb8
         have hxc := hx3.cell
         have hxc2 := hx2.cell
         have hxf2 := hx2.free
         have hxl2 := hx2.lt
         have H8 := Lib.hid (H7.out.1.trans (hb8.mono H7.out.1.size))
         clear hb8 hx2 hx3))
    refine bodyPost_ret (v := FN.v FN.zero) ?_ rfl ?_
    · simp [results, Tryz.results15, go_sem, hxc2, FN.v, FN.zero]
    refine ⟨by unfold pickV; rw [if_neg HQ.out], ?_⟩
    repeat (first | with_reducible exact H8.out | refine Below.setCell ?_ (by simp) _)
set_option maxRecDepth 100000 in
set_option maxHeartbeats 4000000 in
theorem parseM_4 (s x r : List UInt8) (t : Bool) (w : World) (E : Env w) (n : Nat) (ar : Array Value) (hn : 4 ≤ n) (ha0 : ar[0]? = some (.string ⟨x.toArray⟩)) (hs : s.length ≤ 1048576) (hr : r.length ≤ 1048576)
    (hne : ¬ s = []) (hcut : cutT s = (r, t)) (hcat : ¬ r = [99, 97, 116, 97, 108, 111, 103]) (hspl : (spl r).length = n) (harr : ((spl r).map fun l => Value.string ⟨l.toArray⟩).toArray = ar) (hlx : x.length ≤ 1048576) :
    Calls Tryz.prog 15 #[.string ⟨s.toArray⟩] w fun e w' => e = .returned (pickV (nameN ⟨0, atoiV (Lib.trimPrefix x [116]), 0, t⟩) s (FN.v ⟨0, atoiV (Lib.trimPrefix x [116]), 0, t⟩)) ∧ Below w.heap.size w w' := by
  have C1 := Lib.hid (cut_call s hs)
  rw [hcut] at C1
  have C2 := Lib.hid (split_call r hr)
  rw [hspl, harr] at C2
  have C3 := Lib.hid (trim_call x)
  have C4 := Lib.hid (atoi_call (Lib.trimPrefix x [116]) (trim_len hlx))
  have C6 := Lib.hid (nameM_any 0 (atoiV (Lib.trimPrefix x [116])) (0) t)
  generalize hid1 : atoiV (Lib.trimPrefix x [116]) = id1 at C4 C6
  generalize htx : Lib.trimPrefix x [116] = tx at C3 C4
  generalize hnm : nameN ⟨0, id1, 0, t⟩ = nm at C6
  have k0 := beq_no2 hcat
  have k1 := beq_no2 hne
  have m1 : (0 : Int) < n := by omega
  have m2 : ¬ (n : Int) = 2 := by omega
  have m3 : ¬ (n : Int) = 3 := by omega
  have EE := Lib.hid E
  clear E hcut hspl hlx hcat hne hs hr htx hid1 harr hn
  obtain ⟨S, hS⟩ : ∃ S : ByteArray, (⟨s.toArray⟩ : ByteArray) = S := ⟨_, rfl⟩
  obtain ⟨R, hR⟩ : ∃ S : ByteArray, (⟨r.toArray⟩ : ByteArray) = S := ⟨_, rfl⟩
  obtain ⟨X, hX⟩ : ∃ S : ByteArray, (⟨x.toArray⟩ : ByteArray) = S := ⟨_, rfl⟩
  obtain ⟨T, hT⟩ : ∃ S : ByteArray, (⟨tx.toArray⟩ : ByteArray) = S := ⟨_, rfl⟩
  obtain ⟨NM, hNM⟩ : ∃ S : ByteArray, (⟨nm.toArray⟩ : ByteArray) = S := ⟨_, rfl⟩
  have HS := Lib.hid (And.intro hS hNM)
  simp only [hS, hR, hX, hT, hNM] at C1 C2 C3 C4 C6 k0 k1 ha0
  simp only [hS]
  clear hS hR hX hT hNM
  have HA0 := Lib.hid ha0
  clear ha0
  go_enter Tryz.func15, Tryz.ntmps15
  go_upto_region 7 with (first
    | (go_at_call 36
       refine (C1.out _).mono ?_
       rintro e w1 ⟨rfl, hw1⟩
       rw [hw1]
       clear hw1)
    | go_in)
  obtain ⟨W0, hW0⟩ : ∃ W0, (w.alloc (.cells #[.int .i64 0, .int .i64 0, .int .i64 0, .bool false] 30)).alloc (.cells #[.int .i64 0, .int .i64 0, .int .i64 0, .bool t] 30) = W0 := ⟨_, rfl⟩
  have hz0 : W0.heap.size = w.heap.size + 2 := by rw [← hW0]; simp
  have hb0 : Below w.heap.size w W0 := by rw [← hW0]; exact (Below.al _ _).alloc (by simp) _
  have hx2 : Box W0 w.heap.size 30 #[.int .i64 0, .int .i64 0, .int .i64 0, .bool false] := by rw [← hW0]; exact (Box.new _ _ _).alloc _
  have hx3 : Box W0 (w.heap.size + 1) 30 #[.int .i64 0, .int .i64 0, .int .i64 0, .bool t] := by rw [← hW0]; simpa using Box.new (w.alloc (.cells #[.int .i64 0, .int .i64 0, .int .i64 0, .bool false] 30)) 30 #[.int .i64 0, .int .i64 0, .int .i64 0, .bool t]
  rw [hW0]
  clear hW0
  have H0 := Lib.hid (And.intro hz0 (And.intro hb0 (And.intro hx2 hx3)))
  clear hz0 hb0 hx2 hx3
  go_upto_region 9 with (first
    | (go_at_call 37
       refine (C2.out _ (EE.out.below H0.out.2.1)).mono ?_
       rintro e w1 ⟨rfl, hw1⟩
       have hb1 : Below W0.heap.size W0 w1 := by rw [hw1]; exact Below.al _ _
       have hz1 : w1.heap.size = W0.heap.size + 1 := by rw [hw1]; simp
       have hxp : Box w1 W0.heap.size 9 ar := by rw [hw1]; exact Box.new _ _ _
       have hxc := (hxp.cell 0).trans HA0.out
       have H1 := Lib.hid (And.intro hz1 (And.intro (H0.out.2.1.trans (hb1.mono H0.out.2.1.size)) (And.intro (H0.out.2.2.1.next hb1) (And.intro (H0.out.2.2.2.next hb1) hxp))))
       clear hb1 hz1 hxp hw1)
    | (go_at_call 39
       refine (C3.out _).mono ?_
       rintro e w2 ⟨rfl, hw2⟩
       rw [hw2]
       clear hw2)
    | (go_at_call 38
       refine (C4.out _ (EE.out.below H1.out.2.1)).mono ?_
       rintro e w3 ⟨⟨xe, rfl⟩, hb3⟩
       clear hxc
       have hx3 := H1.out.2.2.2.1.next hb3
       have hxc := hx3.cell
       have hxf := hx3.free
       have hxl := hx3.lt
       have H3 := Lib.hid (And.intro (H1.out.2.1.trans (hb3.mono H1.out.2.1.size)) (And.intro (H1.out.2.2.1.next hb3) (And.intro hx3 (H1.out.2.2.2.2.next hb3))))
       clear hb3 hx3)
    | go_in)
  obtain ⟨W4, hW4⟩ : ∃ Wx, w3.setCell ⟨w.heap.size + 1, 1, none⟩ (.int .i64 id1) = Wx := ⟨_, rfl⟩
  have hb4 : Below w.heap.size w W4 := by rw [← hW4]; exact H3.out.1.setCell (by simp) _
  have hx2 : Box W4 w.heap.size 30 #[.int .i64 0, .int .i64 0, .int .i64 0, .bool false] := by rw [← hW4]; exact H3.out.2.1.far (by simp) _
  have hx3 : Box W4 (w.heap.size + 1) 30 #[.int .i64 0, .int .i64 id1, .int .i64 0, .bool t] := by rw [← hW4]; exact H3.out.2.2.1.set_ 1 _
  have hxp : Box W4 W0.heap.size 9 ar := by rw [← hW4]; exact H3.out.2.2.2.far (by have := H0.out.1; simp; omega) _
  rw [hW4]
  clear hxc hxf hxl hW4
  have hxc := hx3.cell
  have hxf := hx3.free
  have hxl := hx3.lt
  have H4 := Lib.hid (And.intro hb4 (And.intro hx2 (And.intro hx3 hxp)))
  clear hb4 hx2 hx3 hxp
  go_upto_region 17 with fail
  have HE : Hid (∀ W, Below w.heap.size w W → Tab W) := Lib.hid fun W hb => (EE.out.below hb).tab
  by_cases hq : nm = s
  · have k9 : (NM.toList == S.toList) = true := by rw [← HS.out.1, ← HS.out.2]; exact beq_yes hq
    have HQ := Lib.hid hq
    clear hq
    go_wp2_with (first
      | (go_at_call 14
         refine (C6.out _ (HE.out _ H4.out.1)).mono ?_
         rintro e w8 ⟨rfl, hb8⟩
         clear hxc hxf hxl
         have hx2 := H4.out.2.1.next hb8
         have hx3 := H4.out.2.2.1.next hb8
         have hxc := hx3.cell
         have hxc2 := hx2.cell
         have hxf2 := hx2.free
         have hxl2 := hx2.lt
         have H8 := Lib.hid (H4.out.1.trans (hb8.mono H4.out.1.size))
         clear hb8 hx2 hx3))
    refine bodyPost_ret (v := FN.v ⟨0, id1, 0, t⟩) ?_ rfl ?_
    · simp [results, Tryz.results15, go_sem, hxc2, FN.v]
    refine ⟨by unfold pickV; rw [if_pos HQ.out], ?_⟩
    repeat (first | with_reducible exact H8.out | refine Below.setCell ?_ (by simp) _)
  · have k9 : (NM.toList == S.toList) = false := by rw [← HS.out.1, ← HS.out.2]; exact beq_no hq
    have HQ := Lib.hid hq
    clear hq
    go_wp2_with (first
      | (go_at_call 14
         refine (C6.out _ (HE.out _ H4.out.1)).mono ?_
         rintro e w8 ⟨rfl, hb8⟩
         clear hxc hxf hxl
         have hx2 := H4.out.2.1.next hb8
         have hx3 := H4.out.2.2.1.next hb8
         have hxc := hx3.cell
         have hxc2 := hx2.cell
         have hxf2 := hx2.free
         have hxl2 := hx2.lt
         have H8 := Lib.hid (H4.out.1.trans (hb8.mono H4.out.1.size))
         clear hb8 hx2 hx3))
    refine bodyPost_ret (v := FN.v FN.zero) ?_ rfl ?_
    · simp [results, Tryz.results15, go_sem, hxc2, FN.v, FN.zero]
    refine ⟨by unfold pickV; rw [if_neg HQ.out], ?_⟩
    repeat (first | with_reducible exact H8.out | refine Below.setCell ?_ (by simp) _)
end Go.Proofs.YtdeaefbjddodjaaGreatDoor
/- ManifestNames: manifest.Parse is parseP. -/
namespace Go.Proofs.YtdeaefbjddodjaaGreatDoor
open Go.Shelf Go.RowKit

theorem parseM_any (s : List UInt8) (w : World) (E : Env w) (hs : s.length ≤ 1048576) :
    Calls Tryz.prog 15 #[.string ⟨s.toArray⟩] w fun e w' => e = .returned (FN.v (parseP s)) ∧ Below w.heap.size w w' := by
  obtain ⟨r, t, hcut⟩ : ∃ r t, cutT s = (r, t) := ⟨_, _, rfl⟩
  have hr : r.length ≤ 1048576 := by have := cut_len s; rw [hcut] at this; simp only at this; omega
  by_cases hcat : r = [99, 97, 116, 97, 108, 111, 103]
  · have hp : parseP s = ⟨4, 0, 0, t⟩ := by unfold parseP; rw [hcut, if_pos (show (r, t).1 = catB from hcat)]
    rw [hp]
    exact parseM_cat s r t w hs hcut hcat
  have hp0 : parseP s = if s = [] ∨ nameN (candP s) ≠ s then FN.zero else candP s := by unfold parseP; rw [hcut, if_neg (show ¬ (r, t).1 = catB from hcat)]
  by_cases hne : s = []
  · rw [if_pos (.inl hne)] at hp0
    rw [hp0]
    have hr0 : r = [] := by
      subst hne
      have : cutT [] = ([], false) := rfl
      rw [this] at hcut
      injection hcut with h1 _
      exact h1.symm
    exact parseM_1e s [] r t w E hs hr hne hcut hcat (by rw [hr0]; rfl) (by simp)
  have hpk : ∀ n : FN, candP s = n → FN.v (parseP s) = pickV (nameN n) s (FN.v n) := by
    intro n hn
    rw [hp0, hn]
    unfold pickV
    by_cases h : nameN n = s
    · rw [if_pos h, if_neg (by rintro (e | e); exact hne e; exact e h)]
    · rw [if_neg h, if_pos (.inr h)]
  have hcd : candP s = ⟨if (spl r).length = 2 ∧ (spl r).getD 1 [] = manBA then 3 else if (spl r).length = 3 ∧ (spl r).getD 2 [] = segB then 1 else if (spl r).length = 3 ∧ (spl r).getD 2 [] = hintB then 2 else 0,
    atoiV (Lib.trimPrefix ((spl r).getD 0 []) [116]), if (spl r).length = 3 then atoiV ((spl r).getD 1 []) else 0, t⟩ := by unfold candP; rw [hcut]
  have hl := fun x hx => Nat.le_trans (spl_len r x hx) hr
  match hsp : spl r with
  | [] => exact absurd hsp (spl_ne r)
  | [x] =>
    rw [hsp] at hcd hl
    have hc : candP s = ⟨0, atoiV (Lib.trimPrefix x [116]), 0, t⟩ := by rw [hcd]; simp
    rw [hpk _ hc]
    exact parseM_1 s x r t w E hs hr hne hcut hcat hsp (hl x (by simp))
  | [x, y] =>
    rw [hsp] at hcd hl
    by_cases hy : y = [109, 97, 110]
    · have hy2 : y = manBA := hy
      have hc : candP s = ⟨3, atoiV (Lib.trimPrefix x [116]), 0, t⟩ := by rw [hcd]; simp [hy2]
      rw [hpk _ hc]
      exact parseM_2m s x y r t w E hs hr hne hcut hcat hsp (hl x (by simp)) hy
    · have hy2 : ¬ y = manBA := hy
      have hc : candP s = ⟨0, atoiV (Lib.trimPrefix x [116]), 0, t⟩ := by rw [hcd]; simp [hy2]
      rw [hpk _ hc]
      exact parseM_2o s x y r t w E hs hr hne hcut hcat hsp (hl x (by simp)) hy
  | [x, y, z] =>
    rw [hsp] at hcd hl
    by_cases h0 : z = [115, 101, 103]
    · have hy2 : z = segB := h0
      have hc : candP s = ⟨1, atoiV (Lib.trimPrefix x [116]), atoiV y, t⟩ := by rw [hcd]; simp [hy2]
      rw [hpk _ hc]
      exact parseM_3s s x y z r t w E hs hr hne hcut hcat hsp (hl x (by simp)) (hl y (by simp)) h0
    · have hy2 : ¬ z = segB := h0
      by_cases h1 : z = [104, 105, 110, 116]
      · have hy3 : z = hintB := h1
        have hy4 : ¬ hintB = segB := by decide
        have hc : candP s = ⟨2, atoiV (Lib.trimPrefix x [116]), atoiV y, t⟩ := by rw [hcd]; simp [hy3, hy4]
        rw [hpk _ hc]
        exact parseM_3h s x y z r t w E hs hr hne hcut hcat hsp (hl x (by simp)) (hl y (by simp)) h0 h1
      · have hy3 : ¬ z = hintB := h1
        have hc : candP s = ⟨0, atoiV (Lib.trimPrefix x [116]), atoiV y, t⟩ := by rw [hcd]; simp [hy2, hy3]
        rw [hpk _ hc]
        exact parseM_3o s x y z r t w E hs hr hne hcut hcat hsp (hl x (by simp)) (hl y (by simp)) h0 h1
  | x :: y :: z :: u :: l =>
    rw [hsp] at hcd hl
    have hc : candP s = ⟨0, atoiV (Lib.trimPrefix x [116]), 0, t⟩ := by
      rw [hcd]
      simp only [List.length_cons, List.getD_cons_zero]
      simp
    rw [hpk _ hc]
    refine parseM_4 s x r t w E (l.length + 4) _ (by omega) ?_ hs hr hne hcut hcat (by rw [hsp]; simp) rfl (hl x (by simp))
    rw [hsp]
    simp
end Go.Proofs.YtdeaefbjddodjaaGreatDoor
