import Derived.Test.YtebeefkibbbkdaaSm21
import Derived.Test.YtebeefkibbbkdaaSm18
import Derived.Maps.RangeWalk
/- Crash: one image that a loss of power may leave. -/
namespace Go.Proofs.Ytebeefkibbbkdaa
open Go.RowKit Go.Maps
open Go.Proofs (encStr)

def tornAll (s : Dk) : List KE → List Int → List (ByteArray × List UInt8) × List Int
  | [], ps => ([], ps)
  | (n, k) :: r, ps => ((n, (tornS (s.fl k) ps).1) :: (tornAll s r (tornS (s.fl k) ps).2).1, (tornAll s r (tornS (s.fl k) ps).2).2)
theorem tornAll_snoc (s : Dk) (p : KE) : ∀ (l : List KE) (ps : List Int), tornAll s (l ++ [p]) ps = ((tornAll s l ps).1 ++ [(p.1, (tornS (s.fl p.2) (tornAll s l ps).2).1)], (tornS (s.fl p.2) (tornAll s l ps).2).2)
  | [], ps => rfl
  | (n, k) :: r, ps => by
    show ((n, _) :: (tornAll s (r ++ [p]) (tornS (s.fl k) ps).2).1, (tornAll s (r ++ [p]) (tornS (s.fl k) ps).2).2) = _
    rw [tornAll_snoc s p r]
    rfl
theorem tornAll_len (s : Dk) : ∀ (l : List KE) (ps : List Int), (tornAll s l ps).1.length = l.length
  | [], _ => rfl
  | (n, k) :: r, ps => by show (tornAll s r _).1.length + 1 = _; rw [tornAll_len s r]; rfl
def leftL (s : Dk) (ps : List Int) : List KE := (s.dchs.take (modn (pickV ps) (s.dchs.length + 1))).foldl ddo s.safe
def crashL (s : Dk) (ps : List Int) : List (ByteArray × List UInt8) := (tornAll s (leftL s ps) ps.tail).1
def fcell (p : (ByteArray × List UInt8) × Value) : List Value := [.string p.1.1, p.2]
/-- Files told: their bytes lie in rows of their own, from base on. -/
def FLs (w : World) (base : Nat) (fs : List (ByteArray × List UInt8)) (us : List Value) (v : Value) : Prop :=
  us.length = fs.length ∧ w.ownsRow base 37 2 v fs.length ((fs.zip us).flatMap fcell) ∧ ∀ (i : Nat) (p : ByteArray × List UInt8) (u : Value), fs[i]? = some p → us[i]? = some u → ∃ (b : Option Addr) (c : Nat), u = .slice b p.2.length c ∧ w.ownsRow base 5 1 u p.2.length (bv p.2)
theorem FLs.nil (w : World) (base : Nat) : FLs w base [] [] (.slice none 0 0) := ⟨rfl, nil_own _ _ _ _, fun i p u h => (by cases h)⟩
theorem FLs.keep {w w' : World} {base : Nat} {fs : List (ByteArray × List UInt8)} {us : List Value} {v : Value} (h : FLs w base fs us v) (hk : ∀ b, base ≤ b → b < w.heap.size → w'.heap[b]? = w.heap[b]?) : FLs w' base fs us v := by
  refine ⟨h.1, row_block h.2.1 fun b hb => hk b (h.2.1.lt b hb).1 (h.2.1.lt b hb).2, fun i p u hp hu => ?_⟩
  obtain ⟨b, c, e, hr⟩ := h.2.2 i p u hp hu
  exact ⟨b, c, e, row_block hr fun j hj => hk j (hr.lt j hj).1 (hr.lt j hj).2⟩
theorem row_apart {w : World} {B B' n n' z z' : Nat} {e e' : TypeId} {v v' : Value} {xs xs' : List Value} (h : w.ownsRow B e z v n xs) (h' : w.ownsRow B' e' z' v' n' xs') (he : e ≠ e') {b : Nat} (hb : v.ownBlock = some b) : v'.ownBlock ≠ some b := by
  intro hb'
  rcases h.2 with ⟨rfl, _⟩ | ⟨g, c, cur, rfl, _, k1, _⟩
  · cases hb
  · rcases h'.2 with ⟨rfl, _⟩ | ⟨g', c', cur', rfl, _, k2, _⟩
    · cases hb'
    · obtain rfl : g = b := by simpa [Value.ownBlock] using hb
      obtain rfl : g' = g := by simpa [Value.ownBlock] using hb'
      rw [k1] at k2
      injection k2 with k2
      injection k2 with _ k3
      exact he k3
theorem FLs.add {w w' : World} {base : Nat} {fs : List (ByteArray × List UInt8)} {us : List Value} {v v' u : Value} (h : FLs w base fs us v) {n : ByteArray} {b : List UInt8} (hu : ∃ x c, u = .slice x b.length c) (hr : w.ownsRow base 5 1 u b.length (bv b)) (hg : w.grownBy w' v.ownBlock)
    (hv : w'.ownsRow base 37 2 v' (fs.length + 1) ((fs.zip us).flatMap fcell ++ [.string n, u])) : FLs w' base (fs ++ [(n, b)]) (us ++ [u]) v' := by
  have hkeep : ∀ {x : Value} {m : Nat} {xs : List Value}, w.ownsRow base 5 1 x m xs → w'.ownsRow base 5 1 x m xs := fun {x m xs} hx =>
    row_block hx fun j hj => hg.block j (hx.lt j hj).2 fun e => row_apart hx h.2.1 (show (5 : TypeId) ≠ 37 by decide) hj e.symm
  refine ⟨by simp [h.1], ?_, fun i p x hp hx => ?_⟩
  · rw [List.zip_append h.1.symm, List.flatMap_append, List.length_append]
    simpa [fcell] using hv
  · rcases Nat.lt_trichotomy i fs.length with hi | hi | hi
    · rw [List.getElem?_append_left hi] at hp
      rw [List.getElem?_append_left (by rw [h.1]; exact hi)] at hx
      obtain ⟨y, c, e, hy⟩ := h.2.2 i p x hp hx
      exact ⟨y, c, e, hkeep hy⟩
    · subst hi
      rw [List.getElem?_append_right (Nat.le_refl _)] at hp
      rw [List.getElem?_append_right (by rw [h.1]; exact Nat.le_refl _)] at hx
      simp at hp
      simp [h.1] at hx
      subst hp hx
      obtain ⟨y, c, e⟩ := hu
      exact ⟨y, c, e, hkeep hr⟩
    · rw [List.getElem?_eq_none (by simp; omega)] at hp
      cases hp

theorem ptrR_is {c : Option Nat} {e : Nat} {yp : List MemPlace} (h : ptrR (mkP c) = some (.held e, yp)) : c = some e := by
  cases c with
  | none => cases h
  | some b => simp [mkP, ptrR] at h; rw [h.1]
/-- A map's copy: what has come up. -/
def CollM (D : DataW Nat) (left : Lit → Bool) (l lm : List KE) : Prop := Sorted lm ∧ (∀ kl, left kl = true → Maps.has D kl = true) ∧ ∀ p, p ∈ lm ↔ p ∈ l ∧ left (.string p.1.data.toList) = false
theorem CollM.start {w : World} {b : Nat} {D : DataW Nat} {l : List KE} (hF : FD w b D l) : CollM D (Maps.has D) l [] :=
  ⟨List.Pairwise.nil, fun _ h => h, fun p => ⟨fun h => (by cases h), fun ⟨h1, h2⟩ => by rw [(hF.has_ _).2 ⟨p, h1, rfl⟩] at h2; cases h2⟩⟩
theorem CollM.step {D : DataW Nat} {left : Lit → Bool} {l lm : List KE} (h : CollM D left l lm) (hs : Sorted l) {p : KE} (hp : p ∈ l) : CollM D (fun z => left z && !z.sameKey (.string p.1.data.toList)) l (putL p.1 p.2 lm) := by
  obtain ⟨h1, h2, h3⟩ := h
  refine ⟨h1.put _ _, fun kl hkl => ?_, fun q => ?_⟩
  · simp at hkl; exact h2 kl hkl.1
  · rw [mem_put, h3 q]
    by_cases hq : q.1 = p.1
    · constructor
      · rintro (rfl | ⟨_, hne⟩)
        · exact ⟨hp, by simp [Lit.sameKey]⟩
        · exact absurd hq hne
      · rintro ⟨hq1, _⟩
        left
        obtain ⟨q1, q2⟩ := q
        simp only at hq
        subst hq
        rw [hs.one hq1 hp]
    · have hne : ¬ q.1.data.toList = p.1.data.toList := fun e => hq (bytes_eq e)
      constructor
      · rintro (rfl | ⟨⟨hq1, hq2⟩, _⟩)
        · exact absurd rfl hq
        · exact ⟨hq1, by simp [hq2]⟩
      · rintro ⟨hq1, hq2⟩
        exact .inr ⟨⟨hq1, by
          cases hlf : left (.string q.1.data.toList)
          · rfl
          · simp [hlf, Lit.sameKey] at hq2
            exact absurd (congrArg Array.toList hq2) hne⟩, hq⟩
theorem CollM.done {D : DataW Nat} {left : Lit → Bool} {l lm : List KE} (h : CollM D left l lm) (hs : Sorted l) (hl : ∀ kl, left kl = false) : lm = l :=
  h.1.ext hs fun p => by rw [h.2.2 p, hl]; simp
theorem crash_keep {w w1 w2 : World} {L : Nat → Nat} {d ms mf B : Nat} {fb : List Nat} {s : Dk} {vc : Value} {S : Nat → Prop} (h : DM w L d fb s ms mf vc) (_hz : B ≤ w1.heap.size) (hL : ∀ b, L b ≠ 0 → b < B) (hc : Chg S w1 w2) (hS : ∀ b, S b → B ≤ b) (hw : w1.heap = w.heap := by rfl) : DM w2 L d fb s ms mf vc := by
  refine h.keep (by rw [← hw]; exact hc.size) fun b hb => ?_
  rw [← hw]
  exact hc.block b (by rw [hw]; exact h.lab b hb) fun hs => by have := hL b hb; have := hS b hs; omega
theorem crash_pk {w1 w2 : World} {pb B : Nat} {ps : List Int} {S : Nat → Prop} (h : PK w1 pb B ps) (hc : Chg S w1 w2) (hS : ∀ b, S b → B ≤ b) (hn : ¬ S pb) : PK w2 pb B ps := by
  obtain ⟨_, _, hb, _, _, _, hBw, _, _⟩ := id h
  exact h.keep (hc.below hBw hS) (hc.block pb hb.lt hn)
theorem left_map {s : Dk} (hok : s.Ok) (fb : List Nat) (ps : List Int) : (leftL s ps).map (bk fb) = ((s.dchs.map (bkD fb)).take (modn (pickV ps) (s.dchs.length + 1))).foldl ddo (s.safe.map (bk fb)) := by
  unfold leftL
  rw [fold_map (okD_take _ hok.okd), List.map_take]

theorem left_ids {w : World} {L : Nat → Nat} {d ms mf : Nat} {fb : List Nat} {s : Dk} {vc : Value} (h : DM w L d fb s ms mf vc) (hok : s.Ok) (ps : List Int) : ∀ p ∈ leftL s ps, p.2 < s.files.length :=
  ids_fold h.ids (fun n f hf => h.dids n f (List.mem_of_mem_take hf)) hok.sorted (okD_take _ hok.okd)
theorem left_sorted {s : Dk} (hok : s.Ok) (ps : List Int) : Sorted (leftL s ps) := Sorted.fold hok.sorted

theorem info_file : (Try.prog.info? 37).map (fun i => (i.zero, i.size, i.bytes)) = some (some (.agg #[.string ByteArray.empty, .slice none 0 0]), 2, 40) := by kernel_rfl
theorem look_at {w : World} {b : Nat} {fb : List Nat} {lf : List KE} (h : MD w b (lf.map (bk fb))) {q : KE} (hq : q ∈ lf) : (Instr.lookup 67 (.map (some b)) (.string q.1) false).run Try.prog w = .ok (.pointer (some ⟨fb.getD q.2 0, 0, none⟩)) w := by
  have hm : bk fb q ∈ lf.map (bk fb) := List.mem_map.2 ⟨q, hq, rfl⟩
  have hs := h.2.1 _ hm
  exact (h.look ((get_mem h.1).2 hm) (by unfold maxLen; have : q.1.size ≤ 32 := hs; omega)).1

/-- What stands ahead of the append of a file told. -/
theorem crash_add {wr w6 : World} {base pb : Nat} {fs : List (ByteArray × List UInt8)} {us : List Value} {v : Value} {n : ByteArray} {b6 : Option Addr} {c6 tl : Nat} {bs : List UInt8} (h : FLs wr base fs us v) (hz : base ≤ wr.heap.size) (hp : pb < base) (hc : Chg (fun b => b = pb) wr w6) (hr : w6.ownsRow wr.heap.size 5 1 (.slice b6 tl c6) tl (bv bs)) :
    FLs (w6.alloc (.cells #[.string n, .slice b6 tl c6] 37)) base fs us v ∧ (w6.alloc (.cells #[.string n, .slice b6 tl c6] 37)).ownsRow base 5 1 (.slice b6 tl c6) tl (bv bs) ∧ Chg (fun b => b = pb) wr (w6.alloc (.cells #[.string n, .slice b6 tl c6] 37)) ∧ base ≤ w6.heap.size := by
  have hc2 := hc.alloc (.cells #[.string n, .slice b6 tl c6] 37)
  exact ⟨h.keep fun b h1 h2 => hc2.block b h2 (by omega), (row_up hr hz).alloc _, hc2, Nat.le_trans hz hc.size⟩

theorem FLs.mono {w : World} {base base' : Nat} {fs : List (ByteArray × List UInt8)} {us : List Value} {v : Value} (h : FLs w base fs us v) (hb : base' ≤ base) : FLs w base' fs us v :=
  ⟨h.1, row_le h.2.1 hb, fun i p u hp hu => by
    obtain ⟨b, c, e, hr⟩ := h.2.2 i p u hp hu
    exact ⟨b, c, e, row_le hr hb⟩⟩
theorem crash_step {w5 wr w6 w8 : World} {pb tl c6 : Nat} {pp : List (ByteArray × List UInt8)} {us : List Value} {v v' : Value} {n : ByteArray} {b6 : Option Addr} {bs : List UInt8} {ps : List Int} (hc : Chg (fun b => b = pb) w5 wr) (hp : pb < w5.heap.size) (htl : bs.length = tl)
    (h1 : FLs (w6.alloc (.cells #[.string n, .slice b6 tl c6] 37)) w5.heap.size pp us v) (h2 : (w6.alloc (.cells #[.string n, .slice b6 tl c6] 37)).ownsRow w5.heap.size 5 1 (.slice b6 tl c6) tl (bv bs)) (h3 : Chg (fun b => b = pb) wr (w6.alloc (.cells #[.string n, .slice b6 tl c6] 37)))
    (hown : w8.ownsRow w5.heap.size 37 2 v' (pp.length + 1) ((pp.zip us).flatMap fcell ++ [.string n, .slice b6 tl c6])) (hg : (w6.alloc (.cells #[.string n, .slice b6 tl c6] 37)).grownBy w8 v.ownBlock) (hP : PK w6 pb pb ps) :
    FLs w8 w5.heap.size (pp ++ [(n, bs)]) (us ++ [.slice b6 tl c6]) v' ∧ PK w8 pb pb ps ∧ Chg (fun b => b = pb) w5 w8 := by
  subst htl
  have hold : ∀ k, v.ownBlock = some k → w5.heap.size ≤ k := fun k hk => (h1.2.1.lt k hk).1
  have hc8 : Chg (fun k => v.ownBlock = some k) (w6.alloc (.cells #[.string n, .slice b6 bs.length c6] 37)) w8 := (Chg.refl _ _).grown hg fun k hk => .inl hk
  have hP7 : PK (w6.alloc (.cells #[.string n, .slice b6 bs.length c6] 37)) pb pb ps := hP.next (Below.al w6 _)
  refine ⟨h1.add ⟨b6, c6, rfl⟩ h2 hg hown, crash_pk hP7 hc8 (fun b hb => by have := hold b hb; omega) (fun hb => by have := hold pb hb; omega), (hc.trans h3).trans' hc8 fun j hj hj2 => by have := hold j hj2; omega⟩

set_option maxRecDepth 100000 in
set_option maxHeartbeats 16000000 in
theorem crash_any (S : Nat → Prop) (d N c np : Nat) (s : Dk) (ps : List Int) (A : Option Addr) (w : World) (h : Disk w S d s) (hok : s.Ok) (hsz : s.Sz N 140737488355328) (hN : N ≤ 999999999999) (hP : Rd w w.heap.size A (ps.map (Value.int .i64))) (hnp : ps.length = np) (hc : np ≤ c) (hwf : ∀ x ∈ ps, (Lit.int .i64 x).wf = true) (hpl : np ≤ 140737488355328) :
    Calls Try.prog 10 #[.pointer (some ⟨d, 0, none⟩), .slice A np c] w fun e w' => ∃ us b cap, e = .returned (.slice b (crashL s ps).length cap) ∧ FLs w' w.heap.size (crashL s ps) us (.slice b (crashL s ps).length cap) ∧ Below w.heap.size w w' := by
  obtain ⟨i1, hi1, hz1, hs1, hy1⟩ := info_parts info_file
  obtain ⟨L, fb, ms, mf, vc, hD, hS⟩ := id h
  obtain ⟨cb, cc, rfl⟩ := row_slice hD.rc
  obtain ⟨md, hmd⟩ : ∃ md, s.dchs.length = md := ⟨_, rfl⟩
  have hmdl : md ≤ 999999999999 := by have := hsz.d; omega
  have HMD := Lib.hid hmd
  have em1 : IntKind.i64.wrap ((md : Int) + 1) = (md : Int) + 1 := IntWalk.i64_in _ (by omega)
  have hbl := h.lt
  have hB0 : ∀ b, L b ≠ 0 → b < w.heap.size := hD.lab
  have hb1 := (Below.al w (.cells #[.slice A np c] 23))
  have hb2 := hb1.trans ((Below.al (w.alloc (.cells #[.slice A np c] 23)) (.map #[] 0)).mono (by simp))
  have hD2 := hD.keep hb2.size fun b hb => hb2.block b (hB0 b hb)
  have hP2 : PK ((w.alloc (.cells #[.slice A np c] 23)).alloc (.map #[] 0)) w.heap.size w.heap.size ps := ⟨A, c, by rw [hnp]; exact (Box.new w _ _).alloc _, hP.below hb2, by rw [hnp]; exact hc, Nat.le_refl _, hb2.size, hwf, by rw [hnp]; exact hpl⟩
  have hM2 := MD.made (w.alloc (.cells #[.slice A np c] 23))
  rw [World.size_alloc] at hM2
  have hz2 : ((w.alloc (.cells #[.slice A np c] 23)).alloc (.map #[] 0)).heap.size = w.heap.size + 2 := by simp
  have hx1 := hD.box.next hb1
  have hx1c := hx1.cell 1
  have hx2c := hD2.box.cell 1
  have hmm := @run_makeMap Try.prog
  obtain ⟨hso, hsm, D, hF⟩ := hD2.safe
  have hFs := hF.size hso
  have hpl0 : L w.heap.size = 0 := Classical.byContradiction fun hne => by have := hB0 _ hne; omega
  have hnl0 : L (w.heap.size + 1) = 0 := Classical.byContradiction fun hne => by have := hB0 _ hne; omega
  obtain ⟨n, hn⟩ : ∃ n, (s.safe.map (bk fb)).length = n := ⟨_, rfl⟩
  have hnl : n ≤ 999999999999 := by have := hsz.d; rw [List.length_map] at hn; omega
  have hlm3 : mf < w.heap.size := hB0 mf (by rw [hD.lmf]; omega)
  have H := Lib.hid (And.intro hD2 (And.intro hP2 (And.intro hM2 (And.intro hok hsz))))
  have HF := Lib.hid (And.intro hF (And.intro hso hsm))
  have HN := Lib.hid (And.intro hn hFs)
  have HB := Lib.hid (And.intro hb2 (And.intro hpl0 (And.intro hnl0 hB0)))
  clear hmd h hD hS hok hsz hP hnp hwf hb1 hb2 hD2 hP2 hM2 hx1 hF hso hsm hn hFs hbl hpl0 hnl0 hB0
  go_enter Try.func10, Try.ntmps10
  go_upto_region 5 with fail
  clear hx1c hmm
  obtain ⟨w9, hw9⟩ : ∃ w9, (w.alloc (.cells #[.slice A np c] 23)).alloc (.map #[] 0) = w9 := ⟨_, rfl⟩
  rw [hw9] at hx2c hz2 H HF HB ⊢
  have HZ2 := Lib.hid hz2
  clear hw9 hz2
  go_wp2_with (first
    | (at_range; refine wpList_range_own _ rfl _ 67 rfl 9 81 kstr Try.underlying67 ptrR mf (Maps.size D) D rfl HF.out.1.own ?_; intro w0 hrg0 hg0 hs0))
  go_frame
  clear hs0 hx2c
  go_loopw [] (fun w2 => ∃ (left : Lit → Bool) (cnt : Nat) (lm : List KE), w2.ranges Try.prog 9 ptrR mf w9.heap.size (Maps.size D) D left cnt ∧ lm.length + cnt ≤ n ∧
      MD w2 (w.heap.size + 1) lm ∧ CollM D left (s.safe.map (bk fb)) lm ∧ Chg (fun b => b = w.heap.size + 1) w9 w2)
    (fun w2 => w2.rangeLeft mf w9.heap.size)
  case atStart =>
    have hz2 := HZ2.out
    have hc0 : Chg (fun b => b = w.heap.size + 1) w9 w0 := (Chg.refl _ _).grown hg0 fun j e => by cases e
    exact ⟨_, _, [], hrg0, by rw [HN.out.2, HN.out.1]; simp, H.out.2.2.1.keep (hg0.block _ (by omega) (by intro e; cases e)), CollM.start HF.out.1, hc0⟩
  case round =>
    clear hrg0 hg0
    obtain ⟨left, cnt, lm, hrg, hcs, hM, hC, hc2⟩ := hrel
    have hzw := hrg.lt
    have HH := Lib.hid (And.intro hM (And.intro hC hc2))
    obtain ⟨m, hm⟩ : ∃ m, lm.length = m := ⟨_, rfl⟩
    have HM := Lib.hid hm
    rw [hm] at hcs
    clear hM hC hc2 hm
    go_wp2_with (first
      | (at_next; refine wpList_next_ranges _ rfl _ rfl 9 kstr ptrR encStr mkP (fun key kl hk => by obtain ⟨x, hx, _⟩ := Maps.keyOf_str Try.underlying9 hk; exact ⟨x, hx⟩) ptrR_shape mf w9.heap.size (Maps.size D) _ _ _ rfl hrg ?_ ?_))
    · intro hc0 hl0
      have hdn := HH.out.2.1.done HF.out.2.1 hl0
      have hMn := HH.out.1
      rw [hdn] at hMn
      have hcw := HH.out.2.2
      have hwz := HZ2.out
      have hcz := hcw.size
      have hDr : DM wr L d fb s ms mf (.slice cb s.dchs.length cc) := H.out.1.keep hcz fun b hb => hcw.block b (by have := HB.out.2.2.2 b hb; omega) (by have := HB.out.2.2.2 b hb; omega)
      have hPr : PK wr w.heap.size w.heap.size ps := H.out.2.1.keep (hcw.below (by omega) fun k hk => by omega) (hcw.block _ (by omega) (by omega))
      have hBr : Below w.heap.size w wr := HB.out.1.trans (hcw.below (by omega) fun k hk => by omega)
      have hx4 : wr.cell? ⟨d, 2, none⟩ = some (.slice cb md cc) := by have := hDr.box.cell 2; rw [HMD.out] at this; exact this
      have hx4d : wr.drew.cell? ⟨d, 2, none⟩ = some (.slice cb md cc) := hx4
      have hxl := hDr.box.lt
      have HPW := Lib.hid (pick_wf hPr)
      have HD := Lib.hid (And.intro hDr (And.intro hPr (And.intro hMn hBr)))
      have HZr := Lib.hid (show w.heap.size + 2 ≤ wr.heap.size by omega)
      clear hdn hMn hcw hwz hcz hDr hPr hBr hrg hc0 hl0 hcs HH HM
      go_upto_region 9 with fail
      go_cut [9] (fun s9 wx => s9 = .map (some (w.heap.size + 1)) ∧ MD wx (w.heap.size + 1) ((leftL s ps).map (bk fb)) ∧ PK wx w.heap.size w.heap.size ps.tail ∧ DM wx L d fb s ms mf (.slice cb s.dchs.length cc) ∧ Below w.heap.size w wx ∧ wr.heap.size ≤ wx.heap.size)
      case first =>
        go_region_held3 (fun w' => w'.cell? ⟨d, 2, none⟩ = some (.slice cb md cc))
          (first | with_reducible exact hx4 | with_reducible exact hx4d | with_reducible exact hx7 | with_reducible exact hx5)
          (first
          | (go_at_call 37
             refine (pick_any w.heap.size w.heap.size ps _ (by exact HD.out.2.1)).mono ?_
             rintro e w1 ⟨rfl, hk, hc⟩
             have hD1 := crash_keep HD.out.1 (show w.heap.size ≤ wr.drew.heap.size from Nat.le_trans (Nat.le_add_right _ 2) HZr.out) HB.out.2.2.2 hc (fun b e => Nat.le_of_eq (Eq.symm e))
             have hx5 : w1.cell? ⟨d, 2, none⟩ = some (.slice cb md cc) := by have := hD1.box.cell 2; rw [HMD.out] at this; exact this
             have hxl2 := hD1.box.lt
             have hm1 : MD w1 (w.heap.size + 1) (s.safe.map (bk fb)) := MD.chg (w := wr.drew) (HD.out.2.2.1.keep rfl) hc (by show ¬ w.heap.size + 1 = w.heap.size; omega)
             have H1 := Lib.hid (And.intro hD1 (And.intro hk (And.intro hm1 (And.intro (hc.below (w := wr.drew) (by show w.heap.size ≤ wr.heap.size; have := HZr.out; omega) fun b e => Nat.le_of_eq (Eq.symm e)) hc.size))))
             clear hD1 hk hc hm1)
          | (go_at_call 39
             refine (mod_any (pickV ps) ((md : Int) + 1) (md + 1) _ (by omega) (by omega) HPW.out (by omega)).mono ?_
             rintro e w2 ⟨rfl, hw2⟩
             have hw3 := hw2.symm
             subst hw3)
          | (go_at_call 38
             refine (partD d ms mf (modn (pickV ps) (md + 1)) s.dchs.length (w.heap.size + 1) _ _ (s.safe.map (bk fb)) (s.dchs.map (bkD fb)) _ (by exact H1.out.1.box) (by exact H1.out.2.2.1) (by exact H1.out.1.rc) (by rw [List.length_map]) (by have := modn_lt (pickV ps) (show 0 < md + 1 by omega); rw [HMD.out]; omega)
               (fun b hb e => by have := H1.out.1.lc b hb; have := HB.out.2.2.1; rw [e] at *; omega) (okD_map H.out.2.2.2.1.okd) (fun c hc => by obtain ⟨c0, hc0, rfl⟩ := List.mem_map.1 hc; exact dcOk_of H.out.2.2.2.1 hc0 fb)
               (fun i => by have h1 := fold_len ((s.dchs.map (bkD fb)).take i) (s.safe.map (bk fb)); have h2 := H.out.2.2.2.2.d; rw [List.length_take, List.length_map, List.length_map] at h1; omega) (by rw [HMD.out]; omega)).mono ?_
             rintro e w3 ⟨rfl, hm3, hc3⟩
             have hP3 := crash_pk H1.out.2.1 hc3 (fun b e => by show w.heap.size ≤ b; have : b = w.heap.size + 1 := e; omega) (by show ¬ w.heap.size = w.heap.size + 1; omega)
             have hD3 := crash_keep H1.out.1 (Nat.le_trans (show w.heap.size ≤ wr.drew.heap.size from Nat.le_trans (Nat.le_add_right _ 2) HZr.out) H1.out.2.2.2.2) HB.out.2.2.2 hc3 (fun b e => by have : b = w.heap.size + 1 := e; omega)
             have hx7 : w3.cell? ⟨d, 2, none⟩ = some (.slice cb md cc) := by have := hD3.box.cell 2; rw [HMD.out] at this; exact this
             have H3 := Lib.hid (And.intro hm3 (And.intro hP3 (And.intro hD3 (And.intro (H1.out.2.2.2.1.trans (hc3.below (Nat.le_trans (show w.heap.size ≤ wr.drew.heap.size from Nat.le_trans (Nat.le_add_right _ 2) HZr.out) H1.out.2.2.2.2) fun b e => by have : b = w.heap.size + 1 := e; omega)) (Nat.le_trans H1.out.2.2.2.2 hc3.size)))))
             clear hm3 hc3 hP3 hD3))
        all_goals
          go_wp2_with fail
          go_meet
          case rel =>
            refine ⟨rfl, ?_, H3.out.2.1, H3.out.2.2.1, HD.out.2.2.2.trans ((below_drew (Below.refl _ _)).trans H3.out.2.2.2.1), H3.out.2.2.2.2⟩
            rw [left_map H.out.2.2.2.1, HMD.out]
            exact H3.out.1
      case rest =>
        obtain ⟨rfl, hm9, hp9, hd9, hb9, hz9⟩ := hcut
        obtain ⟨lf, hlf⟩ : ∃ lf, leftL s ps = lf := ⟨_, rfl⟩
        have HLF := Lib.hid hlf
        obtain ⟨k, hk⟩ : ∃ k, lf.length = k := ⟨_, rfl⟩
        have hkl : k ≤ 999999999999 := by
          rw [← hk, ← hlf]
          have h1 := fold_len (s.dchs.take (modn (pickV ps) (s.dchs.length + 1))) s.safe
          have h2 := H.out.2.2.2.2.d
          rw [List.length_take] at h1
          unfold leftL
          omega
        rw [hlf] at hm9
        have hids : ∀ p ∈ lf, p.2 < s.files.length := by rw [← hlf]; exact left_ids hd9 H.out.2.2.2.1 ps
        have HK := Lib.hid (And.intro hk hids)
        have H9 := Lib.hid (And.intro hm9 (And.intro hp9 (And.intro hd9 (And.intro hb9 (Nat.le_trans HZr.out hz9)))))
        clear hm9 hp9 hd9 hb9 hz9 hk hlf hids hx4 hx4d hxl
        go_wp2_with (first
          | (go_at_call 40
             refine (rising_any _ (lf.map (bk fb)) _ (by exact H9.out.1) (by rw [List.length_map, HK.out.1]; exact hkl)).mono ?_
             rintro e w5 ⟨bb, bc, rfl, hr5, hb5⟩
             rw [List.length_map, HK.out.1] at hr5 ⊢
             have H5 := Lib.hid (And.intro hr5 hb5)
             clear hr5 hb5))
        go_loopw [10, 49] (fun v10 v49 wx => ∃ (j : Nat) (us : List Value), j ≤ k ∧ v49 = .int .i64 j ∧ FLs wx w5.heap.size (tornAll s (lf.take j) ps.tail).1 us v10 ∧ PK wx w.heap.size w.heap.size (tornAll s (lf.take j) ps.tail).2 ∧ Chg (fun b => b = w.heap.size) w5 wx) (fun _ i _ => k - (intOf i).toNat)
        case atStart => exact ⟨0, [], Nat.zero_le _, rfl, FLs.nil _ _, H9.out.2.1.next H5.out.2, Chg.refl _ _⟩
        case round =>
          obtain ⟨j, us, hj, rfl, hF, hP, hC⟩ := hrel
          obtain ⟨fb10, fc10, rfl⟩ := row_slice hF.2.1
          have hwc := H9.out.2.2.2.2
          have h5z := H5.out.2.size
          have hCz := hC.size
          by_cases hlt : j < k
          · have hjq : j < lf.length := by rw [HK.out.1]; exact hlt
            obtain ⟨q, hq⟩ : ∃ q, lf[j] = q := ⟨_, rfl⟩
            have hqm : q ∈ lf := hq ▸ List.getElem_mem hjq
            have hrn := row_block H5.out.1 (w' := wr) fun b hb => hC.block b (H5.out.1.lt b hb).2 (by have := (H5.out.1.lt b hb).1; omega)
            obtain ⟨ad, rfl, hadl, hac⟩ := (row_rd hrn).one (i := j) (by simpa using hjq)
            have hac' : wr.cell? (ad.add j) = some (.string q.1) := by rw [hac]; simp [← hq, bk]
            have hM6 : MD wr (w.heap.size + 1) (lf.map (bk fb)) := MD.chg (w := w5) (H9.out.1.below H5.out.2) hC (by show ¬ w.heap.size + 1 = w.heap.size; omega)
            have hlook := look_at hM6 hqm
            have hD5 := H9.out.2.2.1.keep H5.out.2.size fun b hb => H5.out.2.block b (H9.out.2.2.1.lab b hb)
            have hD6 := crash_keep hD5 (show w.heap.size ≤ w5.heap.size by omega) HB.out.2.2.2 hC (fun b e => Nat.le_of_eq (Eq.symm e))
            have hkf := HK.out.2 q hqm
            obtain ⟨vs, vf, vcc, us6, hFM⟩ := fl_fm hD6 hkf
            obtain ⟨fk, hfk⟩ : ∃ fk, fb.getD q.2 0 = fk := ⟨_, rfl⟩
            rw [hfk] at hlook hFM
            have hfm := fl_mem hkf
            have hus : us6.length ≤ 999999999999 := by have h1 := hFM.len; have h2 := H.out.2.2.2.2.f _ hfm; omega
            have hj0 : (0 : Int) ≤ j := by omega
            have hj1 : (j : Int) < k := by omega
            have HQ := Lib.hid (And.intro (show lf.take (j + 1) = lf.take j ++ [q] by rw [← hq]; exact List.take_succ_eq_append_getElem hjq) (And.intro hFM (And.intro hus hfm)))
            have HF2 := Lib.hid (And.intro hF (And.intro hP (And.intro hC (And.intro hwc h5z))))
            have hFl := tornAll_len s (lf.take j) ps.tail
            have hsn := tornAll_snoc s q (lf.take j) ps.tail
            obtain ⟨pp, hpp⟩ : ∃ pp, tornAll s (lf.take j) ps.tail = pp := ⟨_, rfl⟩
            rw [hpp] at hFl hsn HF2 ⊢
            obtain ⟨gl, hgl⟩ : ∃ gl, pp.1.length = gl := ⟨_, rfl⟩
            have hglj : gl = j := by rw [← hgl, hFl, List.length_take]; omega
            have HGL := Lib.hid (And.intro hgl (And.intro hglj hsn))
            have hgl9 : gl ≤ 999999999998 := by omega
            rw [hgl]
            clear hF hP hC hq hqm hrn hac hM6 hD5 hD6 hkf hFM hus hfm hfk hjq hwc h5z hCz hgl hglj hsn hpp hFl
            go_wp2_with (first
              | (go_at_call 41
                 refine (torn_any L fk q.2 w.heap.size w.heap.size (s.fl q.2) vs vf vcc us6 _ _ (by exact HQ.out.2.1) (H.out.2.2.2.1.okf _ HQ.out.2.2.2) (H.out.2.2.2.2.m _ HQ.out.2.2.2) HQ.out.2.2.1 (by exact HF2.out.2.1) HB.out.2.1 HB.out.2.2.2).mono ?_
                 rintro e w6 ⟨b6, c6, rfl, hr6, hp6, hc6⟩
                 obtain ⟨tq, htq⟩ : ∃ tq, tornS (s.fl q.2) pp.2 = tq := ⟨_, rfl⟩
                 rw [htq] at hr6 hp6 ⊢
                 obtain ⟨tl, htl⟩ : ∃ tl, tq.1.length = tl := ⟨_, rfl⟩
                 rw [htl] at hr6 ⊢
                 have hA := crash_add (n := q.1) HF2.out.1 HF2.out.2.2.1.size (show w.heap.size < w5.heap.size by have := HF2.out.2.2.2; omega) hc6 hr6
                 have H6 := Lib.hid (And.intro hA (And.intro hp6 (And.intro hc6 (And.intro htq htl))))
                 clear hr6 hp6 hc6 htq htl hA)
              | (at_builtin
                 refine wpList_app _ rfl (.tmp 53) (.tmp 61) _ rfl w5.heap.size 37 i1 _ 2 40 Try.underlying31 hi1 hz1 hs1 hy1 rfl (by omega) (.slice fb10 gl fc10) gl _ rfl (by have := H6.out.1.1.2.1; rw [HGL.out.1] at this; exact this) _ _ 1 1 [.string q.1, .slice b6 tl c6] rfl rfl (rd_new _ _ _) (by simp [Value.oneCell']) (by unfold maxLen; omega) (by omega) (by have := H6.out.1.2.2.2; simp; omega) ?_
                 intro v' w8 hown hg8 hor
                 have HG := Lib.hid (And.intro hown hg8)
                 clear hown hg8 hor))
            go_roundw
            case rel =>
              have hst := crash_step (ps := tq.2) (pp := pp.1) (bs := tq.1) HF2.out.2.2.1 (show w.heap.size < w5.heap.size by have := HF2.out.2.2.2; omega) H6.out.2.2.2.2 H6.out.1.1 H6.out.1.2.1 H6.out.1.2.2.1 (by have := HG.out.1; rw [← HGL.out.1] at this; exact this) (by have := HG.out.2; rw [← HGL.out.1] at this; exact this) H6.out.2.1
              exact ⟨j + 1, us ++ [.slice b6 tl c6], by omega, by go_num, by rw [HQ.out.1, HGL.out.2.2, H6.out.2.2.2.1]; exact hst⟩
            case measure => simp [intOf]; omega
          · obtain rfl : j = k := by omega
            have hlk : lf.take j = lf := by rw [← HK.out.1]; exact List.take_length
            rw [hlk] at hF ⊢
            have hcr : crashL s ps = (tornAll s lf ps.tail).1 := by unfold crashL; rw [HLF.out]
            have HE := Lib.hid (And.intro hF (And.intro hcr (H9.out.2.2.2.1.trans ((H5.out.2.mono (by omega)).trans (hC.below (by omega) fun b e => Nat.le_of_eq (Eq.symm e))))))
            obtain ⟨gl, hgl⟩ : ∃ gl, (tornAll s lf ps.tail).1.length = gl := ⟨_, rfl⟩
            rw [hgl]
            have HGL := Lib.hid hgl
            clear hF hP hC hcr hlk hgl
            go_wp2
            go_ret
            rw [HE.out.2.1, HGL.out]
            have hF := HE.out.1
            rw [HGL.out] at hF
            exact ⟨us, _, _, rfl, hF.mono (by omega), HE.out.2.2⟩
    · intro x cx kl yd yp w3 cnt3 hkey hlk hv hat hrg3 hlt3 hg3 hs3 hen
      obtain ⟨x', ex, rfl, _⟩ := Maps.keyOf_str Try.underlying9 hkey
      obtain rfl : x = x' := encStr_inj ex
      obtain ⟨q, hq, rfl⟩ := (HF.out.1.has_ _).1 (HH.out.2.1.2.1 _ hlk)
      have hyd : yd = .held q.2 := by rw [← hat .nil]; exact HF.out.1.at_ q hq _
      obtain rfl : cx = some q.2 := ptrR_is (by rw [← hyd]; exact hv)
      subst hyd
      rw [enc_key] at hen ⊢
      have hqs := HF.out.2.2 q hq
      have HC2 := Lib.hid (HH.out.2.1.step HF.out.2.1 hq)
      have hM3 : MD w3 (w.heap.size + 1) lm := HH.out.1.keep (hg3.block _ HH.out.1.lt (by intro e; injection e with e; have := HZ2.out; omega))
      obtain ⟨D3, hF3⟩ := hM3.2.2
      have hD3s := hF3.size hM3.1
      have HM3 : Hid (Maps.size D3 < maxLen) := by show _ < _; rw [hD3s, HM.out]; unfold maxLen; omega
      have HK := Lib.hid (WideMaps.keyOf_string_mk Try.underlying9 (s := q.1) (by unfold maxLen; omega))
      have HH3 := Lib.hid (And.intro hM3 (And.intro hF3 (HH.out.2.2.grown hg3 fun k e => .inr (by injection e with e; omega))))
      clear hs3 hM3 hF3 hD3s hkey hat hv
      go_wp2_with (at_mapUpdate
                   refine wpList_mapUpdate_own _ rfl (.tmp 28) (.tmp 29) (.tmp 30) _ rfl 9 81 kstr Try.underlying67 ptrR (w.heap.size + 1) (Maps.size D3) D3 rfl HH3.out.2.1.own HM3.out _ _ (.string q.1.data.toList) rfl rfl HK.out (.held q.2) [] (ptrR_mk q.2) ?_
                   intro w4 hown4 hg4
                   have H4 := Lib.hid (And.intro hown4 hg4)
                   clear hown4 hg4)
      have hg4 := H4.out.2
      have hrg4 := hrg3.kept hg4 (by intro e; injection e with e; omega) (by intro e; injection e with e; have := HZ2.out; omega)
      go_roundw
      case rel =>
        refine ⟨_, cnt3, hrg4, putL q.1 q.2 lm, ?_, HH3.out.1.put' HH3.out.2.1 hqs H4.out.1, HC2.out, HH3.out.2.2.grown hg4 fun k e => .inl (by injection e with e; exact e.symm)⟩
        have := put_len q.1 q.2 lm
        rw [HM.out] at this
        omega
      case measure => rw [hrg4.left_eq, hrg.left_eq]; exact hlt3
end Go.Proofs.Ytebeefkibbbkdaa
