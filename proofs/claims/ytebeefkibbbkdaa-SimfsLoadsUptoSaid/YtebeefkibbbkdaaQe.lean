import Derived.Test.YtebeefkibbbkdaaQa
import Derived.OrdersHeld
import Derived.Deep.RegionHeld
import Derived.Test.YtebeefkibbbkdaaQd
/- A store into a map by its two operations: the entry is made, then filled. -/
namespace Go.Proofs.Ytebeefkibbbkdaa
open Go.RowKit Go.Maps
open Go.ChangeMaps Go.MapKept
open Go.WideElems (Fit)

theorem own_block {H : Type} {P : Program} {k : TypeId} {R : Value → Option (DataW H × List MemPlace)} {w w' : World} {b n : Nat} {D : DataW H} (h : w.ownsMap P k R b n D) (hb : w'.heap[b]? = w.heap[b]?) : w'.ownsMap P k R b n D := by
  obtain ⟨es, clock, h1, h2⟩ := h
  exact ⟨es, clock, by rw [hb]; exact h1, h2⟩
theorem idx_push {es : Array MapEntry} {c : Nat} {e : MapEntry} (h : ∀ x ∈ es.toList, x.born < c) (he : e.born = c) : (es.push e).findIdx? (fun x => (x.born : Int) == (c : Int)) = some es.size := by
  rw [Array.findIdx?_push]
  have hn : es.findIdx? (fun x => (x.born : Int) == (c : Int)) = none := by
    rw [Array.findIdx?_eq_none_iff]
    intro x hx
    have := h x (by simpa using hx)
    simp
    omega
  rw [hn]
  simp [he]
theorem own_entry {H : Type} {P : Program} {k : TypeId} {R : Value → Option (DataW H × List MemPlace)} {w : World} {b n : Nat} {D : DataW H} {t e : TypeId} (h : w.ownsMap P k R b n D) (K : Keyed P k) (ht : P.underlying t = some (.map k e)) (hn : n < maxLen) {z : Value} (hz : ∀ W : World, (zeroValue e).run P W = .ok z W)
    {key val : Value} {kl : Lit} {d : DataW H} {ps : List MemPlace} (hkey : keyOf P k key = some kl) (hv : R val = some (d, ps)) (ha : ∀ zd, D.atKey kl zd = zd) (hd : ∃ d1 d2 : DataW H, d1 ≠ d2) :
    ∃ (st : Int) (w1 : World), (Instr.mapEntry t (.map (some b)) key).run P w = .ok (.tuple #[z, .int .i64 st]) w1 ∧ w.grownBy w1 (some b) ∧
      ∀ w2 : World, w2.heap[b]? = w1.heap[b]? → ∃ w3, (Instr.entryStore t (.map (some b)) (.int .i64 st) val).run P w2 = .ok () w3 ∧ w3.ownsMap P k R b (n + 1) (D.put kl d) ∧ w2.grownBy w3 (some b) := by
  obtain ⟨w', hrun, hown, hg⟩ := h.update K ht hn hkey hv
  obtain ⟨es, clock, hb, F, hs, rfl⟩ := h
  rcases K.find w hkey es.toList (fun x hx => by obtain ⟨y, hy⟩ := F.reads x hx; exact ⟨y.1, Go.WideElems.rd_key hy⟩) with ⟨h1, h2⟩ | ⟨j, e0, h1, h2, h3⟩
  · have hb1 : (setBlock w b (.map (es.push ⟨key, z, clock⟩) (clock + 1))).heap[b]? = some (.map (es.push ⟨key, z, clock⟩) (clock + 1)) := heap_setBlock_same hb _
    have hup : (Instr.mapUpdate t (.map (some b)) key val).run P w = .ok () (setBlock w b (.map (es.push ⟨key, val, clock⟩) (clock + 1))) := by
      simp [Instr.mapUpdate, run_underlying ht, MapKept.run_getObj_map hb, K.check w false hkey, h1, MapKept.run_setObj_map _ hb, Result.andThen, setBlock]
    rw [hup] at hrun
    injection hrun with _ hw
    refine ⟨clock, setBlock w b (.map (es.push ⟨key, z, clock⟩) (clock + 1)), ?_, ⟨rfl, rfl, rfl, by simp [setBlock], fun i _ hi => heap_setBlock_other hb _ (fun e => hi (by rw [e]))⟩, fun w2 hw2 => ?_⟩
    · simp [Instr.mapEntry, run_underlying ht, MapKept.run_getObj_map hb, K.check w false hkey, h1, hz, MapKept.run_setObj_map _ hb, Result.andThen, setBlock, goInt]
    · have hb2 : w2.heap[b]? = some (.map (es.push ⟨key, z, clock⟩) (clock + 1)) := by rw [hw2]; exact hb1
      refine ⟨setBlock w2 b (.map (es.push ⟨key, val, clock⟩) (clock + 1)), ?_, own_block hown ?_, ⟨rfl, rfl, rfl, by simp [setBlock], fun i _ hi => heap_setBlock_other hb2 _ (fun e => hi (by rw [e]))⟩⟩
      · have hf := idx_push (e := ⟨key, z, clock⟩) F.stamped.1 rfl
        have hm : (es.push ⟨key, z, clock⟩).modify es.size (fun e => { e with val := val }) = es.push ⟨key, val, clock⟩ := by
          apply Array.ext
          · simp
          · intro i hi1 hi2
            simp only [Array.getElem_modify, Array.getElem_push]
            by_cases hi : i < es.size
            · have : ¬ es.size = i := by omega
              simp [hi, this]
            · have : es.size = i := by simp at hi2; omega
              simp [this]
        simp [Instr.entryStore, MapKept.run_getObj_map hb2, asInt, asIntOf, hf, hm, MapKept.run_setObj_map _ hb2, Result.andThen, setBlock]
      · rw [heap_setBlock_same hb2, ← hw, heap_setBlock_same hb]
  · exfalso
    obtain ⟨d1, d2, hne⟩ := hd
    rcases Maps.fit_look (z := z) false K ht (hz w) hb F hkey with ⟨_, h4, _⟩ | ⟨_, y, _, _, _, _, hat, _⟩
    · exact h4 e0 (List.mem_of_getElem? h2) h3
    · exact hne (by rw [← ha d1, ← ha d2, hat d1, hat d2])
end Go.Proofs.Ytebeefkibbbkdaa
/- Load: what one file of an image makes of a disk. -/
namespace Go.Proofs.Ytebeefkibbbkdaa
open Go.RowKit Go.Maps

theorem MD.entry {w : World} {b f : Nat} {l : List KE} (h : MD w b l) {k : ByteArray} (hg : getL k l = none) (hk : k.size ≤ 32) (hl : l.length < 1000000000000) :
    ∃ (st : Int) (w1 : World), (Instr.mapEntry 67 (.map (some b)) (.string k)).run Try.prog w = .ok (.tuple #[.pointer none, .int .i64 st]) w1 ∧ w.grownBy w1 (some b) ∧
      ∀ w2 : World, w2.heap[b]? = w1.heap[b]? → ∃ w3, (Instr.entryStore 67 (.map (some b)) (.int .i64 st) (.pointer (some ⟨f, 0, none⟩))).run Try.prog w2 = .ok () w3 ∧ MD w3 b (putL k f l) ∧ w2.grownBy w3 (some b) := by
  obtain ⟨h1, h2, D, hF⟩ := id h
  have hkey := WideMaps.keyOf_string_mk Try.underlying9 (s := k) (by unfold maxLen; omega)
  have hh : Maps.has D (.string k.data.toList) = false := by
    rw [Bool.eq_false_iff]
    intro hh
    obtain ⟨p, hp, e⟩ := (hF.has_ _).1 hh
    exact get_none.1 hg p hp (bytes_eq e)
  obtain ⟨st, w1, r1, g1, hst⟩ := own_entry hF.own kstr Try.underlying67 (by rw [hF.size h1]; unfold maxLen; omega) (fun W => Try.zeroValue81 W) hkey (ptrR_mk f) (fun zd => atKey_of_not_has hh zd) ⟨.nil, .held 0, by intro e; cases e⟩
  refine ⟨st, w1, r1, g1, fun w2 hw2 => ?_⟩
  obtain ⟨w3, r3, o3, g3⟩ := hst w2 hw2
  exact ⟨w3, r3, h.put' hF hk o3, g3⟩
theorem DM.load {w w' : World} {L : Nat → Nat} {d ms mf k : Nat} {fb : List Nat} {s : Dk} {vc : Value} {n : ByteArray} (h : DM w L d fb s ms mf vc) (hd : s.dchs = []) (hk : k < s.files.length)
    (hms : MD w' ms (putL n (fb.getD k 0) (s.safe.map (bk fb)))) (hmf : MD w' mf (putL n (fb.getD k 0) (s.safe.map (bk fb)))) (hc : Chg (fun b => b = ms ∨ b = mf) w w') : DM w' L d fb { s with safe := putL n k s.safe } ms mf vc := by
  have hn : ∀ b, b < w.heap.size → L b ≠ 2 → L b ≠ 3 → w'.heap[b]? = w.heap[b]? := fun b hb h2 h3 => hc.block b hb fun e => by
    rcases e with rfl | rfl
    · exact h2 h.lms
    · exact h3 h.lmf
  have hsn : ({ s with safe := putL n k s.safe } : Dk).seen = putL n k s.safe := by unfold Dk.seen; rw [hd]; rfl
  refine ⟨(hn d h.box.lt (by rw [h.ld]; omega) (by rw [h.ld]; omega)).trans h.box, h.ld, h.lms, h.lmf, ?_, ?_, row_block h.rc fun b hb => hn b (h.rc.lt b hb).2 (by rw [h.lc b hb]; omega) (by rw [h.lc b hb]; omega), h.lc, h.fl, fun j x hx => ?_, fun b hb => Nat.lt_of_lt_of_le (h.lab b hb) hc.size, fun p hp => ?_, h.dids⟩
  · rw [hsn, put_map]; exact hms
  · show MD w' mf ((putL n k s.safe).map (bk fb))
    rw [put_map]; exact hmf
  · obtain ⟨vs, vf, vcc, us, hF⟩ := h.files j x hx
    exact ⟨vs, vf, vcc, us, hF.keep hc.size (fun b hb h1 _ => hn b hb (by omega) (by omega)) (fun _ _ => rfl)⟩
  · rcases mem_put.1 hp with rfl | hp
    · exact hk
    · exact h.ids p hp.1
theorem set_last {α : Type} (l : List α) (x y : α) : (l ++ [x]).set l.length y = l ++ [y] := by simp
/-- A new file with bytes, twice in rows of their own. -/
theorem DM.filled {w w1 w2 : World} {L : Nat → Nat} {d ms mf m : Nat} {fb : List Nat} {s : Dk} {vc v1 v2 : Value} {bs : List UInt8} (h : DM w L d fb s ms mf vc) (hok : s.Ok) (hm : bs.length = m)
    (hb1 : Below (w.alloc (.cells newF 94)).heap.size (w.alloc (.cells newF 94)) w1) (hb2 : Below w1.heap.size w1 w2) (hr1 : w1.ownsRow (w.alloc (.cells newF 94)).heap.size 5 1 v1 m (bv bs)) (hr2 : w2.ownsRow w1.heap.size 5 1 v2 m (bv bs)) :
    ∃ L', DM ((w2.setCell ⟨w.heap.size, 0, none⟩ v1).setCell ⟨w.heap.size, 1, none⟩ v2) L' d (fb ++ [w.heap.size]) { s with files := s.files ++ [⟨bs, []⟩] } ms mf vc ∧ (∀ b, b < w.heap.size → L' b = L b) ∧ ∀ b, L' b ≠ 0 → L b ≠ 0 ∨ w.heap.size ≤ b := by
  subst hm
  have hN := h.new hok
  have hz0 : (w.alloc (.cells newF 94)).heap.size = w.heap.size + 1 := by simp
  have hz1 := hb1.size
  have hz2 := hb2.size
  have hv1 : ∀ b, v1.ownBlock = some b → w.heap.size + 1 ≤ b ∧ b < w1.heap.size := fun b hb => by have := hr1.lt b hb; omega
  have hv2 : ∀ b, v2.ownBlock = some b → w1.heap.size ≤ b ∧ b < w2.heap.size := fun b hb => hr2.lt b hb
  refine ⟨fun b => if v1.ownBlock = some b then 8 * s.files.length + 9 else if v2.ownBlock = some b then 8 * s.files.length + 10 else if b = w.heap.size then 8 * s.files.length + 8 else L b, ?_, fun b hb => ?_, fun b hb => ?_⟩
  · have hc : Chg (fun b => b = w.heap.size) (w.alloc (.cells newF 94)) ((w2.setCell ⟨w.heap.size, 0, none⟩ v1).setCell ⟨w.heap.size, 1, none⟩ v2) :=
      ((Chg.of_below (hb1.trans (hb2.mono hz1)) (fun b => b = w.heap.size)).setCell (p := ⟨w.heap.size, 0, none⟩) (.inl rfl) v1).setCell (p := ⟨w.heap.size, 1, none⟩) (.inl rfl) v2
    have hbox : Box w2 w.heap.size 94 newF := ((Box.new w 94 newF).next hb1).next hb2
    have hbox2 : Box ((w2.setCell ⟨w.heap.size, 0, none⟩ v1).setCell ⟨w.heap.size, 1, none⟩ v2) w.heap.size 94 #[v1, v2, .slice none 0 0] := by simpa using (hbox.set_ 0 v1).set_ 1 v2
    have hr1' : ((w2.setCell ⟨w.heap.size, 0, none⟩ v1).setCell ⟨w.heap.size, 1, none⟩ v2).ownsRow (w.alloc (.cells newF 94)).heap.size 5 1 v1 bs.length (bv bs) :=
      row_far (row_far (row_next hr1 hb2) (fun k hk => by have := hv1 k hk; show k ≠ w.heap.size; omega) v1) (fun k hk => by have := hv1 k hk; show k ≠ w.heap.size; omega) v2
    have hr2' : ((w2.setCell ⟨w.heap.size, 0, none⟩ v1).setCell ⟨w.heap.size, 1, none⟩ v2).ownsRow w1.heap.size 5 1 v2 bs.length (bv bs) :=
      row_far (row_far hr2 (fun k hk => by have := hv2 k hk; show k ≠ w.heap.size; omega) v1) (fun k hk => by have := hv2 k hk; show k ≠ w.heap.size; omega) v2
    have hF := hN.file (k := s.files.length) (x' := ⟨bs, []⟩) (vs := v1) (vf := v2) (vcc := .slice none 0 0) (us := []) (by simp [Dk.newf])
      (L' := fun b => if v1.ownBlock = some b then 8 * s.files.length + 9 else if v2.ownBlock = some b then 8 * s.files.length + 10 else if b = w.heap.size then 8 * s.files.length + 8 else L b)
      (w' := (w2.setCell ⟨w.heap.size, 0, none⟩ v1).setCell ⟨w.heap.size, 1, none⟩ v2)
      (fun b hb => by
        have n1 : ¬ v1.ownBlock = some b := fun e => by have := hv1 b e; omega
        have n2 : ¬ v2.ownBlock = some b := fun e => by have := hv2 b e; omega
        simp only [n1, n2, if_false])
      (fun b hb hne => by
        by_cases n1 : v1.ownBlock = some b
        · have := hv1 b n1; simp; omega
        · by_cases n2 : v2.ownBlock = some b
          · have := hv2 b n2; simp; omega
          · simp only [n1, n2, if_false] at hne
            by_cases n3 : b = w.heap.size
            · omega
            · rw [if_neg n3] at hne
              have := h.lab b hne
              omega)
      (fun b hb => by
        by_cases n1 : v1.ownBlock = some b
        · right; simp only [n1, if_true]; omega
        · by_cases n2 : v2.ownBlock = some b
          · right; simp only [n1, n2, if_false, if_true]; omega
          · left
            have n3 : ¬ b = w.heap.size := by omega
            simp only [n1, n2, n3, if_false]
            rcases Nat.eq_zero_or_pos (L b) with h0 | h0
            · exact h0
            · have := h.lab b (by omega); omega)
      (by
        have e : (fb ++ [w.heap.size]).getD s.files.length 0 = w.heap.size := by rw [← h.fl]; simp
        rw [e]
        refine ⟨hbox2, ?_, row_le hr1' (Nat.zero_le _), fun b hb => by simp only [hb, if_true], row_le hr2' (Nat.zero_le _), fun b hb => ?_, nil_own _ _ _ _, fun b hb => (by cases hb), rfl, fun i c u hi => (by simp at hi)⟩
        · have n1 : ¬ v1.ownBlock = some w.heap.size := fun e => by have := hv1 _ e; omega
          have n2 : ¬ v2.ownBlock = some w.heap.size := fun e => by have := hv2 _ e; omega
          simp only [n1, n2, if_false, if_true]
        · have n1 : ¬ v1.ownBlock = some b := fun e => by have := hv1 _ e; have := hv2 _ hb; omega
          simp only [n1, hb, if_false, if_true])
      (hc.mono fun b _ e => by subst e; simp)
    have e : s.newf.setF s.files.length ⟨bs, []⟩ = { s with files := s.files ++ [⟨bs, []⟩] } := by
      show ({ s with files := (s.files ++ [Fl.new]).set s.files.length ⟨bs, []⟩ } : Dk) = _
      rw [set_last]
    rw [e] at hF
    exact hF
  · have n1 : ¬ v1.ownBlock = some b := fun e => by have := hv1 b e; omega
    have n2 : ¬ v2.ownBlock = some b := fun e => by have := hv2 b e; omega
    have n3 : ¬ b = w.heap.size := by omega
    simp only [n1, n2, n3, if_false]
  · by_cases n1 : v1.ownBlock = some b
    · right; have := hv1 b n1; omega
    · by_cases n2 : v2.ownBlock = some b
      · right; have := hv2 b n2; omega
      · by_cases n3 : b = w.heap.size
        · right; omega
        · left
          simp only [n1, n2, n3, if_false] at hb
          exact hb
end Go.Proofs.Ytebeefkibbbkdaa
/- The disk that Load makes of an image: plain laws. -/
namespace Go.Proofs.Ytebeefkibbbkdaa
open Go.RowKit Go.Maps

abbrev FE := ByteArray × List UInt8
def ldStep (s : Dk) (p : FE) : Dk := { s with files := s.files ++ [⟨p.2, []⟩], safe := putL p.1 s.files.length s.safe, used := s.used + p.2.length }
def ldS (q : Int) (fs : List FE) : Dk := fs.foldl ldStep (Dk.fresh q)
theorem ldS_snoc (q : Int) (fs : List FE) (p : FE) : ldS q (fs ++ [p]) = ldStep (ldS q fs) p := by unfold ldS; rw [List.foldl_append]; rfl
/-- Names rise. -/
def Asc (fs : List FE) : Prop := fs.Pairwise fun a b => kc a.1 b.1 = -1
def ldL : List FE → Nat → List KE
  | [], _ => []
  | p :: r, k => (p.1, k) :: ldL r (k + 1)
theorem ldL_snoc : ∀ (fs : List FE) (p : FE) (k : Nat), ldL (fs ++ [p]) k = ldL fs k ++ [(p.1, k + fs.length)]
  | [], p, k => rfl
  | x :: r, p, k => by
    show (x.1, k) :: ldL (r ++ [p]) (k + 1) = _
    rw [ldL_snoc r p (k + 1)]
    show _ = (x.1, k) :: (ldL r (k + 1) ++ [(p.1, k + (r.length + 1))])
    rw [show k + 1 + r.length = k + (r.length + 1) by omega]
theorem ldL_mem : ∀ (fs : List FE) (k : Nat) (x : KE), x ∈ ldL fs k → (∃ p ∈ fs, p.1 = x.1) ∧ k ≤ x.2 ∧ x.2 < k + fs.length
  | [], _, x, h => by cases h
  | p :: r, k, x, h => by
    rcases List.mem_cons.1 h with rfl | h
    · exact ⟨⟨p, List.mem_cons_self, rfl⟩, Nat.le_refl _, by simp⟩
    · obtain ⟨⟨y, hy, e⟩, h1, h2⟩ := ldL_mem r (k + 1) x h
      exact ⟨⟨y, List.mem_cons_of_mem _ hy, e⟩, Nat.le_of_succ_le h1, Nat.lt_of_lt_of_eq h2 (by rw [List.length_cons]; omega)⟩
theorem ldL_len : ∀ (fs : List FE) (k : Nat), (ldL fs k).length = fs.length
  | [], _ => rfl
  | p :: r, k => by show (ldL r (k + 1)).length + 1 = _; rw [ldL_len r]; rfl
theorem ldL_sorted : ∀ {fs : List FE} (k : Nat), Asc fs → Sorted (ldL fs k)
  | [], _, _ => List.Pairwise.nil
  | p :: r, k, h => by
    obtain ⟨h1, h2⟩ := List.pairwise_cons.1 h
    refine List.pairwise_cons.2 ⟨fun x hx => ?_, ldL_sorted (k + 1) h2⟩
    obtain ⟨⟨y, hy, e⟩, _⟩ := ldL_mem r (k + 1) x hx
    rw [← e]
    exact h1 y hy
theorem ldL_ids : ∀ (fs : List FE) (k : Nat), ((ldL fs k).map fun p : KE => p.2).Nodup
  | [], _ => List.nodup_nil
  | p :: r, k => by
    refine List.nodup_cons.2 ⟨fun hm => ?_, ldL_ids r (k + 1)⟩
    obtain ⟨x, hx, e⟩ := List.mem_map.1 hm
    have := (ldL_mem r (k + 1) x hx).2
    simp only at e
    rw [e] at this
    exact Nat.not_succ_le_self _ this.1
theorem put_last {l : List KE} {n : ByteArray} {k : Nat} (hs : Sorted l) (h : ∀ x ∈ l, kc x.1 n = -1) : putL n k l = l ++ [(n, k)] := by
  have h2 : Sorted (l ++ [(n, k)]) := by
    refine List.pairwise_append.2 ⟨hs, List.pairwise_singleton _ _, fun a ha b hb => ?_⟩
    obtain rfl : b = (n, k) := by simpa using hb
    exact h a ha
  refine (hs.put n k).ext h2 fun x => ?_
  rw [mem_put, List.mem_append, List.mem_singleton]
  constructor
  · rintro (h3 | h3)
    · exact .inr h3
    · exact .inl h3.1
  · rintro (h3 | h3)
    · refine .inr ⟨h3, fun e => ?_⟩
      have := h x h3
      rw [e, kc_self] at this
      exact absurd this (by decide)
    · exact .inl h3
theorem asc_take {fs : List FE} (h : Asc fs) (i : Nat) : Asc (fs.take i) := List.Pairwise.sublist (List.take_sublist _ _) h
theorem ld_facts (q : Int) : ∀ (fs : List FE), Asc fs → (ldS q fs).safe = ldL fs 0 ∧ (ldS q fs).files = fs.map (fun p => (⟨p.2, []⟩ : Fl)) ∧ (ldS q fs).dchs = [] ∧ (ldS q fs).used = (sumL fs : Nat) ∧ (ldS q fs).quota = q ∧ (ldS q fs).fuse = -1 ∧ (ldS q fs).dead = false ∧ (ldS q fs).ops = 0 := by
  intro fs
  generalize hn : fs.length = n
  induction n generalizing fs with
  | zero =>
    intro _
    obtain rfl := List.length_eq_zero_iff.1 hn
    exact ⟨rfl, rfl, rfl, rfl, rfl, rfl, rfl, rfl⟩
  | succ n ih =>
    intro ha
    obtain ⟨r, p, rfl⟩ : ∃ r p, fs = r ++ [p] := ⟨fs.dropLast, fs.getLast (by intro e; subst e; cases hn), (List.dropLast_concat_getLast _).symm⟩
    obtain ⟨ha1, _, ha2⟩ := List.pairwise_append.1 ha
    obtain ⟨h1, h2, h3, h4, h5, h6, h7, h8⟩ := ih r (by simpa using hn) ha1
    rw [ldS_snoc]
    have hfl : (ldS q r).files.length = r.length := by rw [h2, List.length_map]
    refine ⟨?_, ?_, h3, ?_, h5, h6, h7, h8⟩
    · show putL p.1 (ldS q r).files.length (ldS q r).safe = _
      rw [h1, hfl, ldL_snoc, put_last (ldL_sorted 0 ha1) (fun x hx => ?_)]
      · simp
      · obtain ⟨⟨y, hy, e⟩, _⟩ := ldL_mem r 0 x hx
        rw [← e]
        exact ha2 y hy p (by simp)
    · show (ldS q r).files ++ [_] = _
      rw [h2, List.map_append]
      rfl
    · show (ldS q r).used + _ = _
      rw [h4, sumL_snoc]
      omega
theorem ldL_image : ∀ (fs : List FE) (k : Nat) (g : Nat → List UInt8), (∀ j p, fs[j]? = some p → g (k + j) = p.2) → (ldL fs k).map (fun x : KE => (x.1, g x.2)) = fs
  | [], _, _, _ => rfl
  | p :: r, k, g, h => by
    show (p.1, g k) :: (ldL r (k + 1)).map _ = _
    rw [ldL_image r (k + 1) g fun j x hx => by rw [show k + 1 + j = k + (j + 1) by omega]; exact h (j + 1) x (by simpa using hx)]
    have := h 0 p rfl
    rw [Nat.add_zero] at this
    rw [this]
theorem ld_image (q : Int) (fs : List FE) (ha : Asc fs) : imageL (ldS q fs) = fs := by
  obtain ⟨h1, h2, h3, _⟩ := ld_facts q fs ha
  unfold imageL
  have hs : (ldS q fs).seen = ldL fs 0 := by unfold Dk.seen; rw [h3, h1]; rfl
  rw [hs]
  refine ldL_image fs 0 (fun k => ((ldS q fs).fl k).seen) fun j p hp => ?_
  have : (ldS q fs).fl (0 + j) = ⟨p.2, []⟩ := by
    unfold Dk.fl
    rw [h2, Nat.zero_add, List.getD_eq_getElem?_getD, List.getElem?_map, hp]
    rfl
  rw [this]
  rfl
/-- What an image must be for Load. -/
structure LdOk (q : Int) (fs : List FE) : Prop where
  q : 0 ≤ q ∧ q ≤ 1073741824
  asc : Asc fs
  names : ∀ p ∈ fs, goodN p.1 = true
  few : fs.length ≤ 65536
  sum : sumL fs ≤ 1073741824
theorem sumL_mem {fs : List FE} {p : FE} (h : p ∈ fs) : p.2.length ≤ sumL fs := by
  obtain ⟨i, hi, rfl⟩ := List.getElem_of_mem h
  have e := List.take_append_drop i fs
  have h1 : sumL fs = sumL (fs.take i) + sumL (fs.drop i) := by
    conv => lhs; rw [← e]
    unfold sumL
    rw [List.map_append, List.sum_append]
  rw [List.drop_eq_getElem_cons hi] at h1
  simp only [sumL, List.map_cons, List.sum_cons] at h1 ⊢
  omega
theorem ld_inv {q : Int} {fs : List FE} (h : LdOk q fs) {N : Nat} (hN : fs.length ≤ N) : (ldS q fs).Inv N := by
  obtain ⟨h1, h2, h3, h4, h5, h6, h7, h8⟩ := ld_facts q fs h.asc
  have hseen : (ldS q fs).seen = ldL fs 0 := by unfold Dk.seen; rw [h3, h1]; rfl
  have hlen : (ldS q fs).files.length = fs.length := by rw [h2, List.length_map]
  refine ⟨⟨by rw [h1]; exact ldL_sorted 0 h.asc, by rw [h3]; trivial, fun p hp => ?_, fun c hc => (by rw [h3] at hc; cases hc), fun x hx => ?_⟩, ⟨by rw [h1, h3, ldL_len]; simpa using hN, fun x hx => ?_, fun x hx => ?_⟩, ⟨by rw [h5]; exact h.q, ⟨by rw [h4]; omega, by rw [h4]; have := h.sum; omega⟩, by rw [h6]; decide, by rw [h8]; omega⟩, ?_, by rw [h4]; have := h.sum; omega, by rw [hseen]; exact ldL_ids fs 0, fun p hp => ?_, fun n f hf => by rw [h3] at hf; cases hf⟩
  · rw [h1] at hp
    obtain ⟨⟨y, hy, e⟩, _⟩ := ldL_mem fs 0 p hp
    rw [← e]; exact h.names y hy
  · rw [h2] at hx
    obtain ⟨y, _, rfl⟩ := List.mem_map.1 hx
    trivial
  · rw [h2] at hx
    obtain ⟨y, _, rfl⟩ := List.mem_map.1 hx
    exact Nat.zero_le _
  · rw [h2] at hx
    obtain ⟨y, hy, rfl⟩ := List.mem_map.1 hx
    intro i
    have h1 := sumL_mem hy
    have h2 := h.sum
    simp
    omega
  · rw [h4, ← sum_image, ld_image q fs h.asc]
  · rw [h1] at hp
    rw [hlen]
    exact Nat.lt_of_lt_of_eq (ldL_mem fs 0 p hp).2.2 (Nat.zero_add _)
end Go.Proofs.Ytebeefkibbbkdaa
/- Load of an image that may be. -/
namespace Go.Proofs.Ytebeefkibbbkdaa
open Go.RowKit Go.Maps

theorem LdOk.take {q : Int} {fs : List FE} (h : LdOk q fs) (j : Nat) : LdOk q (fs.take j) :=
  ⟨h.q, asc_take h.asc j, fun p hp => h.names p (List.mem_of_mem_take hp), by rw [List.length_take]; have := h.few; omega, Nat.le_trans (sumL_take fs j) h.sum⟩
section
variable {P : Program} {ops : Array Oper} {Q : Exit → Act → World → Prop} {md : Region.Mode} {S : World → Prop}
theorem hold_take (i : Nat) {oi : Oper} {v : Value} {fuel : Nat} {listed : Array Bool} {a : Act} {w : World} (hi : ops.toList[i]? = some oi)
    (hs : Region.noSelect ops = true) (hf : Region.free md ops listed i = true) (hr : (Region.ready md ops listed).contains i = true)
    (hQ : ∀ c a w, Q (.panic c) (a.put oi.dst v) w → Q (.panic c) a w) (hy : YieldsIf P ops S oi v a) (hS : S w)
    (h : wpAnyH P md ops Q S fuel (listed.setIfInBounds i true) (a.put oi.dst v) w) : wpAnyH P md ops Q S (fuel + 1) listed a w :=
  wpAnyH_take (by rw [← hi, Array.getElem?_toList]) hs hf hr hQ hy hS h
theorem hold_step (i : Nat) {o : Oper} {fuel : Nat} {listed : Array Bool} {a : Act} {w : World} (hi : ops.toList[i]? = some o) (hr : Region.ready md ops listed = [i])
    (h : ∀ K' : Act → World → Prop, Hid (∀ a w, S w → wpAnyH P md ops Q S fuel (listed.setIfInBounds i true) a w → K' a w) → if Region.wanted o (yielded ops a.tmps) = true then Oper.wp P o a w K' Q else K' (a.put o.dst undef) w) : wpAnyH P md ops Q S (fuel + 1) listed a w :=
  wpAnyH_ready hr (by simp) (AllReadyH.cons (by rw [← hi, Array.getElem?_toList]) (fun K' hK => h K' (Lib.hid fun a w h1 h2 => hK.out a w h1 fun _ => h2)) AllReadyH.nil)
end
set_option maxRecDepth 100000 in
set_option maxHeartbeats 16000000 in
theorem load_ok (q : Int) (fs : List FE) (A : Option Addr) (n c : Nat) (w : World) (h : LdOk q fs) (hn : fs.length = n) (hI : IM w w.heap.size A fs) :
    Calls Try.prog 14 #[.slice A n c, .int .i64 q] w fun e w' => ∃ d S, e = .returned (.tuple #[.pointer (some ⟨d, 0, none⟩), .int .i64 0]) ∧ Disk w' S d (ldS q fs) ∧ (∀ b, S b → w.heap.size ≤ b) ∧ Below w.heap.size w w' := by
  have hnm : n ≤ 65536 := by rw [← hn]; exact h.few
  have hqd := Lib.hid (show qOk q = true from decide_eq_true h.q)
  have H := Lib.hid (And.intro h (And.intro hn hI))
  clear h hn hI
  go_enter Try.func14, Try.ntmps14
  go_wp2_with (first
    | (go_at_call 42
       refine (goodQuota_any q _).mono ?_
       rintro e w1 ⟨rfl, hw⟩
       have hw1 := hw.symm
       subst hw1
       rw [hqd.out])
    | (go_at_call 43
       refine (fresh_any q _).mono ?_
       rintro e w1 ⟨d, S0, rfl, h0, h1, h2⟩
       have H1 := Lib.hid (And.intro h0 (And.intro h1 h2))
       clear h0 h1 h2))
  obtain ⟨L0, fb0, ms, mf, vc, hD0, hS0⟩ := H1.out.1
  have HD0 := Lib.hid (And.intro hD0 hS0)
  clear hD0 hS0
  go_loopw [20] (fun i wr => ∃ (j : Nat) (L : Nat → Nat) (fb : List Nat), j ≤ n ∧ i = .int .i64 j ∧ DM wr L d fb (ldS q (fs.take j)) ms mf vc ∧ (∀ b, L b ≠ 0 → w.heap.size ≤ b) ∧ Below w.heap.size w wr) (fun i _ => n - (intOf i).toNat)
  case atStart => exact ⟨0, L0, fb0, Nat.zero_le _, rfl, HD0.out.1, fun b hb => H1.out.2.1 b ((HD0.out.2 b).2 hb), H1.out.2.2⟩
  case round =>
    obtain ⟨j, L, fb, hj, rfl, hD, hL, hB⟩ := hrel
    by_cases hlt : j < n
    · have hj0 : (0 : Int) ≤ j := by omega
      have hj1 : (j : Int) < n := by omega
      obtain ⟨p, hp⟩ : ∃ p, fs[j]? = some p := ⟨_, List.getElem?_eq_getElem (by rw [H.out.2.1]; exact hlt)⟩
      have hIw := H.out.2.2.below hB
      obtain ⟨ad, x, cx, rfl, had, c0, c1, hrx⟩ := hIw j p hp
      have hpm := List.mem_of_getElem? hp
      have hgn := H.out.1.names p hpm
      have hst : fs.take (j + 1) = fs.take j ++ [p] := by
        obtain ⟨hl, e⟩ := List.getElem?_eq_some_iff.1 hp
        rw [← e]
        exact List.take_succ_eq_append_getElem hl
      obtain ⟨nm, bs⟩ := p
      obtain ⟨m, hm⟩ : ∃ m, bs.length = m := ⟨_, rfl⟩
      have hmx : m ≤ 1073741824 := by have h1 := sumL_mem hpm; have h2 := H.out.1.sum; simp only at h1; omega
      simp only at c0 c1 hrx hgn
      rw [hm] at c1
      have HP := Lib.hid (And.intro hp (And.intro hrx (And.intro hgn (And.intro hst hm))))
      have HDD := Lib.hid (And.intro hD (And.intro hL hB))
      clear hD hL hB hIw hpm hgn hst hp hrx hm
      have hxb := (Box.new wr 37 #[.string nm, .slice x m cx])
      have HX := Lib.hid hxb
      clear hxb
      have hx0 := HX.out.cell
      go_upto_region 9 with fail
      go_cut [43] (fun s43 wx => s43 = .bool false ∧ Below (wr.alloc (.cells #[.string nm, .slice x m cx] 37)).heap.size (wr.alloc (.cells #[.string nm, .slice x m cx] 37)) wx)
      case first =>
        by_cases hj2 : j = 0
        · have hS1 : (wr.alloc (.cells #[.string nm, .slice x m cx] 37)).drew.cell? ⟨wr.heap.size, 0, none⟩ = some (.string nm) := HX.out.cell 0
          have hjn : ¬ ((j : Int) > 0) := by omega
          have hjn2 : ¬ (0 < j) := by omega
          clear hj2
          refine wp_region_held_drew (S := fun w' => w'.cell? ⟨wr.heap.size, 0, none⟩ = some (.string nm)) (by kernel_rfl) hS1 fun _ => ?_
          refine hold_take 0 (v := ?_) rfl (by kernel_rfl) (by kernel_rfl) (by kernel_rfl) (fun _ _ _ h => h) (Or.inl ⟨by rfl, ?hy⟩) hS1 ?_
          case hy => first | (intro w hSw; go_simp; done) | (intro w hSw; go_simp; with_reducible rfl)
          simp only [Act.put, List.setIfInBounds_toArray, List.set_cons_zero, List.set_cons_succ]
          refine hold_take 1 (v := ?_) rfl (by kernel_rfl) (by kernel_rfl) (by kernel_rfl) (fun _ _ _ h => h) (Or.inl ⟨by rfl, ?hy⟩) hS1 ?_
          case hy => first | (intro w hSw; go_simp; done) | (intro w hSw; go_simp; with_reducible rfl)
          simp only [Act.put, List.setIfInBounds_toArray, List.set_cons_zero, List.set_cons_succ]
          refine hold_step 2 rfl (by kernel_rfl) fun K hK => ?_
          go_simp
          go_at_call 44
          refine (goodName_any nm _ (by have := (goodN_size HP.out.2.2.1).2; unfold maxLen; omega)).mono ?_
          rintro e w2 ⟨rfl, hb2⟩
          rw [HP.out.2.2.1]
          have hX2 := (show Box (wr.alloc (.cells #[.string nm, .slice x m cx] 37)).drew _ _ _ from HX.out).next hb2
          have hS2 : w2.cell? ⟨wr.heap.size, 0, none⟩ = some (.string nm) := hX2.cell 0
          have H2 := Lib.hid (And.intro hX2 hb2)
          clear hX2 hb2
          go_simp
          refine hK.out _ _ hS2 ?_
          clear hK K
          refine hold_take 3 (v := ?_) rfl (by kernel_rfl) (by kernel_rfl) (by kernel_rfl) (fun _ _ _ h => h) (Or.inl ⟨by rfl, ?hy⟩) hS2 ?_
          case hy => first | (intro w hSw; go_simp; done) | (intro w hSw; go_simp; with_reducible rfl)
          simp only [Act.put, List.setIfInBounds_toArray, List.set_cons_zero, List.set_cons_succ]
          refine hold_take 4 (v := ?_) rfl (by kernel_rfl) (by kernel_rfl) (by kernel_rfl) (fun _ _ _ h => h) (Or.inl ⟨by rfl, ?hy⟩) hS2 ?_
          case hy => first | (intro w hSw; go_simp; done) | (intro w hSw; go_simp; with_reducible rfl)
          simp only [Act.put, List.setIfInBounds_toArray, List.set_cons_zero, List.set_cons_succ]
          refine hold_take 5 (v := ?_) rfl (by kernel_rfl) (by kernel_rfl) (by kernel_rfl) (fun _ _ _ h => h) (Or.inl ⟨by rfl, ?hy⟩) hS2 ?_
          case hy => first | (intro w hSw; go_simp; done) | (intro w hSw; go_simp; with_reducible rfl)
          simp only [Act.put, List.setIfInBounds_toArray, List.set_cons_zero, List.set_cons_succ]
          refine hold_take 6 (v := ?_) rfl (by kernel_rfl) (by kernel_rfl) (by kernel_rfl) (fun _ _ _ h => h) (Or.inl ⟨by rfl, ?hy⟩) hS2 ?_
          case hy => first | (intro w hSw; go_simp; done) | (intro w hSw; go_simp; with_reducible rfl)
          simp only [Act.put, List.setIfInBounds_toArray, List.set_cons_zero, List.set_cons_succ]
          refine hold_take 7 (v := ?_) rfl (by kernel_rfl) (by kernel_rfl) (by kernel_rfl) (fun _ _ _ h => h) (Or.inl ⟨by rfl, ?hy⟩) hS2 ?_
          case hy => first | (intro w hSw; go_simp; done) | (intro w hSw; go_simp; with_reducible rfl)
          simp only [Act.put, List.setIfInBounds_toArray, List.set_cons_zero, List.set_cons_succ]
          refine hold_take 8 (v := undef) rfl (by kernel_rfl) (by kernel_rfl) (by kernel_rfl) (fun _ _ _ h => h) (Or.inr ⟨by rfl, rfl⟩) hS2 ?_
          simp only [Act.put, List.setIfInBounds_toArray, List.set_cons_zero, List.set_cons_succ]
          refine hold_take 9 (v := undef) rfl (by kernel_rfl) (by kernel_rfl) (by kernel_rfl) (fun _ _ _ h => h) (Or.inr ⟨by rfl, rfl⟩) hS2 ?_
          simp only [Act.put, List.setIfInBounds_toArray, List.set_cons_zero, List.set_cons_succ]
          refine hold_take 10 (v := undef) rfl (by kernel_rfl) (by kernel_rfl) (by kernel_rfl) (fun _ _ _ h => h) (Or.inr ⟨by rfl, rfl⟩) hS2 ?_
          simp only [Act.put, List.setIfInBounds_toArray, List.set_cons_zero, List.set_cons_succ]
          refine hold_take 11 (v := undef) rfl (by kernel_rfl) (by kernel_rfl) (by kernel_rfl) (fun _ _ _ h => h) (Or.inr ⟨by rfl, rfl⟩) hS2 ?_
          simp only [Act.put, List.setIfInBounds_toArray, List.set_cons_zero, List.set_cons_succ]
          refine hold_take 12 (v := undef) rfl (by kernel_rfl) (by kernel_rfl) (by kernel_rfl) (fun _ _ _ h => h) (Or.inr ⟨by rfl, rfl⟩) hS2 ?_
          simp only [Act.put, List.setIfInBounds_toArray, List.set_cons_zero, List.set_cons_succ]
          refine hold_take 13 (v := undef) rfl (by kernel_rfl) (by kernel_rfl) (by kernel_rfl) (fun _ _ _ h => h) (Or.inr ⟨by rfl, rfl⟩) hS2 ?_
          simp only [Act.put, List.setIfInBounds_toArray, List.set_cons_zero, List.set_cons_succ]
          refine hold_take 14 (v := undef) rfl (by kernel_rfl) (by kernel_rfl) (by kernel_rfl) (fun _ _ _ h => h) (Or.inr ⟨by rfl, rfl⟩) hS2 ?_
          simp only [Act.put, List.setIfInBounds_toArray, List.set_cons_zero, List.set_cons_succ]
          refine hold_take 15 (v := undef) rfl (by kernel_rfl) (by kernel_rfl) (by kernel_rfl) (fun _ _ _ h => h) (Or.inr ⟨by rfl, rfl⟩) hS2 ?_
          simp only [Act.put, List.setIfInBounds_toArray, List.set_cons_zero, List.set_cons_succ]
          refine hold_take 16 (v := undef) rfl (by kernel_rfl) (by kernel_rfl) (by kernel_rfl) (fun _ _ _ h => h) (Or.inr ⟨by rfl, rfl⟩) hS2 ?_
          simp only [Act.put, List.setIfInBounds_toArray, List.set_cons_zero, List.set_cons_succ]
          refine hold_take 17 (v := ?_) rfl (by kernel_rfl) (by kernel_rfl) (by kernel_rfl) (fun _ _ _ h => h) (Or.inl ⟨by rfl, ?hy⟩) hS2 ?_
          case hy => first | (intro w hSw; go_simp; done) | (intro w hSw; go_simp; with_reducible rfl)
          simp only [Act.put, List.setIfInBounds_toArray, List.set_cons_zero, List.set_cons_succ]
          refine hold_take 18 (v := ?_) rfl (by kernel_rfl) (by kernel_rfl) (by kernel_rfl) (fun _ _ _ h => h) (Or.inl ⟨by rfl, ?hy⟩) hS2 ?_
          case hy => first | (intro w hSw; go_simp; done) | (intro w hSw; go_simp; with_reducible rfl)
          simp only [Act.put, List.setIfInBounds_toArray, List.set_cons_zero, List.set_cons_succ]
          refine wpAnyH_done (by kernel_rfl) ?_ _
          go_wp2_with fail
          go_meet
          case rel => exact ⟨rfl, (below_drew (Below.refl _ _)).trans H2.out.2⟩
        · obtain ⟨i, hi⟩ : ∃ i, j = i + 1 := ⟨j - 1, by omega⟩
          obtain ⟨p0, hp0⟩ : ∃ p0, fs[i]? = some p0 := ⟨_, List.getElem?_eq_getElem (by rw [H.out.2.1]; omega)⟩
          have hIw := H.out.2.2.below HDD.out.2.2
          obtain ⟨ad0, x0, cx0, ea, _, d0, _, _⟩ := hIw i p0 hp0
          cases ea
          have hjp : (0 : Int) < j := by omega
          have hless : kc p0.1 nm = -1 := by
            have ha := H.out.1.asc
            obtain ⟨h1, e1⟩ := List.getElem?_eq_some_iff.1 hp0
            obtain ⟨h2, e2⟩ := List.getElem?_eq_some_iff.1 HP.out.1
            have := List.pairwise_iff_getElem.1 ha i j h1 h2 (by omega)
            rw [e1, e2] at this
            exact this
          have hbl : Op.bytesLess p0.1.toList nm.toList = true := by
            rw [ByteArray.toList_eq, ByteArray.toList_eq]
            exact (cmpB_less _ _).1 hless
          have HBL := Lib.hid hbl
          have HI := Lib.hid (And.intro d0 (And.intro hless hp0))
          have HJ := Lib.hid hi
          clear hi hp0 hless hbl hj2 d0 hIw
          have hlt2 : (ad.add (i * 2)).block < wr.heap.size := by rw [add_block]; exact Nat.lt_of_lt_of_le had HDD.out.2.2.size
          have hS1 : (wr.alloc (.cells #[.string nm, .slice x m cx] 37)).drew.cell? ⟨wr.heap.size, 0, none⟩ = some (.string nm) ∧ (wr.alloc (.cells #[.string nm, .slice x m cx] 37)).drew.cell? (ad.add (i * 2)) = some (.string p0.1) :=
            ⟨HX.out.cell 0, ((Below.al wr (.cells #[.string nm, .slice x m cx] 37)).cell hlt2).trans HI.out.1⟩
          have hjn : 0 < j := by have := HJ.out; omega
          have hii : (j : Int) - 1 = (i : Int) := by have := HJ.out; omega
          have hwr : IntKind.i64.wrap ((j : Int) - 1) = (i : Int) := by rw [hii]; exact IntWalk.i64_in _ (by have := HJ.out; omega)
          have hwi : IntKind.i64.wrap (i : Int) = (i : Int) := IntWalk.i64_in _ (by have := HJ.out; omega)
          have hw64 : wrap64 ((j : Int) - 1) = (i : Int) := by rw [hii]; exact IntWalk.wrap64_in _ (by have := HJ.out; omega)
          have hi0 : (0 : Int) ≤ i := by omega
          have hi1 : (i : Int) < n := by have := HJ.out; omega
          have hi2 : i < n := by have := HJ.out; omega
          go_region_held3 (fun w' => w'.cell? ⟨wr.heap.size, 0, none⟩ = some (.string nm) ∧ w'.cell? (ad.add (i * 2)) = some (.string p0.1))
            (first | with_reducible exact hS1 | with_reducible exact hS2)
            (first
            | (go_at_call 44
               refine (goodName_any nm _ (by have := (goodN_size HP.out.2.2.1).2; unfold maxLen; omega)).mono ?_
               rintro e w2 ⟨rfl, hb2⟩
               rw [HP.out.2.2.1]
               have hX2 := (show Box (wr.alloc (.cells #[.string nm, .slice x m cx] 37)).drew _ _ _ from HX.out).next hb2
               have hS2 : w2.cell? ⟨wr.heap.size, 0, none⟩ = some (.string nm) ∧ w2.cell? (ad.add (i * 2)) = some (.string p0.1) := ⟨hX2.cell 0, (hb2.cell (Nat.lt_of_lt_of_le hlt2 (by simp))).trans hS1.2⟩
               have H2 := Lib.hid (And.intro hX2 hb2)
               clear hX2 hb2))
          all_goals
            rw [HBL.out]
            go_wp2_with fail
            go_meet
            case rel => exact ⟨rfl, (below_drew (Below.refl _ _)).trans H2.out.2⟩
      case rest =>
        obtain ⟨rfl, hb2⟩ := hcut
        have hbw : Below wr.heap.size wr wc := (Below.al wr _).trans (hb2.mono (by simp))
        have hX2 := HX.out.next hb2
        have hxs : wc.heap.size ≠ wr.heap.size := by have := hX2.lt; omega
        have HC := Lib.hid (And.intro hbw hX2)
        have HRd : Hid (∀ W' : World, Below wr.heap.size wr W' → Rd W' W'.heap.size x (bv bs)) := fun W' hb => (HP.out.2.1.mono HDD.out.2.2.size).next hb
        clear hb2 hbw hX2 hx0
        go_upto_region 12 with fail
        have hb0 := HC.out.1.trans ((Below.al wc (.cells newF 94)).mono HC.out.1.size)
        have hS0 : (wc.alloc (.cells newF 94)).drew.cell? ⟨wr.heap.size, 1, none⟩ = some (.slice x m cx) := (HC.out.2.alloc _).cell 1
        have HB0 := Lib.hid hb0
        clear hb0
        go_region_held3 (fun w' => w'.cell? ⟨wr.heap.size, 1, none⟩ = some (.slice x m cx))
          (first | with_reducible exact hS0 | with_reducible exact hS1 | with_reducible exact hS2 | with_reducible exact hS3 | with_reducible exact hS4)
          (first
          | (go_at_call 45
             have z0 := hS0
             clear z0
             refine (clone_any x m cx bs _ (HRd.out _ (below_drew HB0.out)) HP.out.2.2.2.2 (by omega)).mono ?_
             rintro e w1 ⟨b1, c1, rfl, hr1, hb1⟩
             have hbx := (show Below (wc.alloc (.cells newF 94)).heap.size (wc.alloc (.cells newF 94)) w1 from (below_drew (Below.refl _ _)).trans hb1)
             have hS1 : w1.cell? ⟨wr.heap.size, 1, none⟩ = some (.slice x m cx) := ((HC.out.2.alloc _).next hbx).cell 1
             have H1c := Lib.hid (And.intro hr1 hbx)
             clear hr1 hb1 hbx hS0)
          | (go_at_call 45
             refine (clone_any x m cx bs _ (HRd.out _ (HB0.out.trans (H1c.out.2.mono (Nat.le_trans HC.out.1.size (by simp))))) HP.out.2.2.2.2 (by omega)).mono ?_
             rintro e w2 ⟨b2, c2, rfl, hr2, hb2⟩
             have hBx := ((HC.out.2.alloc (.cells newF 94)).next H1c.out.2).next hb2
             have hS2 : w2.cell? ⟨wr.heap.size, 1, none⟩ = some (.slice x m cx) := hBx.cell 1
             have hS3 : (w2.setCell ⟨wc.heap.size, 0, none⟩ (.slice b1 m c1)).cell? ⟨wr.heap.size, 1, none⟩ = some (.slice x m cx) := (hBx.far (fun e => hxs e.symm) _).cell 1
             have hS4 : ((w2.setCell ⟨wc.heap.size, 0, none⟩ (.slice b1 m c1)).setCell ⟨wc.heap.size, 1, none⟩ (.slice b2 m c2)).cell? ⟨wr.heap.size, 1, none⟩ = some (.slice x m cx) := ((hBx.far (fun e => hxs e.symm) _).far (fun e => hxs e.symm) _).cell 1
             have hfB := ((Box.new wc 94 newF).next H1c.out.2).next hb2
             have hff := hfB.free
             have hfc := hfB.cell
             have hfB2 := hfB.set_ 0 (.slice b1 m c1)
             have hff2 := hfB2.free
             have hfc2 := hfB2.cell
             have H2c := Lib.hid (And.intro hr2 (And.intro hb2 hBx))
             clear hr2 hb2 hBx hfB hfB2 hS1))
        go_upto_region 13 with fail
        have hFM := ld_facts q (fs.take j) (asc_take H.out.1.asc j)
        have hD2 : DM wc L d fb (ldS q (fs.take j)) ms mf vc := HDD.out.1.keep HC.out.1.size fun b hb => HC.out.1.block b (HDD.out.1.lab b hb)
        obtain ⟨L2, hD3, hl1, hl2⟩ := hD2.filled (ld_inv (H.out.1.take j) (Nat.le_refl _)).ok HP.out.2.2.2.2 H1c.out.2 H2c.out.2.1 H1c.out.1 H2c.out.1
        have hX3 := (H2c.out.2.2.far (p := ⟨wc.heap.size, 0, none⟩) (fun e => hxs e.symm) (.slice b1 m c1)).far (p := ⟨wc.heap.size, 1, none⟩) (fun e => hxs e.symm) (.slice b2 m c2)
        have hz3 : wc.heap.size ≤ w2.heap.size := by have h1 := H1c.out.2.size; have h2 := H2c.out.2.1.size; simp at h1; omega
        have hbB3 : Below wr.heap.size wr ((w2.setCell ⟨wc.heap.size, 0, none⟩ (.slice b1 m c1)).setCell ⟨wc.heap.size, 1, none⟩ (.slice b2 m c2)) := by
          have h0 := HB0.out.trans ((H1c.out.2.trans (H2c.out.2.1.mono H1c.out.2.size)).mono (Nat.le_trans HC.out.1.size (by simp)))
          exact (h0.setCell (p := ⟨wc.heap.size, 0, none⟩) HC.out.1.size _).setCell (p := ⟨wc.heap.size, 1, none⟩) HC.out.1.size _
        obtain ⟨w3, hw3⟩ : ∃ w3, ((w2.setCell ⟨wc.heap.size, 0, none⟩ (.slice b1 m c1)).setCell ⟨wc.heap.size, 1, none⟩ (.slice b2 m c2)) = w3 := ⟨_, rfl⟩
        rw [hw3] at hD3 hX3 hbB3 ⊢
        clear hw3 hS2 hS3 hS4 hff hfc hff2 hfc2
        obtain ⟨s1, hs1⟩ : ∃ s1, ({ ldS q (fs.take j) with files := (ldS q (fs.take j)).files ++ [⟨bs, []⟩] } : Dk) = s1 := ⟨_, rfl⟩
        rw [hs1] at hD3
        have hsd : s1.dchs = [] := by rw [← hs1]; exact hFM.2.2.1
        have hsf : s1.safe = ldL (fs.take j) 0 := by rw [← hs1]; exact hFM.1
        have hss : s1.seen = s1.safe := by unfold Dk.seen; rw [hsd]; rfl
        have hlt' : (fs.take j).length = j := by rw [List.length_take, H.out.2.1]; omega
        have hno : ∀ x ∈ s1.safe.map (bk (fb ++ [wc.heap.size])), x.1 ≠ nm := fun x hx e => by
          obtain ⟨y, hy, rfl⟩ := List.mem_map.1 hx
          rw [hsf] at hy
          obtain ⟨⟨p', hp', e'⟩, _⟩ := ldL_mem _ 0 y hy
          obtain ⟨i', hi', rfl⟩ := List.getElem_of_mem hp'
          obtain ⟨h2, e2⟩ := List.getElem?_eq_some_iff.1 HP.out.1
          have hi'' : i' < j := by rw [hlt'] at hi'; exact hi'
          have := List.pairwise_iff_getElem.1 H.out.1.asc i' j (by omega) h2 hi''
          rw [List.getElem_take] at e'
          rw [e2, e'] at this
          have e3 : y.1 = nm := e
          rw [e3, kc_self] at this
          exact absurd this (by decide)
        have hget : getL nm (s1.safe.map (bk (fb ++ [wc.heap.size]))) = none := get_none.2 hno
        have hsz32 : nm.size ≤ 32 := (goodN_size HP.out.2.2.1).2
        have hlen : (s1.safe.map (bk (fb ++ [wc.heap.size]))).length < 1000000000000 := by rw [List.length_map, hsf, ldL_len, hlt']; omega
        have hD3d : DM w3.drew L2 d (fb ++ [wc.heap.size]) s1 ms mf vc := hD3.keep (Nat.le_refl _) (fun _ _ => rfl)
        have hmsne : ms ≠ mf := fun e => by have h1 := hD3.lms; have h2 := hD3.lmf; rw [e] at h1; omega
        obtain ⟨hdms, hdmf, _, _⟩ := hD3.parts
        have hxms : wr.heap.size ≠ ms := fun e => by have := HDD.out.1.lab ms (by rw [HDD.out.1.lms]; omega); omega
        have hxmf : wr.heap.size ≠ mf := fun e => by have := HDD.out.1.lab mf (by rw [HDD.out.1.lmf]; omega); omega
        have hseenM := hD3d.seen
        rw [hss] at hseenM
        obtain ⟨st1, u1, r1, g1, q1⟩ := MD.entry (f := wc.heap.size) hseenM hget hsz32 hlen
        obtain ⟨u2, r2, m2, g2⟩ := q1 u1 rfl
        have hsafe2 : MD u2 mf (s1.safe.map (bk (fb ++ [wc.heap.size]))) := (hD3d.safe.keep (g1.block mf hD3d.safe.lt (fun e => hmsne (by injection e with e; exact e.symm)))).keep (g2.block mf (Nat.lt_of_lt_of_le hD3d.safe.lt g1.size) (fun e => hmsne (by injection e with e; exact e.symm)))
        obtain ⟨st2, u3, r3, g3, q3⟩ := MD.entry (f := wc.heap.size) hsafe2 hget hsz32 hlen
        obtain ⟨u4, r4, m4, g4⟩ := q3 u3 rfl
        have hms4 : MD u4 ms (putL nm wc.heap.size (s1.safe.map (bk (fb ++ [wc.heap.size])))) := (m2.keep (g3.block ms m2.lt (fun e => hmsne (by injection e)))).keep (g4.block ms (Nat.lt_of_lt_of_le m2.lt g3.size) (fun e => hmsne (by injection e)))
        have hblk : ∀ b, b < w3.heap.size → b ≠ ms → b ≠ mf → u1.heap[b]? = w3.heap[b]? ∧ u2.heap[b]? = w3.heap[b]? ∧ u3.heap[b]? = w3.heap[b]? ∧ u4.heap[b]? = w3.heap[b]? := fun b hb h1 h2 => by
          have k1 := g1.block b hb (fun e => h1 (by injection e))
          have k2 := g2.block b (Nat.lt_of_lt_of_le hb g1.size) (fun e => h1 (by injection e))
          have k3 := g3.block b (Nat.lt_of_lt_of_le hb (Nat.le_trans g1.size g2.size)) (fun e => h2 (by injection e))
          have k4 := g4.block b (Nat.lt_of_lt_of_le hb (Nat.le_trans (Nat.le_trans g1.size g2.size) g3.size)) (fun e => h2 (by injection e))
          exact ⟨k1, k2.trans k1, k3.trans (k2.trans k1), k4.trans (k3.trans (k2.trans k1))⟩
        have hc4 : Chg (fun b => b = ms ∨ b = mf) w3 u4 := ⟨(g4.os.trans g3.os).trans (g2.os.trans g1.os), (g4.tape.trans g3.tape).trans (g2.tape.trans g1.tape), (g4.output.trans g3.output).trans (g2.output.trans g1.output), Nat.le_trans (Nat.le_trans g1.size g2.size) (Nat.le_trans g3.size g4.size), fun k hk hn => (hblk k hk (fun e => hn (.inl e)) (fun e => hn (.inr e))).2.2.2⟩
        have hkf : s1.files.length = j + 1 := by rw [← hs1]; show ((ldS q (fs.take j)).files ++ [_]).length = _; rw [hFM.2.1]; simp; rw [H.out.2.1]; omega
        have hfbk : (fb ++ [wc.heap.size]).getD j 0 = wc.heap.size := by
          have h1 := hD3.fl
          rw [hkf, List.length_append, List.length_singleton] at h1
          have h2 : fb.length = j := by omega
          rw [← h2]; simp
        have hD4 := hD3.load (n := nm) (k := j) hsd (by omega) (by rw [hfbk]; exact hms4) (by rw [hfbk]; exact m4) hc4
        have hX4 : Box u4 wr.heap.size 37 #[.string nm, .slice x m cx] := ((hblk wr.heap.size hX3.lt hxms hxmf).2.2.2).trans hX3
        have cD0 := hD3.box.cell 0
        have cD1 := hD3.box.cell 1
        have cX0 := hX3.cell 0
        have cAll : ∀ u : World, (∀ b, b < w3.heap.size → b ≠ ms → b ≠ mf → u.heap[b]? = w3.heap[b]?) → u.cell? ⟨d, 0, none⟩ = some (.map (some ms)) ∧ u.cell? ⟨d, 1, none⟩ = some (.map (some mf)) ∧ u.cell? ⟨wr.heap.size, 0, none⟩ = some (.string nm) := fun u hu =>
          ⟨(World.cell?_of_block (hu d hD3.box.lt hdms hdmf)).trans cD0, (World.cell?_of_block (hu d hD3.box.lt hdms hdmf)).trans cD1, (World.cell?_of_block (hu wr.heap.size hX3.lt hxms hxmf)).trans cX0⟩
        have t0 : w3.drew.cell? ⟨d, 0, none⟩ = some (.map (some ms)) ∧ w3.drew.cell? ⟨d, 1, none⟩ = some (.map (some mf)) ∧ w3.drew.cell? ⟨wr.heap.size, 0, none⟩ = some (.string nm) := ⟨cD0, cD1, cX0⟩
        have t1 := cAll u1 fun b h1 h2 h3 => (hblk b h1 h2 h3).1
        have t2 := cAll u2 fun b h1 h2 h3 => (hblk b h1 h2 h3).2.1
        have t3 := cAll u3 fun b h1 h2 h3 => (hblk b h1 h2 h3).2.2.1
        have t4 := cAll u4 fun b h1 h2 h3 => (hblk b h1 h2 h3).2.2.2
        have HR4 := Lib.hid (And.intro hD4 (And.intro hX4 (And.intro hc4 (And.intro hbB3 (And.intro hl1 (And.intro hl2 hs1))))))
        clear hD4 hX4 hc4 hbB3 hl1 hl2 hs1 hblk cAll hms4 m2 m4 g1 g2 g3 g4 q1 q3 hsafe2 hseenM hD3d hD3 hno hget hlen hsf hss hsd hD2 hX3 hkf hfbk hFM cD0 cD1 cX0
        go_region_held3 (fun w' => w'.cell? ⟨d, 0, none⟩ = some (.map (some ms)) ∧ w'.cell? ⟨d, 1, none⟩ = some (.map (some mf)) ∧ w'.cell? ⟨wr.heap.size, 0, none⟩ = some (.string nm))
          (first | with_reducible exact t0 | with_reducible exact t1 | with_reducible exact t2 | with_reducible exact t3 | with_reducible exact t4)
          (fail)
        go_upto_region 14 with fail
        have hFM := ld_facts q (fs.take j) (asc_take H.out.1.asc j)
        obtain ⟨uu, huu⟩ : ∃ uu, sumL (fs.take j) = uu := ⟨_, rfl⟩
        have huu9 : uu ≤ 1073741824 := by rw [← huu]; exact Nat.le_trans (sumL_take fs j) H.out.1.sum
        have hus : ({ s1 with safe := putL nm j s1.safe } : Dk).used = (uu : Int) := by rw [← HR4.out.2.2.2.2.2.2, ← huu]; exact hFM.2.2.2.1
        have hdb := HR4.out.1.box
        have hdc := hdb.cell 4
        have hdc4 : u4.drew.cell? ⟨d, 4, none⟩ = some (.int .i64 (uu : Int)) := by rw [← hus]; exact hdc
        have hdf := hdb.free 4
        have hdl := hdb.lt
        have hxc4 : u4.drew.cell? ⟨wr.heap.size, 1, none⟩ = some (.slice x m cx) := HR4.out.2.1.cell 1
        have hwm : IntKind.i64.wrap ((uu : Int) + m) = (uu : Int) + m := IntWalk.i64_in _ (by omega)
        have HU := Lib.hid (And.intro huu (And.intro hus hdb))
        have HFM := Lib.hid hFM
        clear t0 t1 t2 t3 t4 r1 r2 r3 r4 hus hdb hFM hdc huu
        go_still_tail 10, (by kernel_rfl)
        go_wp2
        go_roundw
        case rel =>
          have hfl : (ldS q (fs.take j)).files.length = j := by rw [HFM.out.2.1, List.length_map, hlt']
          have hD5 := HR4.out.1.dx (chg_at (Chg.refl _ u4) 4 (.int .i64 ((uu : Int) + m))) (q := (s1.quota, (uu : Int) + m, s1.fuse, s1.dead, s1.ops)) (by simpa using HU.out.2.2.set_ 4 (.int .i64 ((uu : Int) + m)))
          have e : ({ s1 with safe := putL nm j s1.safe } : Dk).dx (s1.quota, (uu : Int) + m, s1.fuse, s1.dead, s1.ops) = ldS q (fs.take (j + 1)) := by
            rw [HP.out.2.2.2.1, ldS_snoc, ← HR4.out.2.2.2.2.2.2]
            unfold Dk.dx ldStep
            simp only [hfl, HFM.out.2.2.2.1, HU.out.1, HP.out.2.2.2.2]
          rw [e] at hD5
          have hLms : w.heap.size ≤ ms := HDD.out.2.1 ms (by rw [HDD.out.1.lms]; omega)
          have hLmf : w.heap.size ≤ mf := HDD.out.2.1 mf (by rw [HDD.out.1.lmf]; omega)
          have hLd : w.heap.size ≤ d := HDD.out.2.1 d (by rw [HDD.out.1.ld]; omega)
          have hww := HDD.out.2.2.size
          have hw3 := HR4.out.2.2.2.1.size
          have hB1 : Below w.heap.size w u4 := (HDD.out.2.2.trans (HR4.out.2.2.2.1.mono hww)).trans (HR4.out.2.2.1.below (Nat.le_trans hww hw3) fun b hb => by
            rcases hb with rfl | rfl
            · exact hLms
            · exact hLmf)
          refine ⟨j + 1, L2, fb ++ [wc.heap.size], by omega, by go_num, hD5.keep (Nat.le_refl _) (fun _ _ => rfl), fun b hb => ?_, below_drew (hB1.setCell (p := ⟨d, 4, none⟩) hLd _)⟩
          rcases HR4.out.2.2.2.2.2.1 b hb with h1 | h1
          · exact HDD.out.2.1 b h1
          · have := HC.out.1.size; omega
        case measure => simp [intOf]; omega
    · have hin : n = j := by omega
      subst hin
      have hfn : fs.take n = fs := by rw [← H.out.2.1]; exact List.take_length
      rw [hfn] at hD
      have HE := Lib.hid (And.intro hD (And.intro hL hB))
      clear hD hL hB hfn
      go_wp2
      go_ret2
      exact ⟨d, fun b => L b ≠ 0, rfl, ⟨L, fb, ms, mf, vc, HE.out.1, fun b => Iff.rfl⟩, HE.out.2.1, HE.out.2.2⟩
end Go.Proofs.Ytebeefkibbbkdaa
/- chronicleref3: Load of an image that may be. -/
namespace Go.Proofs.Ytebeefkibbbkdaa
open Go.RowKit Go.Maps

section
variable {w w' w1 wz : World} {L : Nat → Nat} {rb a : Nat} {vF vD x : Value} {uP : List (Value × Value)} {uD : List Value} {fs : VS} {gs : GS} {ds : List (List KE)} {most left done : Int} {off : Bool} {s : Dk} {l : List KE}
/-- A block that nobody has gets a label. -/
theorem RM.give (h : RM w L rb vF uP vD uD fs gs ds most left done off) (hx : ∀ b, x.ownBlock = some b → L b = 0 ∧ b < w.heap.size) : RM w (relab L x a) rb vF uP vD uD fs gs ds most left done off := by
  have ho : ∀ b, L b ≠ 0 → relab L x a b = L b := fun b hb => relab_off fun e => hb (hx b e).1
  have hs : ∀ a, Same w w L a := fun a b _ => rfl
  refine ⟨h.box, by rw [ho rb (by rw [h.lp]; decide), h.lp], fun b hb => ?_, h.F.keep (hs _) (hs _) (fun i => hs _) ho, h.D.keep (hs _) (hs _) ho⟩
  by_cases e : x.ownBlock = some b
  · exact (hx b e).2
  · rw [relab_off e] at hb
    exact h.lt b hb
theorem RDk.chgq {S : Nat → Prop} (h : RDk w L rb s) (hc : Chg S w w') (hn : ∀ b, S b → L b = 0) : RDk w' L rb s := by
  obtain ⟨vF, uP, vD, uD, h⟩ := h
  exact ⟨vF, uP, vD, uD, h.keep hc.size fun b hb => hc.block b (h.lt b hb) fun e => hb (hn b e)⟩
/-- The one directory. -/
theorem RDk.only (h : RDk w L rb s) (hr : w.ownsRow 0 105 2 x l.length (l.flatMap lcell)) (hx : ∀ b, x.ownBlock = some b → L b = 0) (B : Nat) (hB : ∀ b, L b ≠ 0 → B ≤ b) (hxB : ∀ b, x.ownBlock = some b → B ≤ b) (hBw : B ≤ w.heap.size) (hrb : rb < w.heap.size) :
    ∃ L', RDk ((w.setCell ⟨rb, 1, none⟩ (.slice (some ⟨w.heap.size, 0, none⟩) 1 1)).alloc (.cells #[x] 96)) L' rb { s with safe := l, dchs := [] } ∧ (∀ b, L' b ≠ 0 → B ≤ b) := by
  obtain ⟨vF, uP, vD, uD, h⟩ := h
  have h2 := h.give (x := x) (a := 6) fun b hb => ⟨hx b hb, (hr.lt b hb).2⟩
  obtain ⟨t1, t2⟩ := h2.turnD (ds' := [l]) (uD' := [x]) (vD' := .slice (some ⟨w.heap.size, 0, none⟩) 1 1) (Chg.of_below (Below.al w (.cells #[x] 96)) _) (row_one w x _) (fun b hb => by
    simp [Value.ownBlock] at hb
    subst hb
    exact .inr (Nat.le_refl _)) fun i m v hl hv => by
      cases i with
      | succ i => simp at hl
      | zero =>
        simp at hl hv
        subst hl hv
        exact ⟨hr, relab_self _ _ _⟩
  rw [World.setCell_alloc_past _ _ _ _ hrb] at t1 t2
  refine ⟨relab (relab L x 6) (.slice (some ⟨w.heap.size, 0, none⟩) 1 1) 4, ⟨vF, uP, .slice (some ⟨w.heap.size, 0, none⟩) 1 1, [x], ?_⟩, fun b hb => ?_⟩
  · exact t1
  · rcases t2.new b hb with h3 | h3
    · by_cases e : x.ownBlock = some b
      · exact hxB b e
      · rw [relab_off e] at h3
        exact hB b h3
    · exact Nat.le_trans hBw h3
end
/-- The disk in the midst of Load. -/
def midL (q : Int) (fs : List FE) : Dk := ⟨fs.map fun p => ⟨p.2, []⟩, [], [], q, 0, -1, false, 0⟩
theorem RDk.growL {w w7 : World} {L : Nat → Nat} {rb n : Nat} {s : Dk} {vF vD v7 bval : Value} {uP : List (Value × Value)} {uD : List Value} {y : List UInt8} (h : RM w L rb vF uP vD uD (s.files.map vers) (s.files.map grow) (dirsL s) s.quota s.fuse s.ops s.dead) (hn : s.files.length = n) (hx : w.ownsRow 0 5 1 bval y.length (bv y) ∧ Lb L bval 5)
    (hg : (((w.alloc (.cells #[bval] 22)).alloc (.cells #[.int .i64 (-1)] 3)).alloc (.cells #[.slice (some ⟨w.heap.size, 0, none⟩) 1 1, .slice (some ⟨w.heap.size + 1, 0, none⟩) 1 1] 103)).grownBy w7 vF.ownBlock)
    (hr7 : w7.ownsRow 0 103 2 v7 (n + 1) (uP.flatMap pcell ++ [.slice (some ⟨w.heap.size, 0, none⟩) 1 1, .slice (some ⟨w.heap.size + 1, 0, none⟩) 1 1]))
    (hor : v7.ownBlock = vF.ownBlock ∨ v7.ownBlock = some (w.heap.size + 3)) :
    ∃ L', RDk (w7.setCell ⟨rb, 0, none⟩ v7) L' rb { s with files := s.files ++ [⟨y, []⟩] } ∧ Ex w (w7.setCell ⟨rb, 0, none⟩ v7) L L' := by
  obtain ⟨L', h1, h2⟩ := h.addF (y := y) (bval := bval) hx hg (by rw [List.length_map, hn]; exact hr7) hor
  refine ⟨L', ⟨v7, uP ++ [(.slice (some ⟨w.heap.size, 0, none⟩) 1 1, .slice (some ⟨w.heap.size + 1, 0, none⟩) 1 1)], vD, uD, ?_⟩, h2⟩
  rw [List.map_append, List.map_append]
  exact h1
theorem ldL_take (fs : List FE) {j : Nat} {p : FE} (hp : fs[j]? = some p) : ldL (fs.take (j + 1)) 0 = ldL (fs.take j) 0 ++ [(p.1, j)] := by
  have hj : j < fs.length := (List.getElem?_eq_some_iff.1 hp).1
  rw [List.take_add_one, hp, Option.toList_some, ldL_snoc, List.length_take]
  congr 4
  show 0 + min j fs.length = j
  omega
set_option maxRecDepth 100000 in
set_option maxHeartbeats 16000000 in
theorem loadR_ok (q : Int) (fs : List FE) (A : Option Addr) (n c : Nat) (w : World) (h : LdOk q fs) (hn : fs.length = n) (hI : IM w w.heap.size A fs) :
    Calls Try.prog 15 #[.slice A n c, .int .i64 q] w fun e w' => ∃ rb L, e = .returned (.tuple #[.pointer (some ⟨rb, 0, none⟩), .int .i64 0]) ∧ RDk w' L rb (ldS q fs) ∧ (∀ b, L b ≠ 0 → w.heap.size ≤ b) ∧ Below w.heap.size w w' := by
  obtain ⟨i1, hi1, hz1, hs1, hy1⟩ := info_parts infoq_inode
  obtain ⟨i2, hi2, hz2, hs2, hy2⟩ := info_parts infoq_link
  have hnm : n ≤ 65536 := by rw [← hn]; exact h.few
  have hnd : decide ((65536 : Int) < n) = false := decide_eq_false (by omega)
  have H := Lib.hid (And.intro h (And.intro hn hI))
  clear h hn hI
  go_enter Try.func15, Try.ntmps15
  go_wp2_with (first
    | (go_at_call 20
       refine (newR_any q _ H.out.1.q).mono ?_
       rintro e w1 ⟨rb, L0, rfl, h0, h1, h2⟩
       have H1 := Lib.hid (And.intro h0 (And.intro h1 h2))
       clear h0 h1 h2))
  go_loopw [8, 9] (fun v8 v9 wr => ∃ (j : Nat) (L : Nat → Nat), j ≤ n ∧ v9 = .int .i64 j ∧ RDk wr L rb (midL q (fs.take j)) ∧ (∀ b, L b ≠ 0 → w.heap.size ≤ b) ∧ Below w.heap.size w wr ∧ wr.ownsRow w.heap.size 105 2 v8 j ((ldL (fs.take j) 0).flatMap lcell) ∧ ∀ b, v8.ownBlock = some b → L b = 0) (fun _ i _ => n - (intOf i).toNat)
  case atStart => exact ⟨0, L0, Nat.zero_le _, rfl, H1.out.1, H1.out.2.1, H1.out.2.2, nil_own _ _ _ _, fun b hb => by cases hb⟩
  case round =>
    obtain ⟨j, L, hj, rfl, hD, hL, hB, hdr, hd0⟩ := hrel
    obtain ⟨db, dc, rfl⟩ := row_slice hdr
    by_cases hlt : j < n
    · have hj0 : (0 : Int) ≤ j := by omega
      have hj1 : (j : Int) < n := by omega
      obtain ⟨p, hp⟩ : ∃ p, fs[j]? = some p := ⟨_, List.getElem?_eq_getElem (by rw [H.out.2.1]; exact hlt)⟩
      have hIw := H.out.2.2.below hB
      obtain ⟨ad, x, cx, rfl, had, c0, c1, hrx⟩ := hIw j p hp
      have hpm := List.mem_of_getElem? hp
      have hgn := H.out.1.names p hpm
      have hst : fs.take (j + 1) = fs.take j ++ [p] := by rw [List.take_add_one, hp]; rfl
      have hld := ldL_take fs hp
      obtain ⟨pv, hpv⟩ : ∃ pv : Option FE, pv = if j = 0 then none else fs[j - 1]? := ⟨_, rfl⟩
      obtain ⟨nm, bs⟩ := p
      obtain ⟨m, hm⟩ : ∃ m, bs.length = m := ⟨_, rfl⟩
      have hmx : m ≤ 1073741824 := by have h1 := sumL_mem hpm; have h2 := H.out.1.sum; simp only at h1; omega
      have hnz : nm.size ≤ maxLen := by have := (goodN_size hgn).2; unfold maxLen; simp only at this; omega
      simp only at c0 c1 hrx hgn hld
      rw [hm] at c1
      have HP := Lib.hid (And.intro hp (And.intro hrx (And.intro hst (And.intro hm (And.intro hld hnz)))))
      have HDD := Lib.hid (And.intro hD (And.intro hL (And.intro hB (And.intro hdr hd0))))
      have HX := Lib.hid (Box.new wr 37 #[.string nm, .slice x m cx])
      have hir : Hid (∀ v, Below wr.heap.size wr v → Rd v v.heap.size x (bv bs)) := fun v hv => (hrx.below (hv.mono hB.size)).mono (Nat.le_trans hB.size hv.size)
      have hiv : Hid (∀ v, Below wr.heap.size wr v → IM v w.heap.size (some ad) fs) := fun v hv => hIw.below (hv.mono hB.size)
      clear hD hL hB hIw hpm hst hp hrx hm hld hdr hd0 hpv
      go_upto_region 12 with (first
        | (go_at_call 46
           refine (nameR3_any nm _ HP.out.2.2.2.2.2).mono ?_
           rintro e w2 ⟨rfl, hb2⟩
           rw [hgn]
           have hb2' := (Below.al wr (.cells #[.string nm, .slice x m cx] 37)).trans (hb2.mono (by simp))
           have hx2 := HX.out.next hb2
           have hxc := hx2.cell
           have H2 := Lib.hid (And.intro hb2' hx2)
           clear hb2 hb2' hx2 c0 c1))
      go_cut [53] (fun s53 wx => s53 = .bool false ∧ Below wr.heap.size wr wx ∧ Box wx wr.heap.size 37 #[.string nm, .slice x m cx])
      case first =>
        by_cases hj2 : j = 0
        · have hjn : decide ((0 : Int) < (j : Int)) = false := decide_eq_false (by omega)
          have hjn2 : decide (0 < j) = false := decide_eq_false (by omega)
          have hjn3 : ¬ ((0 : Int) < (j : Int)) := by omega
          clear hj2
          go_quiet (fail)
          go_wp2_with fail
          go_meet
          case rel => exact ⟨rfl, below_drewN H2.out.1 _, H2.out.2.drewN _⟩
        · have hjn : decide ((0 : Int) < (j : Int)) = true := decide_eq_true (by omega)
          have hjn2 : decide (0 < j) = true := decide_eq_true (by omega)
          obtain ⟨jp, hjp⟩ : ∃ jp, j = jp + 1 := ⟨j - 1, by omega⟩
          obtain ⟨pr, hpr⟩ : ∃ pr, fs[jp]? = some pr := ⟨_, List.getElem?_eq_getElem (by rw [H.out.2.1]; omega)⟩
          obtain ⟨ad', x', cx', e', _, p0, _, _⟩ := hiv.out w2 H2.out.1 jp pr hpr
          cases e'
          have hkc : kc pr.1 nm = -1 := by
            have h1 := List.pairwise_iff_getElem.1 H.out.1.asc jp j (by rw [H.out.2.1]; omega) (by rw [H.out.2.1]; omega) (by omega)
            have h2 : fs[jp]'(by rw [H.out.2.1]; omega) = pr := by rw [List.getElem?_eq_getElem (by rw [H.out.2.1]; omega)] at hpr; injection hpr
            have h3 : fs[j]'(by rw [H.out.2.1]; omega) = (nm, bs) := by have := HP.out.1; rw [List.getElem?_eq_getElem (by rw [H.out.2.1]; omega)] at this; injection this
            rw [h2, h3] at h1
            exact h1
          have hkc2 : kc nm pr.1 ≠ -1 := by rw [kc_swap, hkc]; decide
          have hne : ¬ nm = pr.1 := fun e => by rw [e, kc_self] at hkc; exact absurd hkc (by decide)
          have hb1 := kcq_less hkc
          have hb2 := kcq_nless hkc2
          have hb3 := key_ne hne
          have hb4 := key_ne (fun e : pr.1 = nm => hne e.symm)
          have hji : (j : Int) - 1 = (jp : Int) := by omega
          have hjw : IntKind.i64.wrap ((j : Int) - 1) = (jp : Int) := by rw [hji]; exact IntWalk.i64_in _ (by omega)
          have hjp0 : (0 : Int) ≤ jp := by omega
          have hjp1 : (jp : Int) < n := by omega
          have HJ := Lib.hid hjp
          clear hjp hpr hkc hkc2 hne hj2
          go_quiet (fail)
          go_wp2_with fail
          go_meet
          case rel => exact ⟨rfl, below_drewN H2.out.1 _, H2.out.2.drewN _⟩
      case rest =>
        obtain ⟨rfl, hb3, hx3⟩ := hcut
        have hxc3 := hx3.cell
        have H3 := Lib.hid (And.intro hb3 hx3)
        clear hb3 hx3 hxc
        go_upto_region 16 with (first
          | (go_at_call 47
             refine (copiedR_any x m cx bs _ (hir.out _ H3.out.1) HP.out.2.2.2.1 (by omega)).mono ?_
             rintro e w4 ⟨x4, c4, rfl, hr4, hb4⟩
             have hb34 := H3.out.1.trans (hb4.mono H3.out.1.size)
             have hx4 := H3.out.2.next hb4
             have hxc4 := hx4.cell
             obtain ⟨g1, g2, g3, g4⟩ := (HDD.out.1.next H3.out.1).row (a := 5) hb4 hr4 (by decide)
             obtain ⟨vF4, uP, vD4, uD, hRM⟩ := g1
             obtain ⟨F, cF, hvF⟩ := row_slice hRM.F.r
             subst hvF
             have hfl : (midL q (fs.take j)).files.length = j := by show ((fs.take j).map _).length = j; rw [List.length_map, List.length_take, H.out.2.1]; omega
             rw [List.length_map, hfl] at hRM
             have hc0 := hRM.box.cell 0
             have R4 := Lib.hid (And.intro hRM (And.intro hfl (And.intro g2 (And.intro g3 (And.intro g4 (And.intro hb34 hx4))))))
             have hjm9 : j ≤ 65536 := by omega
             have hlow := Lib.hid (show ∀ b, (Value.slice x4 m c4).ownBlock = some b → wr.heap.size < b from fun b hb => Nat.lt_of_lt_of_le H3.out.2.lt (hr4.lt b hb).1)
             clear hr4 hb4 hb34 hx4 hRM hfl g2 g3 g4 hxc3)
          | (at_builtin
             refine wpList_app _ rfl (.tmp 61) (.tmp 66) _ rfl 0 103 i1 _ 2 48 Try.underlying97 hi1 hz1 hs1 hy1 rfl (by omega) (.slice F j cF) j (uP.flatMap pcell) rfl (by have := R4.out.1.F.r; rw [List.length_map, R4.out.2.1] at this; exact ((this.alloc _).alloc _).alloc _) _ _ 1 1 [.slice (some ⟨w4.heap.size, 0, none⟩) 1 1, .slice (some ⟨w4.heap.size + 1, 0, none⟩) 1 1] rfl rfl (by have := rd_new ((w4.alloc (.cells #[.slice x4 m c4] 22)).alloc (.cells #[.int .i64 (-1)] 3)) #[.slice (some ⟨w4.heap.size, 0, none⟩) 1 1, .slice (some ⟨w4.heap.size + 1, 0, none⟩) 1 1] 103; simpa using this) (by simp [Value.oneCell']) (by unfold maxLen; omega) (by omega) (Nat.zero_le _) ?_
             intro v7 w7 hown7 hg7 hor7
             obtain ⟨b7, c7, hv7⟩ := row_slice hown7
             subst hv7
             have hb3 : Below w4.heap.size w4 (((w4.alloc (.cells #[.slice x4 m c4] 22)).alloc (.cells #[.int .i64 (-1)] 3)).alloc (.cells #[.slice (some ⟨w4.heap.size, 0, none⟩) 1 1, .slice (some ⟨w4.heap.size + 1, 0, none⟩) 1 1] 103)) := (Below.al _ _).trans (((Below.al _ _).trans ((Below.al _ _).mono (by simp))).mono (by simp))
             have hne : some rb ≠ (Value.slice F j cF).ownBlock := fun e => by have h1 := R4.out.1.F.l rb e.symm; have h2 := R4.out.1.lp; omega
             have hcp : w7.cell? ⟨rb, 0, none⟩ = some (.slice F j cF) := cell_growq hc0 hb3 hg7 hne
             have hcz : w7.frozen? ⟨rb, 0, none⟩ = false := ((R4.out.1.box.below hb3 R4.out.1.box.lt).grown hg7 hne).free 0
             have hG := RDk.growL (y := bs) R4.out.1 R4.out.2.1 ⟨by rw [HP.out.2.2.2.1]; exact R4.out.2.2.1, R4.out.2.2.2.1⟩ hg7 hown7 (by simpa using hor7)
             have H7 := Lib.hid hG
             clear hown7 hg7 hor7 hne hb3 hc0 hG))
        obtain ⟨w8, hw8⟩ : ∃ w8, w7.setCell ⟨rb, 0, none⟩ (.slice b7 (j + 1) c7) = w8 := ⟨_, rfl⟩
        have h8 := H7.out
        rw [hw8] at h8 ⊢
        obtain ⟨L8, g1, g2⟩ := h8
        have hL0 : L wr.heap.size = 0 := Classical.byContradiction fun hne => by have := HDD.out.1.lt _ hne; omega
        have hlz : ∀ b, b ≤ wr.heap.size → L b = 0 → relab L (.slice x4 m c4) 5 b = 0 := fun b hb h0 => by
          rw [relab_off fun e => by have := hlow.out b e; omega]
          exact h0
        have hx8 := R4.out.2.2.2.2.2.2.chg g2.chg fun e => e (hlz _ (Nat.le_refl _) hL0)
        have hxc8 := hx8.cell
        have hdl : ∀ b, (Value.slice db j dc).ownBlock = some b → relab L (.slice x4 m c4) 5 b = 0 ∧ b < w4.heap.size := fun b hb => by
          have h1 := (HDD.out.2.2.2.1.lt b hb).2
          have h2 := R4.out.2.2.2.2.2.1.size
          exact ⟨hlz b (by omega) (HDD.out.2.2.2.2 b hb), by omega⟩
        have hd8 : w8.ownsRow w.heap.size 105 2 (.slice db j dc) j ((ldL (fs.take j) 0).flatMap lcell) := row_block (row_block HDD.out.2.2.2.1 fun k hk => R4.out.2.2.2.2.2.1.block k (HDD.out.2.2.2.1.lt k hk).2) fun k hk => g2.chg.block k (hdl k hk).2 fun e => e (hdl k hk).1
        have h8z : w.heap.size ≤ w8.heap.size := Nat.le_trans HDD.out.2.2.1.size (Nat.le_trans R4.out.2.2.2.2.2.1.size g2.chg.size)
        have hB8 : Below w.heap.size w w8 := (HDD.out.2.2.1.trans (R4.out.2.2.2.2.2.1.mono HDD.out.2.2.1.size)).trans (g2.chg.below (Nat.le_trans HDD.out.2.2.1.size R4.out.2.2.2.2.2.1.size) fun b hb => by
          by_cases e : (Value.slice x4 m c4).ownBlock = some b
          · have := hlow.out b e; have := HDD.out.2.2.1.size; omega
          · rw [relab_off e] at hb; exact HDD.out.2.1 b hb)
        have hL8 : ∀ b, L8 b ≠ 0 → w.heap.size ≤ b := fun b hb => by
          rcases g2.new b hb with h1 | h1
          · by_cases e : (Value.slice x4 m c4).ownBlock = some b
            · have := hlow.out b e; have := HDD.out.2.2.1.size; omega
            · rw [relab_off e] at h1; exact HDD.out.2.1 b h1
          · exact Nat.le_trans (Nat.le_trans HDD.out.2.2.1.size R4.out.2.2.2.2.2.1.size) h1
        have X8 := Lib.hid (And.intro (show RDk w8 L8 rb (midL q (fs.take (j + 1))) from g1.congr (by rw [HP.out.2.2.1]; show ((fs.take j ++ [(nm, bs)]).map fun p : FE => (⟨p.2, []⟩ : Fl)) = _; rw [List.map_append]; rfl) rfl rfl rfl rfl rfl rfl) (And.intro hd8 (And.intro h8z (And.intro hB8 (And.intro hL8 (fun b hb => g2.offb (hdl b hb).1 (hdl b hb).2))))))
        clear hw8 g1 g2 hL0 hlz hx8 hdl hd8 h8z hB8 hL8 hxc4 hcp hcz
        go_wp2_with (first
          | (at_builtin
             refine wpList_app _ rfl (.tmp 70) (.tmp 75) _ rfl w.heap.size 105 i2 _ 2 24 Try.underlying96 hi2 hz2 hs2 hy2 rfl (by omega) (.slice db j dc) j _ rfl (X8.out.2.1.alloc _) _ _ 1 1 [.string nm, .int .i64 (j : Nat)] rfl rfl (rd_new _ _ _) (by simp [Value.oneCell']) (by unfold maxLen; omega) (by omega) (by have := X8.out.2.2.1; simp; omega) ?_
             intro v9 w9 hown9 hg9 hor9
             have H9 := Lib.hid (And.intro hown9 (And.intro hg9 hor9))
             clear hown9 hg9 hor9))
        go_roundw
        case rel =>
          obtain ⟨k1, k2, k3, k4, k5, k6⟩ := X8.out
          obtain ⟨m1, m2, m3⟩ := H9.out
          have ha := Below.al w8 (.cells #[.string nm, .int .i64 (j : Nat)] 105)
          have hc9 : Chg (fun b => (Value.slice db j dc).ownBlock = some b) w8 w9 := (Chg.of_below ha _).grown m2 fun k hk => .inl hk
          refine ⟨j + 1, L8, by omega, by go_num, k1.chgq hc9 k6, k5, k4.trans (hc9.below k3 fun b hb => (k2.lt b hb).1), ?_, fun b hb => ?_⟩
          · rw [HP.out.2.2.2.2.1, List.flatMap_append]
            exact m1
          · rcases m3 with e | e
            · exact k6 b (e ▸ hb)
            · rw [e] at hb
              injection hb with hb
              refine Classical.byContradiction fun hne => ?_
              have := k1.lt b hne
              have := ha.size
              omega
        case measure => simp [intOf]; omega
    · have hjn : n = j := by omega
      subst hjn
      have htk : fs.take n = fs := by rw [← H.out.2.1]; exact List.take_length
      rw [htk] at hD hdr
      obtain ⟨_, _, hbx⟩ := hD.box
      have hbl := hbx.lt
      have hbf := hbx.free 1
      have hbc := hbx.cell 1
      have HDD := Lib.hid (And.intro hD (And.intro hL (And.intro hB (And.intro hdr hd0))))
      clear hD hL hB hdr hd0 htk hbx
      go_wp2
      go_ret2
      obtain ⟨k1, k2, k3, k4, k5⟩ := HDD.out
      have hll : (ldL fs 0).length = n := by rw [ldL_len, H.out.2.1]
      obtain ⟨L', g1, g2⟩ := k1.only (x := .slice db n dc) (l := ldL fs 0) (by rw [hll]; exact row_zeroq k4) k5 w.heap.size k2 (fun b hb => (k4.lt b hb).1) k3.size hbl
      obtain ⟨f1, f2, f3, f4, f5, f6, f7, f8⟩ := ld_facts q fs H.out.1.asc
      refine ⟨rb, L', rfl, g1.congr ?_ ?_ ?_ ?_ ?_ ?_ ?_, g2, ?_⟩
      · rw [f2]; rfl
      · rw [f1]
      · rw [f3]
      · rw [f5]; rfl
      · rw [f6]; rfl
      · rw [f8]; rfl
      · rw [f7]; rfl
      · have hlrb : w.heap.size ≤ rb := k2 rb (by obtain ⟨_, _, _, _, hh⟩ := k1; rw [hh.lp]; decide)
        exact (k3.setCell (p := ⟨rb, 1, none⟩) hlrb _).alloc (by simpa [World.setCell] using k3.size) _
end Go.Proofs.Ytebeefkibbbkdaa
