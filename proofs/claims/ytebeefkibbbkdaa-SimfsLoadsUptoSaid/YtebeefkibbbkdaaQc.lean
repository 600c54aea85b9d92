import Derived.Test.YtebeefkibbbkdaaQb
import Derived.BigQuiet
/- chronicleref3: what an operation makes of the disk, plainly: the states of files and of the directory. -/
namespace Go.Proofs.Ytebeefkibbbkdaa
open Go.RowKit Go.Maps

theorem sum_takeq (l : List Nat) (i : Nat) : (l.take i).sum ≤ l.sum := by
  have e : l.sum = (l.take i).sum + (l.drop i).sum := by rw [← List.sum_append, List.take_append_drop]
  omega
theorem dirsL_snoc {s s' : Dk} {c : DC} (h1 : s'.safe = s.safe) (h2 : s'.dchs = s.dchs ++ [c]) : dirsL s' = dirsL s ++ [ddo s.seen c] := by
  refine List.ext_getElem? fun i => ?_
  have hl : (dirsL s').length = s.dchs.length + 2 := by rw [dirs_len, h2, List.length_append]; rfl
  rcases Nat.lt_trichotomy i (s.dchs.length + 1) with h | h | h
  · rw [List.getElem?_append_left (by rw [dirs_len]; exact h)]
    unfold dirsL
    rw [List.getElem?_map, List.getElem?_map, List.getElem?_range (by rw [h2, List.length_append, List.length_singleton]; omega), List.getElem?_range h]
    exact congrArg some (dirAt_old h1 h2 (by omega))
  · subst h
    rw [List.getElem?_append_right (by rw [dirs_len]; exact Nat.le_refl _), dirs_len, Nat.sub_self]
    unfold dirsL
    rw [List.getElem?_map, List.getElem?_range (by rw [h2, List.length_append, List.length_singleton]; omega)]
    exact congrArg some (dirAt_new h1 h2)
  · rw [List.getElem?_eq_none (by rw [hl]; omega), List.getElem?_eq_none (by rw [List.length_append, dirs_len]; simp; omega)]
theorem dirsL_same {s s' : Dk} (h1 : s'.safe = s.safe) (h2 : s'.dchs = s.dchs) : dirsL s' = dirsL s := by
  unfold dirsL
  rw [h2]
  congr 1
  funext k
  unfold dirAt
  rw [h1, h2]
theorem dirsL_sync {s s' : Dk} (h1 : s'.safe = s.seen) (h2 : s'.dchs = []) : dirsL s' = [s.seen] := by
  unfold dirsL
  rw [h2]
  show [dirAt s' 0] = _
  unfold dirAt
  rw [h1, h2]
  rfl
theorem fileq_set {α : Type} (g : Fl → α) {l : List Fl} {k : Nat} {x : Fl} : (l.set k x).map g = (l.map g).set k (g x) := List.map_set
theorem leftP_del (n : ByteArray) {l : List KE} (h : Sorted l) : leftP n l = delL n l := by
  have h1 := left_perm (s := ⟨[], l, [], 0, 0, 0, false, 0⟩) (l := l) h (List.Perm.refl _) n
  refine (h.filter _).ext (h.del n) fun p => ?_
  exact h1.mem_iff
theorem leadW_get (n : ByteArray) {l : List KE} (h : Sorted l) : leadW n l = match getL n l with
  | some f => (f : Nat)
  | none => -1 := by
  have e : leadP n l = getL n l := lead_is (s := ⟨[], l, [], 0, 0, 0, false, 0⟩) h (List.Perm.refl _) n
  unfold leadW
  rw [e]
  rfl
theorem leadW_some {n : ByteArray} {l : List KE} (h : Sorted l) {k : Nat} (hk : getL n l = some k) : leadW n l = (k : Nat) := by rw [leadW_get n h, hk]
theorem leadW_no {n : ByteArray} {l : List KE} (h : Sorted l) (hk : getL n l = none) : leadW n l = -1 := by rw [leadW_get n h, hk]
/-- A rename, as the document does it. -/
theorem ren_ref {a b : ByteArray} {l : List KE} (h : Sorted l) (hab : a ≠ b) {f : Nat} (hf : getL a l = some f) : putL b f (leftP b (leftP a l)) = ddo l (.inr (.inl (a, b))) := by
  have h1 := h.del a
  rw [leftP_del a h, leftP_del b h1]
  refine ((h1.del b).put b f).ext ((h.put b _).del a) fun p => ?_
  show _ ↔ p ∈ delL a (putL b ((getL a l).getD 0) l)
  rw [hf]
  show _ ↔ p ∈ delL a (putL b f l)
  rw [mem_put, mem_del, mem_del, mem_del, mem_put]
  constructor
  · rintro (rfl | ⟨⟨⟨h1, h2⟩, _⟩, h4⟩)
    · exact ⟨.inl rfl, fun e => hab e.symm⟩
    · exact ⟨.inr ⟨h1, h4⟩, h2⟩
  · rintro ⟨rfl | ⟨h1, h2⟩, h3⟩
    · exact .inl rfl
    · exact .inr ⟨⟨⟨h1, h3⟩, h2⟩, h2⟩
end Go.Proofs.Ytebeefkibbbkdaa
/- chronicleref3: seen, find, bytes of a disk as the model; New, Used, Size. -/
namespace Go.Proofs.Ytebeefkibbbkdaa
open Go.RowKit Go.Maps

section
variable {w w' : World} {L : Nat → Nat} {rb N : Nat} {s : Dk}
theorem RDk.use (h : RDk w L rb s) (hi : s.Inv N) (hN : N ≤ 99999999) : ∃ vF uP vD uD, RM w L rb vF uP vD uD (s.files.map vers) (s.files.map grow) (dirsL s) s.quota s.fuse s.ops s.dead ∧ (dirsL s)[(dirsL s).length - 1]? = some s.seen ∧ (dirsL s).length ≤ 999999999999 ∧ s.seen.length ≤ 99999999 := by
  obtain ⟨vF, uP, vD, uD, h⟩ := h
  have h1 := hi.sz.d
  have h2 := fold_len s.dchs s.safe
  have h3 : s.seen.length = (s.dchs.foldl ddo s.safe).length := rfl
  exact ⟨vF, uP, vD, uD, h, dirs_last s, by rw [dirs_len]; omega, by omega⟩
theorem ver_get {k : Nat} (hk : k < s.files.length) : (s.files.map vers)[k]? = some (vers (s.fl k)) ∧ (s.files.map grow)[k]? = some (grow (s.fl k)) := by
  rw [List.getElem?_map, List.getElem?_map, fl_get hk]
  exact ⟨rfl, rfl⟩
theorem Dk.Inv.dl (hi : s.Inv N) (hN : N ≤ 99999999) : s.dchs.length ≤ 99999999 := by have := hi.sz.d; omega
theorem seenD_any (h : RDk w L rb s) (hd : s.dchs.length ≤ 99999999) :
    Calls Try.prog 85 #[.pointer (some ⟨rb, 0, none⟩)] w fun e w' => ∃ x cx, e = .returned (.slice x s.seen.length cx) ∧ LnkM w L (.slice x s.seen.length cx) s.seen ∧ ∃ k, w' = w.drewN k := by
  obtain ⟨vF, uP, vD, uD, h⟩ := h
  have h1 := dirs_last s
  have h2 : (dirsL s).length ≤ 999999999999 := by rw [dirs_len]; omega
  exact (seenR_any rb L vF vD uP uD _ _ _ _ _ _ _ _ w h h1 h2).mono fun e w' ⟨⟨x, cx, g1, g2, _⟩, g3⟩ => ⟨x, cx, g1, g2, g3⟩
theorem findD_any (nm : ByteArray) (h : RDk w L rb s) (hi : s.Inv N) (hN : N ≤ 99999999) :
    Calls Try.prog 92 #[.pointer (some ⟨rb, 0, none⟩), .string nm] w fun e w' => e = .returned (.int .i64 (leadW nm s.seen)) ∧ ∃ k, w' = w.drewN k := by
  obtain ⟨vF, uP, vD, uD, h, h1, h2, h3⟩ := h.use hi hN
  exact findR_any rb L vF vD uP uD _ _ _ _ _ _ _ _ nm w h h1 h2 (by omega)
theorem bytesD_any (f : Nat) (h : RDk w L rb s) (hi : s.Inv N) (hN : N ≤ 99999999) (hf : f < s.files.length) (hfm : s.files.length ≤ 99999999) :
    Calls Try.prog 86 #[.pointer (some ⟨rb, 0, none⟩), .int .i64 f] w fun e w' => ∃ x cx, e = .returned (.slice x (s.fl f).seen.length cx) ∧ w.ownsRow 0 5 1 (.slice x (s.fl f).seen.length cx) (s.fl f).seen.length (bv (s.fl f).seen) ∧ Lb L (.slice x (s.fl f).seen.length cx) 5 ∧ ∃ k, w' = w.drewN k := by
  obtain ⟨vF, uP, vD, uD, h, h1, h2, h3⟩ := h.use hi hN
  have hl := hi.sz.f _ (fl_mem hf)
  exact (bytesR_any rb f L vF vD uP uD _ _ _ _ _ _ _ _ _ w h (ver_get hf).1 (vers_last (s.fl f)) (by rw [vers_len]; omega) (by omega)).mono fun e w' ⟨⟨x, cx, g1, g2, g3⟩, g4⟩ => ⟨x, cx, g1, g2, g3, g4⟩
end
/-- A disk of the document's own: its blocks lie behind W. -/
def RLv (W w : World) (L : Nat → Nat) (rb : Nat) (s : Dk) : Prop := RDk w L rb s ∧ (∀ b, L b ≠ 0 → W.heap.size ≤ b) ∧ Below W.heap.size W w
set_option maxRecDepth 100000 in
set_option maxHeartbeats 4000000 in
theorem newR_any (q : Int) (w : World) (hq : 0 ≤ q ∧ q ≤ 1073741824) :
    Calls Try.prog 20 #[.int .i64 q] w fun e w' => ∃ rb L, e = .returned (.tuple #[.pointer (some ⟨rb, 0, none⟩), .int .i64 0]) ∧ RDk w' L rb (Dk.fresh q) ∧ (∀ b, L b ≠ 0 → w.heap.size ≤ b) ∧ Below w.heap.size w w' := by
  obtain ⟨h1, h2⟩ := hq
  go_enter Try.func20, Try.ntmps20
  go_wp2
  go_ret2
  have hb0 := Below.al w (.cells #[.slice none 0 0] 96)
  have hb1 := hb0.trans ((Below.al (w.alloc (.cells #[.slice none 0 0] 96)) (.cells #[.slice none 0 0, .slice (some ⟨w.heap.size, 0, none⟩) 1 1, .int .i64 q, .int .i64 (-1), .bool false, .int .i64 0] 100)).mono hb0.size)
  have hd : dirsL (Dk.fresh q) = [[]] := rfl
  refine ⟨w.heap.size + 1, fun b => if b = w.heap.size + 1 then 1 else if b = w.heap.size then 4 else 0, ?_, ⟨.slice none 0 0, [], .slice (some ⟨w.heap.size, 0, none⟩) 1 1, [.slice none 0 0], ?_⟩, fun b hb => ?_, hb1⟩
  · simp
  · rw [hd]
    refine ⟨?_, if_pos rfl, fun b hb => ?_, ⟨nil_own _ _ _ _, rfl, rfl, (fun b hb => by cases hb), (fun i vs p hv _ => by cases hv), (fun i g p hg _ => by cases hg)⟩, ⟨?_, fun b hb => ?_, fun i l u hl hu => ?_⟩⟩
    · have := Box.new (w.alloc (.cells #[.slice none 0 0] 96)) 100 #[.slice none 0 0, .slice (some ⟨w.heap.size, 0, none⟩) 1 1, .int .i64 q, .int .i64 (-1), .bool false, .int .i64 0]
      simpa [Dk.fresh] using this
    · simp only [World.size_alloc]
      by_cases e1 : b = w.heap.size + 1
      · omega
      · by_cases e2 : b = w.heap.size
        · omega
        · simp [e1, e2] at hb
    · exact (show (w.alloc (.cells #[.slice none 0 0] 96)).ownsRow 0 96 1 (.slice (some ⟨w.heap.size, 0, none⟩) 1 1) 1 [.slice none 0 0] from ⟨rfl, .inr ⟨w.heap.size, 1, #[.slice none 0 0], rfl, Nat.zero_le _, heap_alloc_new w _, Nat.le_refl _, by decide, rfl, rfl⟩⟩).alloc _
    · simp [Value.ownBlock] at hb
      subst hb
      simp
    · cases i with
      | zero =>
        simp at hl hu
        subst hl hu
        exact ⟨nil_own _ _ _ _, fun b hb => by cases hb⟩
      | succ i => simp at hl
  · simp only at hb
    by_cases e1 : b = w.heap.size + 1
    · omega
    · by_cases e2 : b = w.heap.size
      · omega
      · simp [e1, e2] at hb
set_option maxRecDepth 100000 in
set_option maxHeartbeats 4000000 in
theorem newR_no (q : Int) (w : World) (hq : q < 0 ∨ 1073741824 < q) :
    Calls Try.prog 20 #[.int .i64 q] w fun e w' => e = .returned (.tuple #[.pointer none, .int .i64 3]) ∧ w' = w := by
  rcases hq with hq | hq
  · go_enter Try.func20, Try.ntmps20
    go_wp2
    go_ret2
    exact ⟨rfl, rfl⟩
  · have hq0 : ¬ q < 0 := by omega
    go_enter Try.func20, Try.ntmps20
    go_wp2
    go_ret2
    exact ⟨rfl, rfl⟩
theorem tot_take (s : Dk) {j : Nat} {p : KE} (hp : s.seen[j]? = some p) : ((s.seen.take (j + 1)).map fun p => (s.fl p.2).seen.length).sum = ((s.seen.take j).map fun p => (s.fl p.2).seen.length).sum + (s.fl p.2).seen.length := by
  rw [List.take_add_one, hp]
  simp
theorem tot_le (s : Dk) (j : Nat) : ((s.seen.take j).map fun p => (s.fl p.2).seen.length).sum ≤ s.tot := by
  have := sum_takeq (s.seen.map fun p => (s.fl p.2).seen.length) j
  rw [← List.map_take] at this
  exact this
set_option maxRecDepth 100000 in
set_option maxHeartbeats 4000000 in
theorem usedR_any (rb : Nat) (L : Nat → Nat) (s : Dk) (N : Nat) (w : World) (h : RDk w L rb s) (hi : s.Inv N) (hN : N ≤ 99999999) (hfm : s.files.length ≤ 99999999) :
    Calls Try.prog 50 #[.pointer (some ⟨rb, 0, none⟩)] w fun e w' => e = .returned (.int .i64 s.used) ∧ ∃ k, w' = w.drewN k := by
  obtain ⟨_, _, _, _, _, _, _, hsl⟩ := h.use hi hN
  obtain ⟨m, hm⟩ : ∃ m, s.seen.length = m := ⟨_, rfl⟩
  rw [hm] at hsl
  have H := Lib.hid (And.intro h (And.intro hi (And.intro hN (And.intro hfm hm))))
  have hub := hi.ub
  have hus := hi.us
  clear h hi hN hfm hm
  go_enter Try.func50, Try.ntmps50
  go_wp2_with (first
    | (go_at_call 85
       refine (seenD_any H.out.1 (H.out.2.1.dl H.out.2.2.1)).mono ?_
       rintro e w1 ⟨x, cx, rfl, hN, k1, hw1⟩
       have HN := Lib.hid (rdK_own hN.1)
       have HW := Lib.hid hw1
       rw [H.out.2.2.2.2]
       clear hN hw1))
  go_loopw [3, 5] (fun v3 v5 wr => ∃ (j q t : Nat), j ≤ m ∧ v5 = .int .i64 j ∧ v3 = .int .i64 t ∧ t = ((s.seen.take j).map fun p => (s.fl p.2).seen.length).sum ∧ wr = w.drewN q) (fun _ v5 _ => m - (intOf v5).toNat)
  case atStart => exact ⟨0, k1, 0, Nat.zero_le _, rfl, rfl, by simp, HW.out⟩
  case round =>
    obtain ⟨j, q, t, hj, rfl, rfl, ht, hwr⟩ := hrel
    have htm : (t : Int) ≤ 1073741824 := by have := tot_le s j; omega
    subst hwr
    by_cases hlt : j < m
    · have hj0 : (0 : Int) ≤ j := by omega
      have hj1 : (j : Int) < m := by omega
      obtain ⟨p, hp⟩ : ∃ p, s.seen[j]? = some p := ⟨_, List.getElem?_eq_getElem (by rw [H.out.2.2.2.2]; exact hlt)⟩
      obtain ⟨ad, rfl, _, d0, d1⟩ := HN.out j p hp
      have hpf := H.out.2.1.seen_ids p (List.mem_of_getElem? hp)
      have hd1 : (w.drewN q).cell? ⟨(ad.add (j * 2)).block, (ad.add (j * 2)).off + 1, none⟩ = some (.int .i64 (p.2 : Nat)) := d1
      have htt := tot_take s hp
      have htl := tot_le s (j + 1)
      obtain ⟨z, hz⟩ : ∃ z, (s.fl p.2).seen.length = z := ⟨_, rfl⟩
      rw [hz] at htt
      have hzm : (t : Int) + z ≤ 1073741824 := by omega
      have HP := Lib.hid (And.intro hpf (And.intro hz (And.intro ht htt)))
      clear hp hpf d0 d1 htt htl ht hz
      go_wp2_with (first
        | (go_at_call 86
           refine (bytesD_any p.2 (H.out.1.next (below_drewN (Below.refl _ _) q)) H.out.2.1 H.out.2.2.1 HP.out.1 H.out.2.2.2.1).mono ?_
           rintro e w2 ⟨y, cy, rfl, _, _, k2, hw2⟩
           have HW2 := Lib.hid hw2
           rw [HP.out.2.1]
           clear hw2))
      go_roundw
      case rel => exact ⟨j + 1, q + k2, t + z, by omega, by go_num, by go_num, by rw [HP.out.2.2.2, ← HP.out.2.2.1], by rw [HW2.out]; first | rfl | exact World.drewN_drewN ..⟩
      case measure => simp [intOf]; omega
    · have hjm : m = j := by omega
      subst hjm
      have htt : (t : Int) = s.used := by
        rw [ht, hus]
        unfold Dk.tot
        rw [← H.out.2.2.2.2, List.take_length]
      have HT := Lib.hid htt
      clear htt ht
      go_wp2
      go_ret
      rw [HT.out]
      exact ⟨rfl, q, rfl⟩
end Go.Proofs.Ytebeefkibbbkdaa
/- chronicleref3: refusal. -/
namespace Go.Proofs.Ytebeefkibbbkdaa
open Go.RowKit Go.Maps

set_option maxRecDepth 100000 in
set_option maxHeartbeats 4000000 in
/-- bytes, at a memory that holds the disk: the very slice. -/
theorem bytesF {w : World} {L : Nat → Nat} {rb N : Nat} {s : Dk} (f : Nat) (h : RDk w L rb s) (hi : s.Inv N) (hN : N ≤ 99999999) (hf : f < s.files.length) :
    ∃ x cx, w.ownsRow 0 5 1 (.slice x (s.fl f).seen.length cx) (s.fl f).seen.length (bv (s.fl f).seen) ∧ Lb L (.slice x (s.fl f).seen.length cx) 5 ∧ ∀ w', Below w.heap.size w w' →
      Calls Try.prog 86 #[.pointer (some ⟨rb, 0, none⟩), .int .i64 f] w' fun e w'' => e = .returned (.slice x (s.fl f).seen.length cx) ∧ ∃ k, w'' = w'.drewN k := by
  obtain ⟨vF, uP, vD, uD, h, h1, h2, h3⟩ := h.use hi hN
  have hl := hi.sz.f _ (fl_mem hf)
  obtain ⟨gF, nF, cF, gu, m, j, cu, p, us, xn, cn, rfl, hnF, hfn, hLF, hup, hp1, hvm, hmj, hru, hLu, hus, hc0, hcf, hcj, hro, hlb⟩ := h.now_ (ver_get hf).1 (vers_last (s.fl f))
  refine ⟨xn, cn, hro, hlb, fun w' hb => ?_⟩
  replace hc0 := cell_keptq hc0 hb
  replace hcf := cell_keptq hcf hb
  replace hcj := cell_keptq hcj hb
  have hmx : m ≤ 999999999999 := by rw [← hvm, vers_len]; omega
  have hf0 : (0 : Int) ≤ f := by omega
  have hf1 : (f : Int) < nF := by omega
  have hii : (m : Int) - 1 = (j : Int) := by omega
  have hwr : IntKind.i64.wrap ((m : Int) - 1) = (j : Int) := by rw [hii]; exact IntWalk.i64_in _ (by omega)
  have hwi : IntKind.i64.wrap (j : Int) = (j : Int) := IntWalk.i64_in _ (by omega)
  have hi0 : (0 : Int) ≤ j := by omega
  have hi1 : (j : Int) < m := by omega
  clear hro hlb hru hus hup hp1 hvm hmj hLu hLF hnF h hb h1 h2 h3 hl hi
  go_enter Try.func86, Try.ntmps86
  go_upto_region 1 with fail
  go_quiet (fail)
  generalize hw1 : w'.drewN _ = w1
  go_wp2
  go_ret
  exact ⟨rfl, _, hw1.symm⟩
/-- Why an operation is refused, its power aside. -/
def refE (k : Int) (nm nt : ByteArray) (y : Int) (bs : List UInt8) (s : Dk) : Int :=
  if k = 5 then 0 else if goodN nm = false ∨ (k = 6 ∧ goodN nt = false) then 30 else if k = 6 ∧ nm = nt then 3
  else if k = 1 then (if getL nm s.seen = none then (if 65536 ≤ s.seen.length then 35 else 0) else 32)
  else if getL nm s.seen = none then 31
  else if k = 2 ∧ 0 < bs.length ∧ s.quota - s.used < bs.length then 33
  else if k = 3 ∧ (y < 0 ∨ (s.fl (s.num nm)).seen.length < y) then 3 else 0

set_option maxRecDepth 100000 in
set_option maxHeartbeats 8000000 in
theorem refusal5 (rb : Nat) (L : Nat → Nat) (s : Dk) (N n c : Nat) (nm nt : ByteArray) (x y : Int) (A : Option Addr) (bs : List UInt8) (w : World) (_h : RDk w L rb s) (_hi : s.Inv N) (_hN : N ≤ 99999999) (_hfm : s.files.length ≤ 99999999) (_hz1 : nm.size ≤ maxLen) (_hz2 : nt.size ≤ maxLen) (_hn : bs.length = n) :
    Calls Try.prog 90 #[.pointer (some ⟨rb, 0, none⟩), .agg #[.int .i64 5, .string nm, .string nt, .int .i64 x, .int .i64 y, .slice A n c]] w fun e w' => e = .returned (.int .i64 (refE 5 nm nt y bs s)) ∧ Below w.heap.size w w' := by
  have HB := Lib.hid (Below.al w (.cells #[.int .i64 5, .string nm, .string nt, .int .i64 x, .int .i64 y, .slice A n c] 111))
  go_enter Try.func90, Try.ntmps90
  go_wp2
  go_ret
  exact ⟨rfl, HB.out⟩
set_option maxRecDepth 100000 in
set_option maxHeartbeats 8000000 in
theorem refusal1 (rb : Nat) (L : Nat → Nat) (s : Dk) (N n c : Nat) (nm nt : ByteArray) (x y : Int) (A : Option Addr) (bs : List UInt8) (w : World) (h : RDk w L rb s) (hi : s.Inv N) (hN : N ≤ 99999999) (hfm : s.files.length ≤ 99999999) (hz1 : nm.size ≤ maxLen) (_hz2 : nt.size ≤ maxLen) (hn : bs.length = n) :
    Calls Try.prog 90 #[.pointer (some ⟨rb, 0, none⟩), .agg #[.int .i64 1, .string nm, .string nt, .int .i64 x, .int .i64 y, .slice A n c]] w fun e w' => e = .returned (.int .i64 (refE 1 nm nt y bs s)) ∧ Below w.heap.size w w' := by
  have H := Lib.hid (And.intro h (And.intro hi (And.intro hN (And.intro hfm hn))))
  have K0 := trivial
  have X0 := Lib.hid (And.intro (Box.new w 111 #[.int .i64 1, .string nm, .string nt, .int .i64 x, .int .i64 y, .slice A n c]) (Below.al w (.cells #[.int .i64 1, .string nm, .string nt, .int .i64 x, .int .i64 y, .slice A n c] 111)))
  clear h hi hN hfm hn
  cases hg1 : goodN nm with
  | false =>
    have HE := Lib.hid (show refE 1 nm nt y bs s = 30 by simp [refE, hg1])
    go_enter Try.func90, Try.ntmps90
    go_wp2_with (first
      | (go_at_call 46
         have z0 := K0
         clear z0
         refine (nameR3_any nm _ hz1).mono ?_
         rintro e w1 ⟨rfl, hb1⟩
         rw [hg1]
         have hxc := (X0.out.1.next hb1).cell
         have X1 := Lib.hid (And.intro (X0.out.1.next hb1) (X0.out.2.trans (hb1.mono X0.out.2.size)))
         have K1 := trivial
         clear K0 hb1))
    go_ret
    rw [HE.out]
    exact ⟨rfl, X1.out.2⟩
  | true =>
    cases hget : getL nm s.seen with
    | some f =>
      have HE := Lib.hid (show refE 1 nm nt y bs s = 32 by simp [refE, hg1, hget])
      have HL := Lib.hid (leadW_some H.out.2.1.sorted hget)
      have hf0 : (0 : Int) ≤ f := by omega
      clear hget
      go_enter Try.func90, Try.ntmps90
      go_wp2_with (first
        | (go_at_call 46
           have z0 := K0
           clear z0
           refine (nameR3_any nm _ hz1).mono ?_
           rintro e w1 ⟨rfl, hb1⟩
           rw [hg1]
           have hxc := (X0.out.1.next hb1).cell
           have X1 := Lib.hid (And.intro (X0.out.1.next hb1) (X0.out.2.trans (hb1.mono X0.out.2.size)))
           have K1 := trivial
           clear K0 hb1)
        | (go_at_call 92
           refine (findD_any nm (H.out.1.next X1.out.2) H.out.2.1 H.out.2.2.1).mono ?_
           rintro e w8 ⟨rfl, k8, hw8⟩
           rw [HL.out]
           have hxc := (show Box w8 w.heap.size 111 #[.int .i64 1, .string nm, .string nt, .int .i64 x, .int .i64 y, .slice A n c] by rw [hw8]; exact X1.out.1.drewN k8).cell
           have B8 := Lib.hid (show Box w8 w.heap.size 111 #[.int .i64 1, .string nm, .string nt, .int .i64 x, .int .i64 y, .slice A n c] by rw [hw8]; exact X1.out.1.drewN k8)
           have X8 := Lib.hid (show Below w.heap.size w w8 by rw [hw8]; exact below_drewN X1.out.2 k8)
           clear hw8))
      go_ret
      rw [HE.out]
      exact ⟨rfl, X8.out⟩
    | none =>
      have HL := Lib.hid (leadW_no H.out.2.1.sorted hget)
      obtain ⟨m, hm⟩ : ∃ m, s.seen.length = m := ⟨_, rfl⟩
      have HM := Lib.hid hm
      by_cases hfew : 65536 ≤ m
      · have HE := Lib.hid (show refE 1 nm nt y bs s = 35 by simp [refE, hg1, hget, hm, hfew])
        have hfi : (65536 : Int) ≤ m := by omega
        clear hget hm hfew
        go_enter Try.func90, Try.ntmps90
        go_wp2_with (first
          | (go_at_call 46
             have z0 := K0
             clear z0
             refine (nameR3_any nm _ hz1).mono ?_
             rintro e w1 ⟨rfl, hb1⟩
             rw [hg1]
             have hxc := (X0.out.1.next hb1).cell
             have X1 := Lib.hid (And.intro (X0.out.1.next hb1) (X0.out.2.trans (hb1.mono X0.out.2.size)))
             have K1 := trivial
             clear K0 hb1)
          | (go_at_call 92
             refine (findD_any nm (H.out.1.next X1.out.2) H.out.2.1 H.out.2.2.1).mono ?_
             rintro e w8 ⟨rfl, k8, hw8⟩
             rw [HL.out]
             have hxc := (show Box w8 w.heap.size 111 #[.int .i64 1, .string nm, .string nt, .int .i64 x, .int .i64 y, .slice A n c] by rw [hw8]; exact X1.out.1.drewN k8).cell
             have B8 := Lib.hid (show Box w8 w.heap.size 111 #[.int .i64 1, .string nm, .string nt, .int .i64 x, .int .i64 y, .slice A n c] by rw [hw8]; exact X1.out.1.drewN k8)
             have X8 := Lib.hid (show Below w.heap.size w w8 by rw [hw8]; exact below_drewN X1.out.2 k8)
             clear hw8)
          | (go_at_call 85
             refine (seenD_any (H.out.1.next X8.out) (H.out.2.1.dl H.out.2.2.1)).mono ?_
             rintro e w9 ⟨x9, c9, rfl, _, k9, hw9⟩
             rw [HM.out]
             have X9 := Lib.hid (show Below w.heap.size w w9 by rw [hw9]; exact below_drewN X8.out k9)
             clear hw9))
        go_ret
        rw [HE.out]
        exact ⟨rfl, X9.out⟩
      · have HE := Lib.hid (show refE 1 nm nt y bs s = 0 by simp [refE, hg1, hget, hm, hfew])
        have hfi : decide ((65536 : Int) ≤ m) = false := decide_eq_false (by omega)
        clear hget hm hfew
        go_enter Try.func90, Try.ntmps90
        go_wp2_with (first
          | (go_at_call 46
             have z0 := K0
             clear z0
             refine (nameR3_any nm _ hz1).mono ?_
             rintro e w1 ⟨rfl, hb1⟩
             rw [hg1]
             have hxc := (X0.out.1.next hb1).cell
             have X1 := Lib.hid (And.intro (X0.out.1.next hb1) (X0.out.2.trans (hb1.mono X0.out.2.size)))
             have K1 := trivial
             clear K0 hb1)
          | (go_at_call 92
             refine (findD_any nm (H.out.1.next X1.out.2) H.out.2.1 H.out.2.2.1).mono ?_
             rintro e w8 ⟨rfl, k8, hw8⟩
             rw [HL.out]
             have hxc := (show Box w8 w.heap.size 111 #[.int .i64 1, .string nm, .string nt, .int .i64 x, .int .i64 y, .slice A n c] by rw [hw8]; exact X1.out.1.drewN k8).cell
             have B8 := Lib.hid (show Box w8 w.heap.size 111 #[.int .i64 1, .string nm, .string nt, .int .i64 x, .int .i64 y, .slice A n c] by rw [hw8]; exact X1.out.1.drewN k8)
             have X8 := Lib.hid (show Below w.heap.size w w8 by rw [hw8]; exact below_drewN X1.out.2 k8)
             clear hw8)
          | (go_at_call 85
             refine (seenD_any (H.out.1.next X8.out) (H.out.2.1.dl H.out.2.2.1)).mono ?_
             rintro e w9 ⟨x9, c9, rfl, _, k9, hw9⟩
             rw [HM.out]
             have X9 := Lib.hid (show Below w.heap.size w w9 by rw [hw9]; exact below_drewN X8.out k9)
             clear hw9))
        go_ret
        rw [HE.out]
        exact ⟨rfl, X9.out⟩
set_option maxRecDepth 100000 in
set_option maxHeartbeats 8000000 in
theorem refusal2 (rb : Nat) (L : Nat → Nat) (s : Dk) (N n c : Nat) (nm nt : ByteArray) (x y : Int) (A : Option Addr) (bs : List UInt8) (w : World) (h : RDk w L rb s) (hi : s.Inv N) (hN : N ≤ 99999999) (hfm : s.files.length ≤ 99999999) (hz1 : nm.size ≤ maxLen) (_hz2 : nt.size ≤ maxLen) (hn : bs.length = n) (hnm : n ≤ 140737488355328) :
    Calls Try.prog 90 #[.pointer (some ⟨rb, 0, none⟩), .agg #[.int .i64 2, .string nm, .string nt, .int .i64 x, .int .i64 y, .slice A n c]] w fun e w' => e = .returned (.int .i64 (refE 2 nm nt y bs s)) ∧ Below w.heap.size w w' := by
  have H := Lib.hid (And.intro h (And.intro hi (And.intro hN (And.intro hfm hn))))
  have K0 := trivial
  have X0 := Lib.hid (And.intro (Box.new w 111 #[.int .i64 2, .string nm, .string nt, .int .i64 x, .int .i64 y, .slice A n c]) (Below.al w (.cells #[.int .i64 2, .string nm, .string nt, .int .i64 x, .int .i64 y, .slice A n c] 111)))
  clear h hi hN hfm hn
  cases hg1 : goodN nm with
  | false =>
    have HE := Lib.hid (show refE 2 nm nt y bs s = 30 by simp [refE, hg1])
    go_enter Try.func90, Try.ntmps90
    go_wp2_with (first
      | (go_at_call 46
         have z0 := K0
         clear z0
         refine (nameR3_any nm _ hz1).mono ?_
         rintro e w1 ⟨rfl, hb1⟩
         rw [hg1]
         have hxc := (X0.out.1.next hb1).cell
         have X1 := Lib.hid (And.intro (X0.out.1.next hb1) (X0.out.2.trans (hb1.mono X0.out.2.size)))
         have K1 := trivial
         clear K0 hb1))
    go_ret
    rw [HE.out]
    exact ⟨rfl, X1.out.2⟩
  | true =>
    cases hget : getL nm s.seen with
    | none =>
      have HE := Lib.hid (show refE 2 nm nt y bs s = 31 by simp [refE, hg1, hget])
      have HL := Lib.hid (leadW_no H.out.2.1.sorted hget)
      clear hget
      go_enter Try.func90, Try.ntmps90
      go_wp2_with (first
        | (go_at_call 46
           have z0 := K0
           clear z0
           refine (nameR3_any nm _ hz1).mono ?_
           rintro e w1 ⟨rfl, hb1⟩
           rw [hg1]
           have hxc := (X0.out.1.next hb1).cell
           have X1 := Lib.hid (And.intro (X0.out.1.next hb1) (X0.out.2.trans (hb1.mono X0.out.2.size)))
           have K1 := trivial
           clear K0 hb1)
        | (go_at_call 92
           refine (findD_any nm (H.out.1.next X1.out.2) H.out.2.1 H.out.2.2.1).mono ?_
           rintro e w8 ⟨rfl, k8, hw8⟩
           rw [HL.out]
           have hxc := (show Box w8 w.heap.size 111 #[.int .i64 2, .string nm, .string nt, .int .i64 x, .int .i64 y, .slice A n c] by rw [hw8]; exact X1.out.1.drewN k8).cell
           have B8 := Lib.hid (show Box w8 w.heap.size 111 #[.int .i64 2, .string nm, .string nt, .int .i64 x, .int .i64 y, .slice A n c] by rw [hw8]; exact X1.out.1.drewN k8)
           have X8 := Lib.hid (show Below w.heap.size w w8 by rw [hw8]; exact below_drewN X1.out.2 k8)
           clear hw8))
      go_ret
      rw [HE.out]
      exact ⟨rfl, X8.out⟩
    | some f =>
      have HL := Lib.hid (leadW_some H.out.2.1.sorted hget)
      have hf0 : (0 : Int) ≤ f := by omega
      have hfn : ¬ (f : Int) < 0 := by omega
      have hnum := getL_num hget
      have HF := Lib.hid (H.out.2.1.seen_ids _ ((get_mem H.out.2.1.sorted).1 hget))
      obtain ⟨u0, u1⟩ := H.out.2.1.rg.u
      have hub := H.out.2.1.ub
      obtain ⟨q0, q1⟩ := H.out.2.1.rg.q
      obtain ⟨vF, vD, hbox⟩ := (H.out.1.next X0.out.2).box
      clear hbox
      have HD : Hid (∀ v, Below w.heap.size w v → v.cell? ⟨rb, 2, none⟩ = some (.int .i64 s.quota)) := fun v hv => by
        obtain ⟨vF, vD, hb⟩ := (H.out.1.next hv).box
        exact hb.cell 2
      by_cases h0 : n = 0
      · have HE := Lib.hid (show refE 2 nm nt y bs s = 0 by simp [refE, hg1, hget, H.out.2.2.2.2, h0])
        have hnz : decide ((0 : Int) < n) = false := decide_eq_false (by omega)
        have hnz2 : decide (0 < n) = false := decide_eq_false (by omega)
        clear hget hnum h0
        go_enter Try.func90, Try.ntmps90
        go_wp2_with (first
          | (go_at_call 46
             have z0 := K0
             clear z0
             refine (nameR3_any nm _ hz1).mono ?_
             rintro e w1 ⟨rfl, hb1⟩
             rw [hg1]
             have hxc := (X0.out.1.next hb1).cell
             have X1 := Lib.hid (And.intro (X0.out.1.next hb1) (X0.out.2.trans (hb1.mono X0.out.2.size)))
             have K1 := trivial
             clear K0 hb1)
          | (go_at_call 92
             refine (findD_any nm (H.out.1.next X1.out.2) H.out.2.1 H.out.2.2.1).mono ?_
             rintro e w8 ⟨rfl, k8, hw8⟩
             rw [HL.out]
             have hxc := (show Box w8 w.heap.size 111 #[.int .i64 2, .string nm, .string nt, .int .i64 x, .int .i64 y, .slice A n c] by rw [hw8]; exact X1.out.1.drewN k8).cell
             have B8 := Lib.hid (show Box w8 w.heap.size 111 #[.int .i64 2, .string nm, .string nt, .int .i64 x, .int .i64 y, .slice A n c] by rw [hw8]; exact X1.out.1.drewN k8)
             have X8 := Lib.hid (show Below w.heap.size w w8 by rw [hw8]; exact below_drewN X1.out.2 k8)
             clear hw8))
        go_quiet (fail)
        go_wp2
        go_quiet (fail)
        go_wp2
        go_ret
        rw [HE.out]
        exact ⟨rfl, by first | exact below_drewN X8.out _ | exact below_drewN (below_drewN X8.out _) _ | (simp only [World.drewN_drewN]; exact below_drewN X8.out _)⟩
      · have hn0 : decide ((0 : Int) < n) = true := decide_eq_true (by omega)
        have hn02 : decide (0 < n) = true := decide_eq_true (by omega)
        have hws : IntKind.i64.wrap (s.used + (n : Int)) = s.used + n := IntWalk.i64_in _ (by omega)
        by_cases hov : s.quota - s.used < n
        · have HE := Lib.hid (show refE 2 nm nt y bs s = 33 by simp [refE, hg1, hget, H.out.2.2.2.2]; omega)
          have hgt : decide (s.quota < s.used + (n : Int)) = true := decide_eq_true (by omega)
          clear hget hnum hov h0
          go_enter Try.func90, Try.ntmps90
          go_wp2_with (first
            | (go_at_call 46
               have z0 := K0
               clear z0
               refine (nameR3_any nm _ hz1).mono ?_
               rintro e w1 ⟨rfl, hb1⟩
               rw [hg1]
               have hxc := (X0.out.1.next hb1).cell
               have X1 := Lib.hid (And.intro (X0.out.1.next hb1) (X0.out.2.trans (hb1.mono X0.out.2.size)))
               have K1 := trivial
               clear K0 hb1)
            | (go_at_call 92
               refine (findD_any nm (H.out.1.next X1.out.2) H.out.2.1 H.out.2.2.1).mono ?_
               rintro e w8 ⟨rfl, k8, hw8⟩
               rw [HL.out]
               have hxc := (show Box w8 w.heap.size 111 #[.int .i64 2, .string nm, .string nt, .int .i64 x, .int .i64 y, .slice A n c] by rw [hw8]; exact X1.out.1.drewN k8).cell
               have B8 := Lib.hid (show Box w8 w.heap.size 111 #[.int .i64 2, .string nm, .string nt, .int .i64 x, .int .i64 y, .slice A n c] by rw [hw8]; exact X1.out.1.drewN k8)
               have X8 := Lib.hid (show Below w.heap.size w w8 by rw [hw8]; exact below_drewN X1.out.2 k8)
               clear hw8))
          have hq8 := HD.out w8 X8.out
          go_quiet ((go_at_call 50; exact Calls.quiet_of (usedR_any rb L s N _ (H.out.1.next (below_drewN X8.out _)) H.out.2.1 H.out.2.2.1 H.out.2.2.2.1)))
          go_wp2
          go_ret
          rw [HE.out]
          exact ⟨rfl, by first | exact below_drewN X8.out _ | (simp only [World.drewN_drewN]; exact below_drewN X8.out _)⟩
        · have HE := Lib.hid (show refE 2 nm nt y bs s = 0 by simp [refE, hg1, hget, H.out.2.2.2.2]; omega)
          have hgt : decide (s.quota < s.used + (n : Int)) = false := decide_eq_false (by omega)
          clear hget hnum hov h0
          go_enter Try.func90, Try.ntmps90
          go_wp2_with (first
            | (go_at_call 46
               have z0 := K0
               clear z0
               refine (nameR3_any nm _ hz1).mono ?_
               rintro e w1 ⟨rfl, hb1⟩
               rw [hg1]
               have hxc := (X0.out.1.next hb1).cell
               have X1 := Lib.hid (And.intro (X0.out.1.next hb1) (X0.out.2.trans (hb1.mono X0.out.2.size)))
               have K1 := trivial
               clear K0 hb1)
            | (go_at_call 92
               refine (findD_any nm (H.out.1.next X1.out.2) H.out.2.1 H.out.2.2.1).mono ?_
               rintro e w8 ⟨rfl, k8, hw8⟩
               rw [HL.out]
               have hxc := (show Box w8 w.heap.size 111 #[.int .i64 2, .string nm, .string nt, .int .i64 x, .int .i64 y, .slice A n c] by rw [hw8]; exact X1.out.1.drewN k8).cell
               have B8 := Lib.hid (show Box w8 w.heap.size 111 #[.int .i64 2, .string nm, .string nt, .int .i64 x, .int .i64 y, .slice A n c] by rw [hw8]; exact X1.out.1.drewN k8)
               have X8 := Lib.hid (show Below w.heap.size w w8 by rw [hw8]; exact below_drewN X1.out.2 k8)
               clear hw8))
          have hq8 := HD.out w8 X8.out
          go_quiet ((go_at_call 50; exact Calls.quiet_of (usedR_any rb L s N _ (H.out.1.next (below_drewN X8.out _)) H.out.2.1 H.out.2.2.1 H.out.2.2.2.1)))
          go_wp2
          go_quiet (fail)
          go_wp2
          go_ret
          rw [HE.out]
          exact ⟨rfl, by first | exact below_drewN X8.out _ | (simp only [World.drewN_drewN]; exact below_drewN X8.out _)⟩
set_option maxRecDepth 100000 in
set_option maxHeartbeats 8000000 in
theorem refusal3 (rb : Nat) (L : Nat → Nat) (s : Dk) (N n c : Nat) (nm nt : ByteArray) (x y : Int) (A : Option Addr) (bs : List UInt8) (w : World) (h : RDk w L rb s) (hi : s.Inv N) (hN : N ≤ 99999999) (hfm : s.files.length ≤ 99999999) (hz1 : nm.size ≤ maxLen) (_hz2 : nt.size ≤ maxLen) (hn : bs.length = n) :
    Calls Try.prog 90 #[.pointer (some ⟨rb, 0, none⟩), .agg #[.int .i64 3, .string nm, .string nt, .int .i64 x, .int .i64 y, .slice A n c]] w fun e w' => e = .returned (.int .i64 (refE 3 nm nt y bs s)) ∧ Below w.heap.size w w' := by
  have H := Lib.hid (And.intro h (And.intro hi (And.intro hN (And.intro hfm hn))))
  have K0 := trivial
  have X0 := Lib.hid (And.intro (Box.new w 111 #[.int .i64 3, .string nm, .string nt, .int .i64 x, .int .i64 y, .slice A n c]) (Below.al w (.cells #[.int .i64 3, .string nm, .string nt, .int .i64 x, .int .i64 y, .slice A n c] 111)))
  clear h hi hN hfm hn
  cases hg1 : goodN nm with
  | false =>
    have HE := Lib.hid (show refE 3 nm nt y bs s = 30 by simp [refE, hg1])
    go_enter Try.func90, Try.ntmps90
    go_wp2_with (first
      | (go_at_call 46
         have z0 := K0
         clear z0
         refine (nameR3_any nm _ hz1).mono ?_
         rintro e w1 ⟨rfl, hb1⟩
         rw [hg1]
         have hxc := (X0.out.1.next hb1).cell
         have X1 := Lib.hid (And.intro (X0.out.1.next hb1) (X0.out.2.trans (hb1.mono X0.out.2.size)))
         have K1 := trivial
         clear K0 hb1))
    go_ret
    rw [HE.out]
    exact ⟨rfl, X1.out.2⟩
  | true =>
    cases hget : getL nm s.seen with
    | none =>
      have HE := Lib.hid (show refE 3 nm nt y bs s = 31 by simp [refE, hg1, hget])
      have HL := Lib.hid (leadW_no H.out.2.1.sorted hget)
      clear hget
      go_enter Try.func90, Try.ntmps90
      go_wp2_with (first
        | (go_at_call 46
           have z0 := K0
           clear z0
           refine (nameR3_any nm _ hz1).mono ?_
           rintro e w1 ⟨rfl, hb1⟩
           rw [hg1]
           have hxc := (X0.out.1.next hb1).cell
           have X1 := Lib.hid (And.intro (X0.out.1.next hb1) (X0.out.2.trans (hb1.mono X0.out.2.size)))
           have K1 := trivial
           clear K0 hb1)
        | (go_at_call 92
           refine (findD_any nm (H.out.1.next X1.out.2) H.out.2.1 H.out.2.2.1).mono ?_
           rintro e w8 ⟨rfl, k8, hw8⟩
           rw [HL.out]
           have hxc := (show Box w8 w.heap.size 111 #[.int .i64 3, .string nm, .string nt, .int .i64 x, .int .i64 y, .slice A n c] by rw [hw8]; exact X1.out.1.drewN k8).cell
           have B8 := Lib.hid (show Box w8 w.heap.size 111 #[.int .i64 3, .string nm, .string nt, .int .i64 x, .int .i64 y, .slice A n c] by rw [hw8]; exact X1.out.1.drewN k8)
           have X8 := Lib.hid (show Below w.heap.size w w8 by rw [hw8]; exact below_drewN X1.out.2 k8)
           clear hw8))
      go_ret
      rw [HE.out]
      exact ⟨rfl, X8.out⟩
    | some f =>
      have HL := Lib.hid (leadW_some H.out.2.1.sorted hget)
      have hf0 : (0 : Int) ≤ f := by omega
      have hfn : ¬ (f : Int) < 0 := by omega
      have hnum := getL_num hget
      have HF := Lib.hid (H.out.2.1.seen_ids _ ((get_mem H.out.2.1.sorted).1 hget))
      obtain ⟨z, hz⟩ : ∃ z, (s.fl f).seen.length = z := ⟨_, rfl⟩
      have hy0 := H.out.2.1.len_le hget
      have hub := H.out.2.1.ub
      rw [hz] at hy0
      obtain ⟨bx, bc, _, _, hbf⟩ := bytesF f H.out.1 H.out.2.1 H.out.2.2.1 HF.out
      rw [hz] at hbf
      have HBF := Lib.hid hbf
      clear hbf
      rcases (show y < 0 ∨ (0 ≤ y ∧ (z : Int) < y) ∨ (0 ≤ y ∧ y ≤ z) by omega) with hy | ⟨hy, hy2⟩ | ⟨hy, hy2⟩
      · have HE := Lib.hid (show refE 3 nm nt y bs s = 3 by simp [refE, hg1, hget, hnum, hz, hy])
        clear hget hnum hz
        go_enter Try.func90, Try.ntmps90
        have hyb : decide (y < 0) = true := decide_eq_true (by omega)
        go_wp2_with (first
          | (go_at_call 46
             have z0 := K0
             clear z0
             refine (nameR3_any nm _ hz1).mono ?_
             rintro e w1 ⟨rfl, hb1⟩
             rw [hg1]
             have hxc := (X0.out.1.next hb1).cell
             have X1 := Lib.hid (And.intro (X0.out.1.next hb1) (X0.out.2.trans (hb1.mono X0.out.2.size)))
             have K1 := trivial
             clear K0 hb1)
          | (go_at_call 92
             refine (findD_any nm (H.out.1.next X1.out.2) H.out.2.1 H.out.2.2.1).mono ?_
             rintro e w8 ⟨rfl, k8, hw8⟩
             rw [HL.out]
             have hxc := (show Box w8 w.heap.size 111 #[.int .i64 3, .string nm, .string nt, .int .i64 x, .int .i64 y, .slice A n c] by rw [hw8]; exact X1.out.1.drewN k8).cell
             have B8 := Lib.hid (show Box w8 w.heap.size 111 #[.int .i64 3, .string nm, .string nt, .int .i64 x, .int .i64 y, .slice A n c] by rw [hw8]; exact X1.out.1.drewN k8)
             have X8 := Lib.hid (show Below w.heap.size w w8 by rw [hw8]; exact below_drewN X1.out.2 k8)
             clear hw8))
        go_quiet (fail)
        generalize hw9 : w8.drewN _ = w9
        have hxc := (show Box w9 w.heap.size 111 #[.int .i64 3, .string nm, .string nt, .int .i64 x, .int .i64 y, .slice A n c] by rw [← hw9]; exact B8.out.drewN _).cell
        have X9 := Lib.hid (show Below w.heap.size w w9 by rw [← hw9]; exact below_drewN X8.out _)
        clear hw9
        go_wp2
        go_quiet (fail)
        go_wp2
        go_ret
        rw [HE.out]
        exact ⟨rfl, below_drewN X9.out _⟩
      · have HE := Lib.hid (show refE 3 nm nt y bs s = 3 by simp [refE, hg1, hget, hnum, hz]; omega)
        clear hget hnum hz
        go_enter Try.func90, Try.ntmps90
        have hyb : decide (y < 0) = false := decide_eq_false (by omega)
        have hyz : decide ((z : Int) < y) = true := decide_eq_true (by omega)
        go_wp2_with (first
          | (go_at_call 46
             have z0 := K0
             clear z0
             refine (nameR3_any nm _ hz1).mono ?_
             rintro e w1 ⟨rfl, hb1⟩
             rw [hg1]
             have hxc := (X0.out.1.next hb1).cell
             have X1 := Lib.hid (And.intro (X0.out.1.next hb1) (X0.out.2.trans (hb1.mono X0.out.2.size)))
             have K1 := trivial
             clear K0 hb1)
          | (go_at_call 92
             refine (findD_any nm (H.out.1.next X1.out.2) H.out.2.1 H.out.2.2.1).mono ?_
             rintro e w8 ⟨rfl, k8, hw8⟩
             rw [HL.out]
             have hxc := (show Box w8 w.heap.size 111 #[.int .i64 3, .string nm, .string nt, .int .i64 x, .int .i64 y, .slice A n c] by rw [hw8]; exact X1.out.1.drewN k8).cell
             have B8 := Lib.hid (show Box w8 w.heap.size 111 #[.int .i64 3, .string nm, .string nt, .int .i64 x, .int .i64 y, .slice A n c] by rw [hw8]; exact X1.out.1.drewN k8)
             have X8 := Lib.hid (show Below w.heap.size w w8 by rw [hw8]; exact below_drewN X1.out.2 k8)
             clear hw8))
        go_quiet (fail)
        generalize hw9 : w8.drewN _ = w9
        have hxc := (show Box w9 w.heap.size 111 #[.int .i64 3, .string nm, .string nt, .int .i64 x, .int .i64 y, .slice A n c] by rw [← hw9]; exact B8.out.drewN _).cell
        have X9 := Lib.hid (show Below w.heap.size w w9 by rw [← hw9]; exact below_drewN X8.out _)
        clear hw9
        go_wp2
        go_quiet ((go_at_call 86; exact Calls.quiet_of (HBF.out _ (below_drewN X9.out _))))
        go_wp2
        go_ret
        rw [HE.out]
        exact ⟨rfl, below_drewN X9.out _⟩
      · have HE := Lib.hid (show refE 3 nm nt y bs s = 0 by simp [refE, hg1, hget, hnum, hz]; omega)
        clear hget hnum hz
        go_enter Try.func90, Try.ntmps90
        have hyb : decide (y < 0) = false := decide_eq_false (by omega)
        have hyz : decide ((z : Int) < y) = false := decide_eq_false (by omega)
        go_wp2_with (first
          | (go_at_call 46
             have z0 := K0
             clear z0
             refine (nameR3_any nm _ hz1).mono ?_
             rintro e w1 ⟨rfl, hb1⟩
             rw [hg1]
             have hxc := (X0.out.1.next hb1).cell
             have X1 := Lib.hid (And.intro (X0.out.1.next hb1) (X0.out.2.trans (hb1.mono X0.out.2.size)))
             have K1 := trivial
             clear K0 hb1)
          | (go_at_call 92
             refine (findD_any nm (H.out.1.next X1.out.2) H.out.2.1 H.out.2.2.1).mono ?_
             rintro e w8 ⟨rfl, k8, hw8⟩
             rw [HL.out]
             have hxc := (show Box w8 w.heap.size 111 #[.int .i64 3, .string nm, .string nt, .int .i64 x, .int .i64 y, .slice A n c] by rw [hw8]; exact X1.out.1.drewN k8).cell
             have B8 := Lib.hid (show Box w8 w.heap.size 111 #[.int .i64 3, .string nm, .string nt, .int .i64 x, .int .i64 y, .slice A n c] by rw [hw8]; exact X1.out.1.drewN k8)
             have X8 := Lib.hid (show Below w.heap.size w w8 by rw [hw8]; exact below_drewN X1.out.2 k8)
             clear hw8))
        go_quiet (fail)
        generalize hw9 : w8.drewN _ = w9
        have hxc := (show Box w9 w.heap.size 111 #[.int .i64 3, .string nm, .string nt, .int .i64 x, .int .i64 y, .slice A n c] by rw [← hw9]; exact B8.out.drewN _).cell
        have X9 := Lib.hid (show Below w.heap.size w w9 by rw [← hw9]; exact below_drewN X8.out _)
        clear hw9
        go_wp2
        go_quiet ((go_at_call 86; exact Calls.quiet_of (HBF.out _ (below_drewN X9.out _))))
        go_wp2
        go_ret
        rw [HE.out]
        exact ⟨rfl, below_drewN X9.out _⟩
set_option maxRecDepth 100000 in
set_option maxHeartbeats 8000000 in
theorem refusal4 (rb : Nat) (L : Nat → Nat) (s : Dk) (N n c : Nat) (nm nt : ByteArray) (x y : Int) (A : Option Addr) (bs : List UInt8) (w : World) (h : RDk w L rb s) (hi : s.Inv N) (hN : N ≤ 99999999) (hfm : s.files.length ≤ 99999999) (hz1 : nm.size ≤ maxLen) (_hz2 : nt.size ≤ maxLen) (hn : bs.length = n) :
    Calls Try.prog 90 #[.pointer (some ⟨rb, 0, none⟩), .agg #[.int .i64 4, .string nm, .string nt, .int .i64 x, .int .i64 y, .slice A n c]] w fun e w' => e = .returned (.int .i64 (refE 4 nm nt y bs s)) ∧ Below w.heap.size w w' := by
  have H := Lib.hid (And.intro h (And.intro hi (And.intro hN (And.intro hfm hn))))
  have K0 := trivial
  have X0 := Lib.hid (And.intro (Box.new w 111 #[.int .i64 4, .string nm, .string nt, .int .i64 x, .int .i64 y, .slice A n c]) (Below.al w (.cells #[.int .i64 4, .string nm, .string nt, .int .i64 x, .int .i64 y, .slice A n c] 111)))
  clear h hi hN hfm hn
  cases hg1 : goodN nm with
  | false =>
    have HE := Lib.hid (show refE 4 nm nt y bs s = 30 by simp [refE, hg1])
    go_enter Try.func90, Try.ntmps90
    go_wp2_with (first
      | (go_at_call 46
         have z0 := K0
         clear z0
         refine (nameR3_any nm _ hz1).mono ?_
         rintro e w1 ⟨rfl, hb1⟩
         rw [hg1]
         have hxc := (X0.out.1.next hb1).cell
         have X1 := Lib.hid (And.intro (X0.out.1.next hb1) (X0.out.2.trans (hb1.mono X0.out.2.size)))
         have K1 := trivial
         clear K0 hb1))
    go_ret
    rw [HE.out]
    exact ⟨rfl, X1.out.2⟩
  | true =>
    cases hget : getL nm s.seen with
    | none =>
      have HE := Lib.hid (show refE 4 nm nt y bs s = 31 by simp [refE, hg1, hget])
      have HL := Lib.hid (leadW_no H.out.2.1.sorted hget)
      clear hget
      go_enter Try.func90, Try.ntmps90
      go_wp2_with (first
        | (go_at_call 46
           have z0 := K0
           clear z0
           refine (nameR3_any nm _ hz1).mono ?_
           rintro e w1 ⟨rfl, hb1⟩
           rw [hg1]
           have hxc := (X0.out.1.next hb1).cell
           have X1 := Lib.hid (And.intro (X0.out.1.next hb1) (X0.out.2.trans (hb1.mono X0.out.2.size)))
           have K1 := trivial
           clear K0 hb1)
        | (go_at_call 92
           refine (findD_any nm (H.out.1.next X1.out.2) H.out.2.1 H.out.2.2.1).mono ?_
           rintro e w8 ⟨rfl, k8, hw8⟩
           rw [HL.out]
           have hxc := (show Box w8 w.heap.size 111 #[.int .i64 4, .string nm, .string nt, .int .i64 x, .int .i64 y, .slice A n c] by rw [hw8]; exact X1.out.1.drewN k8).cell
           have B8 := Lib.hid (show Box w8 w.heap.size 111 #[.int .i64 4, .string nm, .string nt, .int .i64 x, .int .i64 y, .slice A n c] by rw [hw8]; exact X1.out.1.drewN k8)
           have X8 := Lib.hid (show Below w.heap.size w w8 by rw [hw8]; exact below_drewN X1.out.2 k8)
           clear hw8))
      go_ret
      rw [HE.out]
      exact ⟨rfl, X8.out⟩
    | some f =>
      have HL := Lib.hid (leadW_some H.out.2.1.sorted hget)
      have hf0 : (0 : Int) ≤ f := by omega
      have hfn : ¬ (f : Int) < 0 := by omega
      have hnum := getL_num hget
      have HF := Lib.hid (H.out.2.1.seen_ids _ ((get_mem H.out.2.1.sorted).1 hget))
      have HE := Lib.hid (show refE 4 nm nt y bs s = 0 by simp [refE, hg1, hget])
      clear hget hnum
      go_enter Try.func90, Try.ntmps90
      go_wp2_with (first
        | (go_at_call 46
           have z0 := K0
           clear z0
           refine (nameR3_any nm _ hz1).mono ?_
           rintro e w1 ⟨rfl, hb1⟩
           rw [hg1]
           have hxc := (X0.out.1.next hb1).cell
           have X1 := Lib.hid (And.intro (X0.out.1.next hb1) (X0.out.2.trans (hb1.mono X0.out.2.size)))
           have K1 := trivial
           clear K0 hb1)
        | (go_at_call 92
           refine (findD_any nm (H.out.1.next X1.out.2) H.out.2.1 H.out.2.2.1).mono ?_
           rintro e w8 ⟨rfl, k8, hw8⟩
           rw [HL.out]
           have hxc := (show Box w8 w.heap.size 111 #[.int .i64 4, .string nm, .string nt, .int .i64 x, .int .i64 y, .slice A n c] by rw [hw8]; exact X1.out.1.drewN k8).cell
           have B8 := Lib.hid (show Box w8 w.heap.size 111 #[.int .i64 4, .string nm, .string nt, .int .i64 x, .int .i64 y, .slice A n c] by rw [hw8]; exact X1.out.1.drewN k8)
           have X8 := Lib.hid (show Below w.heap.size w w8 by rw [hw8]; exact below_drewN X1.out.2 k8)
           clear hw8))
      go_quiet (fail)
      go_wp2
      go_quiet (fail)
      go_wp2
      go_ret
      rw [HE.out]
      exact ⟨rfl, by first | exact below_drewN X8.out _ | exact below_drewN (below_drewN X8.out _) _ | (simp only [World.drewN_drewN]; exact below_drewN X8.out _)⟩
set_option maxRecDepth 100000 in
set_option maxHeartbeats 8000000 in
theorem refusal7 (rb : Nat) (L : Nat → Nat) (s : Dk) (N n c : Nat) (nm nt : ByteArray) (x y : Int) (A : Option Addr) (bs : List UInt8) (w : World) (h : RDk w L rb s) (hi : s.Inv N) (hN : N ≤ 99999999) (hfm : s.files.length ≤ 99999999) (hz1 : nm.size ≤ maxLen) (_hz2 : nt.size ≤ maxLen) (hn : bs.length = n) :
    Calls Try.prog 90 #[.pointer (some ⟨rb, 0, none⟩), .agg #[.int .i64 7, .string nm, .string nt, .int .i64 x, .int .i64 y, .slice A n c]] w fun e w' => e = .returned (.int .i64 (refE 7 nm nt y bs s)) ∧ Below w.heap.size w w' := by
  have H := Lib.hid (And.intro h (And.intro hi (And.intro hN (And.intro hfm hn))))
  have K0 := trivial
  have X0 := Lib.hid (And.intro (Box.new w 111 #[.int .i64 7, .string nm, .string nt, .int .i64 x, .int .i64 y, .slice A n c]) (Below.al w (.cells #[.int .i64 7, .string nm, .string nt, .int .i64 x, .int .i64 y, .slice A n c] 111)))
  clear h hi hN hfm hn
  cases hg1 : goodN nm with
  | false =>
    have HE := Lib.hid (show refE 7 nm nt y bs s = 30 by simp [refE, hg1])
    go_enter Try.func90, Try.ntmps90
    go_wp2_with (first
      | (go_at_call 46
         have z0 := K0
         clear z0
         refine (nameR3_any nm _ hz1).mono ?_
         rintro e w1 ⟨rfl, hb1⟩
         rw [hg1]
         have hxc := (X0.out.1.next hb1).cell
         have X1 := Lib.hid (And.intro (X0.out.1.next hb1) (X0.out.2.trans (hb1.mono X0.out.2.size)))
         have K1 := trivial
         clear K0 hb1))
    go_ret
    rw [HE.out]
    exact ⟨rfl, X1.out.2⟩
  | true =>
    cases hget : getL nm s.seen with
    | none =>
      have HE := Lib.hid (show refE 7 nm nt y bs s = 31 by simp [refE, hg1, hget])
      have HL := Lib.hid (leadW_no H.out.2.1.sorted hget)
      clear hget
      go_enter Try.func90, Try.ntmps90
      go_wp2_with (first
        | (go_at_call 46
           have z0 := K0
           clear z0
           refine (nameR3_any nm _ hz1).mono ?_
           rintro e w1 ⟨rfl, hb1⟩
           rw [hg1]
           have hxc := (X0.out.1.next hb1).cell
           have X1 := Lib.hid (And.intro (X0.out.1.next hb1) (X0.out.2.trans (hb1.mono X0.out.2.size)))
           have K1 := trivial
           clear K0 hb1)
        | (go_at_call 92
           refine (findD_any nm (H.out.1.next X1.out.2) H.out.2.1 H.out.2.2.1).mono ?_
           rintro e w8 ⟨rfl, k8, hw8⟩
           rw [HL.out]
           have hxc := (show Box w8 w.heap.size 111 #[.int .i64 7, .string nm, .string nt, .int .i64 x, .int .i64 y, .slice A n c] by rw [hw8]; exact X1.out.1.drewN k8).cell
           have B8 := Lib.hid (show Box w8 w.heap.size 111 #[.int .i64 7, .string nm, .string nt, .int .i64 x, .int .i64 y, .slice A n c] by rw [hw8]; exact X1.out.1.drewN k8)
           have X8 := Lib.hid (show Below w.heap.size w w8 by rw [hw8]; exact below_drewN X1.out.2 k8)
           clear hw8))
      go_ret
      rw [HE.out]
      exact ⟨rfl, X8.out⟩
    | some f =>
      have HL := Lib.hid (leadW_some H.out.2.1.sorted hget)
      have hf0 : (0 : Int) ≤ f := by omega
      have hfn : ¬ (f : Int) < 0 := by omega
      have hnum := getL_num hget
      have HF := Lib.hid (H.out.2.1.seen_ids _ ((get_mem H.out.2.1.sorted).1 hget))
      have HE := Lib.hid (show refE 7 nm nt y bs s = 0 by simp [refE, hg1, hget])
      clear hget hnum
      go_enter Try.func90, Try.ntmps90
      go_wp2_with (first
        | (go_at_call 46
           have z0 := K0
           clear z0
           refine (nameR3_any nm _ hz1).mono ?_
           rintro e w1 ⟨rfl, hb1⟩
           rw [hg1]
           have hxc := (X0.out.1.next hb1).cell
           have X1 := Lib.hid (And.intro (X0.out.1.next hb1) (X0.out.2.trans (hb1.mono X0.out.2.size)))
           have K1 := trivial
           clear K0 hb1)
        | (go_at_call 92
           refine (findD_any nm (H.out.1.next X1.out.2) H.out.2.1 H.out.2.2.1).mono ?_
           rintro e w8 ⟨rfl, k8, hw8⟩
           rw [HL.out]
           have hxc := (show Box w8 w.heap.size 111 #[.int .i64 7, .string nm, .string nt, .int .i64 x, .int .i64 y, .slice A n c] by rw [hw8]; exact X1.out.1.drewN k8).cell
           have B8 := Lib.hid (show Box w8 w.heap.size 111 #[.int .i64 7, .string nm, .string nt, .int .i64 x, .int .i64 y, .slice A n c] by rw [hw8]; exact X1.out.1.drewN k8)
           have X8 := Lib.hid (show Below w.heap.size w w8 by rw [hw8]; exact below_drewN X1.out.2 k8)
           clear hw8))
      go_quiet (fail)
      go_wp2
      go_quiet (fail)
      go_wp2
      go_ret
      rw [HE.out]
      exact ⟨rfl, by first | exact below_drewN X8.out _ | exact below_drewN (below_drewN X8.out _) _ | (simp only [World.drewN_drewN]; exact below_drewN X8.out _)⟩
set_option maxRecDepth 100000 in
set_option maxHeartbeats 8000000 in
theorem refusal6 (rb : Nat) (L : Nat → Nat) (s : Dk) (N n c : Nat) (nm nt : ByteArray) (x y : Int) (A : Option Addr) (bs : List UInt8) (w : World) (h : RDk w L rb s) (hi : s.Inv N) (hN : N ≤ 99999999) (hfm : s.files.length ≤ 99999999) (hz1 : nm.size ≤ maxLen) (hz2 : nt.size ≤ maxLen) (hn : bs.length = n) :
    Calls Try.prog 90 #[.pointer (some ⟨rb, 0, none⟩), .agg #[.int .i64 6, .string nm, .string nt, .int .i64 x, .int .i64 y, .slice A n c]] w fun e w' => e = .returned (.int .i64 (refE 6 nm nt y bs s)) ∧ Below w.heap.size w w' := by
  have H := Lib.hid (And.intro h (And.intro hi (And.intro hN (And.intro hfm hn))))
  have K0 := trivial
  have X0 := Lib.hid (And.intro (Box.new w 111 #[.int .i64 6, .string nm, .string nt, .int .i64 x, .int .i64 y, .slice A n c]) (Below.al w (.cells #[.int .i64 6, .string nm, .string nt, .int .i64 x, .int .i64 y, .slice A n c] 111)))
  clear h hi hN hfm hn
  cases hg1 : goodN nm with
  | false =>
    cases hg2 : goodN nt with
    | false =>
      have HE := Lib.hid (show refE 6 nm nt y bs s = 30 by simp [refE, hg1])
      go_enter Try.func90, Try.ntmps90
      go_wp2_with (first
        | (go_at_call 46
           have z0 := K0
           clear z0
           refine (nameR3_any nm _ hz1).mono ?_
           rintro e w1 ⟨rfl, hb1⟩
           rw [hg1]
           have hxc := (X0.out.1.next hb1).cell
           have X1 := Lib.hid (And.intro (X0.out.1.next hb1) (X0.out.2.trans (hb1.mono X0.out.2.size)))
           have K1 := trivial
           clear K0 hb1)
        | (go_at_call 46
           have z0 := K1
           clear z0
           refine (nameR3_any nt _ hz2).mono ?_
           rintro e w2 ⟨rfl, hb2⟩
           rw [hg2]
           have hxc := (X1.out.1.next hb2).cell
           have X2 := Lib.hid (And.intro (X1.out.1.next hb2) (X1.out.2.trans (hb2.mono X1.out.2.size)))
           have K2 := trivial
           clear K1 hb2))
      go_ret
      rw [HE.out]
      exact ⟨rfl, X2.out.2⟩
    | true =>
      have HE := Lib.hid (show refE 6 nm nt y bs s = 30 by simp [refE, hg1])
      go_enter Try.func90, Try.ntmps90
      go_wp2_with (first
        | (go_at_call 46
           have z0 := K0
           clear z0
           refine (nameR3_any nm _ hz1).mono ?_
           rintro e w1 ⟨rfl, hb1⟩
           rw [hg1]
           have hxc := (X0.out.1.next hb1).cell
           have X1 := Lib.hid (And.intro (X0.out.1.next hb1) (X0.out.2.trans (hb1.mono X0.out.2.size)))
           have K1 := trivial
           clear K0 hb1)
        | (go_at_call 46
           have z0 := K1
           clear z0
           refine (nameR3_any nt _ hz2).mono ?_
           rintro e w2 ⟨rfl, hb2⟩
           rw [hg2]
           have hxc := (X1.out.1.next hb2).cell
           have X2 := Lib.hid (And.intro (X1.out.1.next hb2) (X1.out.2.trans (hb2.mono X1.out.2.size)))
           have K2 := trivial
           clear K1 hb2))
      go_ret
      rw [HE.out]
      exact ⟨rfl, X2.out.2⟩
  | true =>
    cases hg2 : goodN nt with
    | false =>
      have HE := Lib.hid (show refE 6 nm nt y bs s = 30 by simp [refE, hg1, hg2])
      go_enter Try.func90, Try.ntmps90
      go_wp2_with (first
        | (go_at_call 46
           have z0 := K0
           clear z0
           refine (nameR3_any nm _ hz1).mono ?_
           rintro e w1 ⟨rfl, hb1⟩
           rw [hg1]
           have hxc := (X0.out.1.next hb1).cell
           have X1 := Lib.hid (And.intro (X0.out.1.next hb1) (X0.out.2.trans (hb1.mono X0.out.2.size)))
           have K1 := trivial
           clear K0 hb1)
        | (go_at_call 46
           have z0 := K1
           clear z0
           refine (nameR3_any nt _ hz2).mono ?_
           rintro e w2 ⟨rfl, hb2⟩
           rw [hg2]
           have hxc := (X1.out.1.next hb2).cell
           have X2 := Lib.hid (And.intro (X1.out.1.next hb2) (X1.out.2.trans (hb2.mono X1.out.2.size)))
           have K2 := trivial
           clear K1 hb2))
      go_ret
      rw [HE.out]
      exact ⟨rfl, X2.out.2⟩
    | true =>
      by_cases hnn : nm = nt
      · have HE := Lib.hid (show refE 6 nm nt y bs s = 3 by simp [refE, hg2, hnn])
        have hself : (nm.toList == nt.toList) = true := by rw [hnn]; simp
        clear hnn
        go_enter Try.func90, Try.ntmps90
        go_wp2_with (first
          | (go_at_call 46
             have z0 := K0
             clear z0
             refine (nameR3_any nm _ hz1).mono ?_
             rintro e w1 ⟨rfl, hb1⟩
             rw [hg1]
             have hxc := (X0.out.1.next hb1).cell
             have X1 := Lib.hid (And.intro (X0.out.1.next hb1) (X0.out.2.trans (hb1.mono X0.out.2.size)))
             have K1 := trivial
             clear K0 hb1)
          | (go_at_call 46
             have z0 := K1
             clear z0
             refine (nameR3_any nt _ hz2).mono ?_
             rintro e w2 ⟨rfl, hb2⟩
             rw [hg2]
             have hxc := (X1.out.1.next hb2).cell
             have X2 := Lib.hid (And.intro (X1.out.1.next hb2) (X1.out.2.trans (hb2.mono X1.out.2.size)))
             have K2 := trivial
             clear K1 hb2))
        go_ret
        rw [HE.out]
        exact ⟨rfl, X2.out.2⟩
      · have hne := key_ne hnn
        cases hget : getL nm s.seen with
        | none =>
          have HE := Lib.hid (show refE 6 nm nt y bs s = 31 by simp [refE, hg1, hget, hg2, hnn])
          have HL := Lib.hid (leadW_no H.out.2.1.sorted hget)
          clear hget
          go_enter Try.func90, Try.ntmps90
          go_wp2_with (first
            | (go_at_call 46
               have z0 := K0
               clear z0
               refine (nameR3_any nm _ hz1).mono ?_
               rintro e w1 ⟨rfl, hb1⟩
               rw [hg1]
               have hxc := (X0.out.1.next hb1).cell
               have X1 := Lib.hid (And.intro (X0.out.1.next hb1) (X0.out.2.trans (hb1.mono X0.out.2.size)))
               have K1 := trivial
               clear K0 hb1)
            | (go_at_call 46
               have z0 := K1
               clear z0
               refine (nameR3_any nt _ hz2).mono ?_
               rintro e w2 ⟨rfl, hb2⟩
               rw [hg2]
               have hxc := (X1.out.1.next hb2).cell
               have X2 := Lib.hid (And.intro (X1.out.1.next hb2) (X1.out.2.trans (hb2.mono X1.out.2.size)))
               have K2 := trivial
               clear K1 hb2)
            | (go_at_call 92
               refine (findD_any nm (H.out.1.next X2.out.2) H.out.2.1 H.out.2.2.1).mono ?_
               rintro e w8 ⟨rfl, k8, hw8⟩
               rw [HL.out]
               have hxc := (show Box w8 w.heap.size 111 #[.int .i64 6, .string nm, .string nt, .int .i64 x, .int .i64 y, .slice A n c] by rw [hw8]; exact X2.out.1.drewN k8).cell
               have B8 := Lib.hid (show Box w8 w.heap.size 111 #[.int .i64 6, .string nm, .string nt, .int .i64 x, .int .i64 y, .slice A n c] by rw [hw8]; exact X2.out.1.drewN k8)
               have X8 := Lib.hid (show Below w.heap.size w w8 by rw [hw8]; exact below_drewN X2.out.2 k8)
               clear hw8))
          go_ret
          rw [HE.out]
          exact ⟨rfl, X8.out⟩
        | some f =>
          have HL := Lib.hid (leadW_some H.out.2.1.sorted hget)
          have hf0 : (0 : Int) ≤ f := by omega
          have hfn : ¬ (f : Int) < 0 := by omega
          have hnum := getL_num hget
          have HF := Lib.hid (H.out.2.1.seen_ids _ ((get_mem H.out.2.1.sorted).1 hget))
          have HE := Lib.hid (show refE 6 nm nt y bs s = 0 by simp [refE, hg1, hget, hg2, hnn])
          clear hget hnum
          go_enter Try.func90, Try.ntmps90
          go_wp2_with (first
            | (go_at_call 46
               have z0 := K0
               clear z0
               refine (nameR3_any nm _ hz1).mono ?_
               rintro e w1 ⟨rfl, hb1⟩
               rw [hg1]
               have hxc := (X0.out.1.next hb1).cell
               have X1 := Lib.hid (And.intro (X0.out.1.next hb1) (X0.out.2.trans (hb1.mono X0.out.2.size)))
               have K1 := trivial
               clear K0 hb1)
            | (go_at_call 46
               have z0 := K1
               clear z0
               refine (nameR3_any nt _ hz2).mono ?_
               rintro e w2 ⟨rfl, hb2⟩
               rw [hg2]
               have hxc := (X1.out.1.next hb2).cell
               have X2 := Lib.hid (And.intro (X1.out.1.next hb2) (X1.out.2.trans (hb2.mono X1.out.2.size)))
               have K2 := trivial
               clear K1 hb2)
            | (go_at_call 92
               refine (findD_any nm (H.out.1.next X2.out.2) H.out.2.1 H.out.2.2.1).mono ?_
               rintro e w8 ⟨rfl, k8, hw8⟩
               rw [HL.out]
               have hxc := (show Box w8 w.heap.size 111 #[.int .i64 6, .string nm, .string nt, .int .i64 x, .int .i64 y, .slice A n c] by rw [hw8]; exact X2.out.1.drewN k8).cell
               have B8 := Lib.hid (show Box w8 w.heap.size 111 #[.int .i64 6, .string nm, .string nt, .int .i64 x, .int .i64 y, .slice A n c] by rw [hw8]; exact X2.out.1.drewN k8)
               have X8 := Lib.hid (show Below w.heap.size w w8 by rw [hw8]; exact below_drewN X2.out.2 k8)
               clear hw8))
          go_quiet (fail)
          go_wp2
          go_quiet (fail)
          go_wp2
          go_ret
          rw [HE.out]
          exact ⟨rfl, by first | exact below_drewN X8.out _ | exact below_drewN (below_drewN X8.out _) _ | (simp only [World.drewN_drewN]; exact below_drewN X8.out _)⟩
end Go.Proofs.Ytebeefkibbbkdaa
/- chronicleref3: the disk as the model turns: laws of memory, change, turn. -/
namespace Go.Proofs.Ytebeefkibbbkdaa
open Go.RowKit Go.Maps

section
variable {w wz w0 w1 w' w7 : World} {L L0 L' : Nat → Nat} {rb N a b gF nF cF f : Nat} {s s' : Dk} {vF vD v7 bval : Value} {uP : List (Value × Value)} {uD : List Value} {fs : VS} {gs : GS} {ds : List (List KE)} {most left done : Int} {off : Bool} {y : List UInt8}
theorem RDk.congr (h : RDk w L rb s) (h0 : s'.files = s.files) (h1 : s'.safe = s.safe) (h2 : s'.dchs = s.dchs) (h3 : s'.quota = s.quota) (h4 : s'.fuse = s.fuse) (h5 : s'.ops = s.ops) (h6 : s'.dead = s.dead) : RDk w L rb s' := by
  obtain ⟨vF, uP, vD, uD, h⟩ := h
  refine ⟨vF, uP, vD, uD, ?_⟩
  rw [h0, dirsL_same h1 h2, h3, h4, h5, h6]
  exact h
theorem Ex.offb (hex : Ex w w' L L') {b : Nat} (h0 : L b = 0) (hlt : b < w.heap.size) : L' b = 0 := by
  by_cases h : L' b = 0
  · exact h
  · rcases hex.new b h with h1 | h1
    · exact absurd h0 h1
    · omega
theorem Ex.refl (w : World) (L : Nat → Nat) : Ex w w L L := Ex.below (Below.refl _ _) L
/-- Two rows of the call's own get their labels. -/
theorem RM.two (h : RM wz L rb vF uP vD uD fs gs ds most left done off) (oA oB : Obj) (ha : a ≠ 0) (hb : b ≠ 0) : ∃ L', RM ((wz.alloc oA).alloc oB) L' rb vF uP vD uD fs gs ds most left done off ∧ L' wz.heap.size = a ∧ L' (wz.heap.size + 1) = b ∧ Ex wz ((wz.alloc oA).alloc oB) L L' := by
  obtain ⟨h1, h2, h3⟩ := h.fresh (x := .slice (some ⟨wz.heap.size, 0, none⟩) 0 0) (a := a) (Below.al wz oA) (fun b hb => by simp [Value.ownBlock] at hb; subst hb; simp) ha
  obtain ⟨h4, h5, h6⟩ := h1.fresh (x := .slice (some ⟨wz.heap.size + 1, 0, none⟩) 0 0) (a := b) (Below.al (wz.alloc oA) oB) (fun b hb => by simp [Value.ownBlock] at hb; subst hb; simp) hb
  have e1 := h2 wz.heap.size rfl
  refine ⟨_, h4, ?_, h5 _ rfl, h3.trans h6⟩
  rw [h6.old _ (by rw [e1]; exact ha), e1]
theorem row_one (w : World) (v : Value) (t : TypeId) : (w.alloc (.cells #[v] t)).ownsRow 0 t 1 (.slice (some ⟨w.heap.size, 0, none⟩) 1 1) 1 [v] :=
  ⟨rfl, .inr ⟨w.heap.size, 1, #[v], rfl, Nat.zero_le _, heap_alloc_new w _, Nat.le_refl _, by decide, rfl, rfl⟩⟩
/-- One file more. -/
theorem RM.addF (h : RM wz L rb vF uP vD uD fs gs ds most left done off) (hx : wz.ownsRow 0 5 1 bval y.length (bv y) ∧ Lb L bval 5)
    (hg : (((wz.alloc (.cells #[bval] 22)).alloc (.cells #[.int .i64 (-1)] 3)).alloc (.cells #[.slice (some ⟨wz.heap.size, 0, none⟩) 1 1, .slice (some ⟨wz.heap.size + 1, 0, none⟩) 1 1] 103)).grownBy w7 vF.ownBlock)
    (hr7 : w7.ownsRow 0 103 2 v7 (fs.length + 1) (uP.flatMap pcell ++ [.slice (some ⟨wz.heap.size, 0, none⟩) 1 1, .slice (some ⟨wz.heap.size + 1, 0, none⟩) 1 1]))
    (hor : v7.ownBlock = vF.ownBlock ∨ v7.ownBlock = some (wz.heap.size + 3)) :
    ∃ L', RM (w7.setCell ⟨rb, 0, none⟩ v7) L' rb v7 (uP ++ [(.slice (some ⟨wz.heap.size, 0, none⟩) 1 1, .slice (some ⟨wz.heap.size + 1, 0, none⟩) 1 1)]) vD uD (fs ++ [[y]]) (gs ++ [[-1]]) ds most left done off ∧ Ex wz (w7.setCell ⟨rb, 0, none⟩ v7) L L' := by
  obtain ⟨L2, h2, e1, e2, x2⟩ := h.two (a := 8 + 2 * fs.length) (b := 9 + 2 * fs.length) (.cells #[bval] 22) (.cells #[.int .i64 (-1)] 3) (by omega) (by omega)
  have h3 := h2.next (Below.al _ (.cells #[.slice (some ⟨wz.heap.size, 0, none⟩) 1 1, .slice (some ⟨wz.heap.size + 1, 0, none⟩) 1 1] 103))
  have x3 := x2.trans (Ex.below (Below.al ((wz.alloc (.cells #[bval] 22)).alloc (.cells #[.int .i64 (-1)] 3)) (.cells #[.slice (some ⟨wz.heap.size, 0, none⟩) 1 1, .slice (some ⟨wz.heap.size + 1, 0, none⟩) 1 1] 103)) L2)
  have hul := h.F.ul
  have hgl := h.F.gl
  have HV : ∀ (i : Nat) (vs : List (List UInt8)) (p : Value × Value), (fs ++ [[y]])[i]? = some vs → (uP ++ [((.slice (some ⟨wz.heap.size, 0, none⟩) 1 1 : Value), (.slice (some ⟨wz.heap.size + 1, 0, none⟩) 1 1 : Value))])[i]? = some p → VerM (((wz.alloc (.cells #[bval] 22)).alloc (.cells #[.int .i64 (-1)] 3)).alloc (.cells #[.slice (some ⟨wz.heap.size, 0, none⟩) 1 1, .slice (some ⟨wz.heap.size + 1, 0, none⟩) 1 1] 103)) L2 (8 + 2 * i) p.1 vs := by
    intro i vs p hv hp
    rcases Nat.lt_trichotomy i fs.length with hl | hl | hl
    · rw [List.getElem?_append_left hl] at hv
      rw [List.getElem?_append_left (by omega)] at hp
      exact h3.F.f i vs p hv hp
    · subst hl
      rw [List.getElem?_append_right (Nat.le_refl _), Nat.sub_self] at hv
      rw [List.getElem?_append_right (by omega), hul, Nat.sub_self] at hp
      simp at hv hp
      subst hv hp
      refine ⟨[bval], ((row_one wz bval _).alloc _).alloc _, fun b hb => ?_, fun j x v hj hv => ?_⟩
      · simp [Value.ownBlock] at hb
        subst hb
        exact e1
      · cases j with
        | succ j => simp at hj
        | zero =>
          simp at hj hv
          subst hj hv
          exact ⟨((hx.1.alloc _).alloc _).alloc _, hx.2.old (by decide) x2.old⟩
    · rw [List.getElem?_eq_none (by simp; omega)] at hv
      cases hv
  have HG : ∀ (i : Nat) (g : List Int) (p : Value × Value), (gs ++ [[-1]])[i]? = some g → (uP ++ [((.slice (some ⟨wz.heap.size, 0, none⟩) 1 1 : Value), (.slice (some ⟨wz.heap.size + 1, 0, none⟩) 1 1 : Value))])[i]? = some p → GrM (((wz.alloc (.cells #[bval] 22)).alloc (.cells #[.int .i64 (-1)] 3)).alloc (.cells #[.slice (some ⟨wz.heap.size, 0, none⟩) 1 1, .slice (some ⟨wz.heap.size + 1, 0, none⟩) 1 1] 103)) L2 (9 + 2 * i) p.2 g := by
    intro i g p hv hp
    rcases Nat.lt_trichotomy i fs.length with hl | hl | hl
    · rw [List.getElem?_append_left (by omega)] at hv
      rw [List.getElem?_append_left (by omega)] at hp
      exact h3.F.g i g p hv hp
    · subst hl
      rw [List.getElem?_append_right (by omega), hgl, Nat.sub_self] at hv
      rw [List.getElem?_append_right (by omega), hul, Nat.sub_self] at hp
      simp at hv hp
      subst hv hp
      refine ⟨?_, fun b hb => ?_⟩
      · have := (row_one (wz.alloc (.cells #[bval] 22)) (.int .i64 (-1)) 3).alloc (.cells #[.slice (some ⟨wz.heap.size, 0, none⟩) 1 1, .slice (some ⟨wz.heap.size + 1, 0, none⟩) 1 1] 103)
        simpa using this
      · simp [Value.ownBlock] at hb
        subst hb
        exact e2
    · rw [List.getElem?_eq_none (by simp; omega)] at hv
      cases hv
  have hW : Where (((wz.alloc (.cells #[bval] 22)).alloc (.cells #[.int .i64 (-1)] 3)).alloc (.cells #[.slice (some ⟨wz.heap.size, 0, none⟩) 1 1, .slice (some ⟨wz.heap.size + 1, 0, none⟩) 1 1] 103)) L2 v7 2 := fun b hb => by
    rcases hor with e | e
    · exact .inl (h2.F.l b (e ▸ hb))
    · rw [e] at hb
      injection hb with hb
      refine .inr ?_
      simp
      omega
  obtain ⟨t1, t2⟩ := h3.turnF (fs' := fs ++ [[y]]) (gs' := gs ++ [[-1]]) (uP' := (uP ++ [((.slice (some ⟨wz.heap.size, 0, none⟩) 1 1 : Value), (.slice (some ⟨wz.heap.size + 1, 0, none⟩) 1 1 : Value))])) (vF' := v7) ((Chg.refl _ _).grown hg fun k hk => .inl hk)
    (by rw [List.length_append, List.flatMap_append]; exact hr7) (by simp [hul]) (by simp [hgl]) hW HV HG
  exact ⟨_, t1, x3.trans t2⟩
/-- A file's states are one alone. -/
theorem RM.resetF {vs : List (List UInt8)} {gi : List Int} {p : Value × Value} (h : RM wz L rb (.slice (some ⟨gF, 0, none⟩) nF cF) uP vD uD fs gs ds most left done off) (hx : wz.ownsRow 0 5 1 bval y.length (bv y) ∧ Lb L bval 5) (hv : fs[f]? = some vs) (hg : gs[f]? = some gi) (hu : uP[f]? = some p) :
    ∃ L', RM ((((wz.alloc (.cells #[bval] 22)).alloc (.cells #[.int .i64 (-1)] 3)).setCell ⟨gF, f * 2, none⟩ (.slice (some ⟨wz.heap.size, 0, none⟩) 1 1)).setCell ⟨gF, f * 2 + 1, none⟩ (.slice (some ⟨wz.heap.size + 1, 0, none⟩) 1 1)) L' rb (.slice (some ⟨gF, 0, none⟩) nF cF) (uP.set f (.slice (some ⟨wz.heap.size, 0, none⟩) 1 1, .slice (some ⟨wz.heap.size + 1, 0, none⟩) 1 1)) vD uD (fs.set f [y]) (gs.set f [-1]) ds most left done off ∧
      Ex wz ((((wz.alloc (.cells #[bval] 22)).alloc (.cells #[.int .i64 (-1)] 3)).setCell ⟨gF, f * 2, none⟩ (.slice (some ⟨wz.heap.size, 0, none⟩) 1 1)).setCell ⟨gF, f * 2 + 1, none⟩ (.slice (some ⟨wz.heap.size + 1, 0, none⟩) 1 1)) L L' := by
  obtain ⟨L2, h2, e1, e2, x2⟩ := h.two (a := 8 + 2 * f) (b := 9 + 2 * f) (.cells #[bval] 22) (.cells #[.int .i64 (-1)] 3) (by omega) (by omega)
  obtain ⟨t1, t2⟩ := h2.putF (f := f) (vs' := [y]) (us := [bval]) (u' := .slice (some ⟨wz.heap.size, 0, none⟩) 1 1) hv hu (Chg.refl _ _) ((row_one wz bval _).alloc _) (fun b hb => by
      simp [Value.ownBlock] at hb
      subst hb
      exact .inl e1) fun j x v hj hv => by
    cases j with
    | succ j => simp at hj
    | zero =>
      simp at hj hv
      subst hj hv
      exact ⟨(hx.1.alloc _).alloc _, hx.2.old (by decide) x2.old⟩
  have hf2 : f < uP.length := (List.getElem?_eq_some_iff.1 hu).1
  have ho := t2.old (wz.heap.size + 1) (by rw [e2]; omega)
  have hrow := row_one (wz.alloc (.cells #[bval] 22)) (.int .i64 (-1)) 3
  have hgF : L gF = 2 := h.F.l gF rfl
  have hne : wz.heap.size + 1 ≠ gF := fun e => by have := h.lt gF (by omega); omega
  obtain ⟨t3, t4⟩ := t1.putG (f := f) (gi' := [-1]) (u' := .slice (some ⟨wz.heap.size + 1, 0, none⟩) 1 1) hg (List.getElem?_set_self hf2) (Chg.refl _ _) (by
      refine row_far (p := ⟨gF, f * 2, none⟩) (by simpa using hrow) (fun k hk => ?_) _
      simp [Value.ownBlock] at hk
      subst hk
      exact hne) (fun b hb => by
      simp [Value.ownBlock] at hb
      subst hb
      exact .inl (by rw [ho, e2]))
  refine ⟨_, ?_, x2.trans (t2.trans t4)⟩
  simpa using t3
end
end Go.Proofs.Ytebeefkibbbkdaa
/- chronicleref3: change, turn, a new row, for the disk as the model; when an operation is refused. -/
namespace Go.Proofs.Ytebeefkibbbkdaa
open Go.RowKit Go.Maps

section
variable {w wx wz w0 w1 w' : World} {L L0 L' : Nat → Nat} {rb N a k n c : Nat} {s s' : Dk} {x : Value} {A : Option Addr} {bs : List UInt8}
theorem RDk.fresh (h : RDk w L rb s) (hb : Below w.heap.size w wx) (hx : ∀ b, x.ownBlock = some b → w.heap.size ≤ b ∧ b < wx.heap.size) (ha : a ≠ 0) : RDk wx (relab L x a) rb s ∧ Lb (relab L x a) x a ∧ Ex w wx L (relab L x a) := by
  obtain ⟨vF, uP, vD, uD, h⟩ := h
  obtain ⟨h1, h2, h3⟩ := h.fresh hb hx ha
  exact ⟨⟨_, _, _, _, h1⟩, h2, h3⟩
/-- A new row of the call's own, its block the document's from now on. -/
theorem RDk.row {e : TypeId} {z m : Nat} {xs : List Value} (h : RDk w L rb s) (hb : Below w.heap.size w wx) (hr : wx.ownsRow w.heap.size e z x m xs) (ha : a ≠ 0) : RDk wx (relab L x a) rb s ∧ wx.ownsRow 0 e z x m xs ∧ Lb (relab L x a) x a ∧ Ex w wx L (relab L x a) := by
  obtain ⟨h1, h2, h3⟩ := h.fresh (x := x) hb (fun b hb => hr.lt b hb) ha
  exact ⟨h1, row_zeroq hr, h2, h3⟩
theorem changeD_any (k : Nat) (cc : FC) (y : List UInt8) (q : Nat) (X : Option Addr) (cx : Nat) (more : Int) (h : RDk w L rb s) (hk : k < s.files.length) (hfm : s.files.length ≤ 99999999) (hcm : (s.fl k).chs.length ≤ 99999999) (hy : y = fdo (s.fl k).seen cc) (hm : more = growC cc) (hq : y.length = q) (hx : w.ownsRow 0 5 1 (.slice X q cx) q (bv y) ∧ Lb L (.slice X q cx) 5) :
    Calls Try.prog 95 #[.pointer (some ⟨rb, 0, none⟩), .int .i64 k, .slice X q cx, .int .i64 more] w fun e w' => e = .returned (.tuple #[]) ∧ ∃ L', RDk w' L' rb { s with files := s.files.set k ⟨(s.fl k).safe, (s.fl k).chs ++ [cc]⟩ } ∧ Ex w w' L L' := by
  obtain ⟨vF, uP, vD, uD, h⟩ := h
  refine (changeR_any rb k L vF vD uP uD _ _ _ _ _ _ _ (vers (s.fl k)) (grow (s.fl k)) y q X cx more w h (ver_get hk).1 (ver_get hk).2 hq hx (by omega) (by rw [vers_len]; omega) (by simp [grow]; omega)).mono ?_
  rintro e w' ⟨h1, L', vF', uP', h2, h3⟩
  refine ⟨h1, L', ⟨vF', uP', vD, uD, ?_⟩, h3⟩
  rw [fileq_set, fileq_set, vers_snoc, grow_snoc, ← hy, ← hm]
  exact h2
theorem turnD_any (cc : DC) (l : List KE) (X : Option Addr) (cx : Nat) (h : RDk w L rb s) (hl : l = ddo s.seen cc) (hd : s.dchs.length ≤ 99999999) (hx : LnkM w L (.slice X l.length cx) l) :
    Calls Try.prog 94 #[.pointer (some ⟨rb, 0, none⟩), .slice X l.length cx] w fun e w' => e = .returned (.tuple #[]) ∧ ∃ L', RDk w' L' rb { s with dchs := s.dchs ++ [cc] } ∧ Ex w w' L L' := by
  obtain ⟨vF, uP, vD, uD, h⟩ := h
  refine (turnR_any rb L vF vD uP uD _ _ _ _ _ _ _ l X cx w h hx (by rw [dirs_len]; omega)).mono ?_
  rintro e w' ⟨h1, L', vD', uD', h2, h3⟩
  refine ⟨h1, L', ⟨vF, uP, vD', uD', ?_⟩, h3⟩
  rw [dirsL_snoc (s := s) (s' := { s with dchs := s.dchs ++ [cc] }) rfl rfl, ← hl]
  exact h2
theorem Out.ex (h : Out w (fun b => L b ≠ 0) A bs) (hex : Ex w w' L L') : Out w' (fun b => L' b ≠ 0) A bs := by
  refine ⟨fun j u hj => ?_, fun ad e hne hS => ?_⟩
  · obtain ⟨ad, e, hb, hcl⟩ := h.1 j u hj
    have hne : bs ≠ [] := fun e => by subst e; simp [bv] at hj
    refine ⟨ad, e, Nat.lt_of_lt_of_le hb hex.chg.size, ?_⟩
    rw [← hcl]
    exact cell_heap (by rw [add_block]; exact hex.chg.block _ hb (h.2 ad e hne))
  · obtain ⟨x, r, rfl⟩ : ∃ x r, bs = x :: r := by cases bs; exact absurd rfl hne; exact ⟨_, _, rfl⟩
    obtain ⟨ad', e', hb, _⟩ := h.1 0 _ rfl
    rw [e] at e'
    injection e' with e'
    subst e'
    exact h.2 ad e hne (by
      show L ad.block ≠ 0
      intro h0
      exact hS (hex.offb h0 hb))
/-- In the midst of an operation: the disk, and the operation's own block. -/
structure MidR (w0 w : World) (L0 L : Nat → Nat) (rb ab : Nat) (t : TypeId) (cells : Array Value) (s : Dk) : Prop where
  rd : RDk w L rb s
  bx : Box w ab t cells
  off : L ab = 0
  ex : Ex w0 w L0 L
section
variable {ab : Nat} {t : TypeId} {cells : Array Value}
theorem MidR.step (h : MidR w0 w L0 L rb ab t cells s) (h1 : RDk w' L' rb s') (hex : Ex w w' L L') : MidR w0 w' L0 L' rb ab t cells s' :=
  ⟨h1, h.bx.chg hex.chg fun e => e h.off, hex.offb h.off h.bx.lt, h.ex.trans hex⟩
theorem MidR.next (h : MidR w0 w L0 L rb ab t cells s) (hb : Below w.heap.size w w') : MidR w0 w' L0 L rb ab t cells s := h.step (h.rd.next hb) (Ex.below hb L)
end
/-! Each operation, by its refusal. -/
variable {nm nt : ByteArray} {y : Int}
theorem ref_dead (h : s.dead = true) : createE nm s = 34 ∧ createS nm s = s ∧ appendE nm bs s = 34 ∧ appendS nm bs s = s ∧ truncE nm y s = 34 ∧ truncS nm y s = s ∧ syncE nm s = 34 ∧ syncS nm s = s ∧ syncDirE s = 34 ∧ syncDirS s = s ∧ renameE nm nt s = 34 ∧ renameS nm nt s = s ∧ removeE nm s = 34 ∧ removeS nm s = s := by
  have h0 : ∀ m, atE m s = 34 := fun m => by unfold atE; rw [h]; rfl
  simp [createE, createS, appendE, appendS, truncE, truncS, syncE, syncS, syncDirE, syncDirS, renameE, renameS, removeE, removeS, h0, h]
theorem at_live (h : s.dead = false) : atE nm s = if goodN nm = false then 30 else if getL nm s.seen = none then 31 else 0 := by
  unfold atE
  rw [h]
  rfl
theorem ref1 (h : s.dead = false) (he : refE 1 nm nt y bs s ≠ 0) : createE nm s = refE 1 nm nt y bs s ∧ createS nm s = s := by
  unfold refE at *
  unfold createE createS
  rw [at_live h]
  cases hg : goodN nm <;> cases hs : getL nm s.seen <;> simp_all
theorem ref2 (h : s.dead = false) (he : refE 2 nm nt y bs s ≠ 0) : appendE nm bs s = refE 2 nm nt y bs s ∧ appendS nm bs s = s := by
  unfold refE at *
  unfold appendE appendS
  rw [at_live h]
  cases hg : goodN nm <;> cases hs : getL nm s.seen <;> simp_all
theorem ref3 (h : s.dead = false) (he : refE 3 nm nt y bs s ≠ 0) : truncE nm y s = refE 3 nm nt y bs s ∧ truncS nm y s = s := by
  unfold refE at *
  unfold truncE truncS
  rw [at_live h]
  cases hg : goodN nm <;> cases hs : getL nm s.seen <;> try (simp_all; done)
  by_cases hy : y < 0 ∨ ((s.fl (s.num nm)).seen.length : Int) < y
  · simp [hy]
  · exfalso
    simp [hg, hs, hy] at he
theorem ref4 (h : s.dead = false) (he : refE 4 nm nt y bs s ≠ 0) : syncE nm s = refE 4 nm nt y bs s ∧ syncS nm s = s := by
  unfold refE at *
  unfold syncE syncS
  rw [at_live h]
  cases hg : goodN nm <;> cases hs : getL nm s.seen <;> simp_all
theorem ref6 (h : s.dead = false) (he : refE 6 nm nt y bs s ≠ 0) : renameE nm nt s = refE 6 nm nt y bs s ∧ renameS nm nt s = s := by
  unfold refE at *
  unfold renameE renameS
  rw [at_live h, h]
  cases hg : goodN nm <;> cases hg2 : goodN nt <;> cases hs : getL nm s.seen <;> by_cases hn : nm = nt <;> simp_all
theorem ref7 (h : s.dead = false) (he : refE 7 nm nt y bs s ≠ 0) : removeE nm s = refE 7 nm nt y bs s ∧ removeS nm s = s := by
  unfold refE at *
  unfold removeE removeS
  rw [at_live h]
  cases hg : goodN nm <;> cases hs : getL nm s.seen <;> simp_all
theorem ok1 (h : s.dead = false) (he : refE 1 nm nt y bs s = 0) : getL nm s.seen = none ∧ s.seen.length < 65536 ∧ createE nm s = spendE s ∧ createS nm s = if s.fuse = 0 then spendS s else { spendS s with files := s.files ++ [Fl.new], dchs := s.dchs ++ [.inl (nm, s.files.length)] } := by
  unfold refE at *
  unfold createE createS
  rw [at_live h]
  cases hg : goodN nm <;> cases hs : getL nm s.seen <;> by_cases hf : 65536 ≤ s.seen.length <;> try (simp_all; done)
  have hf2 : s.seen.length < 65536 := by omega
  simp [hf, hf2]
theorem ok2 (h : s.dead = false) (he : refE 2 nm nt y bs s = 0) : ∃ k, getL nm s.seen = some k ∧ appendE nm bs s = spendE s ∧ appendS nm bs s = if s.fuse = 0 then spendS s else { (spendS s).addC k (.inl bs) with used := s.used + bs.length } := by
  unfold refE at *
  unfold appendE appendS
  rw [at_live h]
  cases hg : goodN nm <;> cases hs : getL nm s.seen <;> try (simp_all; done)
  by_cases hy : 0 < bs.length ∧ s.quota - s.used < bs.length
  · exfalso
    simp [hg, hs, hy] at he
  · exact ⟨_, rfl, by simp [hy], by simp [hy, Dk.num, hs]⟩
theorem ok3 (h : s.dead = false) (he : refE 3 nm nt y bs s = 0) : ∃ k, getL nm s.seen = some k ∧ 0 ≤ y ∧ y ≤ (s.fl k).seen.length ∧ truncE nm y s = spendE s ∧ truncS nm y s = if s.fuse = 0 then spendS s else { (spendS s).addC k (.inr y.toNat) with used := s.used - ((s.fl k).seen.length - y) } := by
  unfold refE at *
  unfold truncE truncS
  rw [at_live h]
  cases hg : goodN nm <;> cases hs : getL nm s.seen <;> try (simp_all; done)
  rename_i k
  have hnum := getL_num hs
  by_cases hy : y < 0 ∨ ((s.fl (s.num nm)).seen.length : Int) < y
  · exfalso
    simp [hg, hs, hy] at he
  · exact ⟨k, rfl, by omega, by rw [hnum] at hy; omega, by simp [hy], by rw [hnum] at hy; simp [hnum, hy]⟩
theorem ok4 (h : s.dead = false) (he : refE 4 nm nt y bs s = 0) : ∃ k, getL nm s.seen = some k ∧ syncE nm s = spendE s ∧ syncS nm s = if s.fuse = 0 then spendS s else (spendS s).setF k ⟨(s.fl k).seen, []⟩ := by
  unfold refE at *
  unfold syncE syncS
  rw [at_live h]
  cases hg : goodN nm <;> cases hs : getL nm s.seen <;> try (simp_all; done)
  exact ⟨_, rfl, by simp, by simp [Dk.num, hs]⟩
theorem ok6 (h : s.dead = false) (he : refE 6 nm nt y bs s = 0) : ∃ k, getL nm s.seen = some k ∧ nm ≠ nt ∧ renameE nm nt s = spendE s ∧ renameS nm nt s = if s.fuse = 0 then spendS s else { spendS s with dchs := s.dchs ++ [.inr (.inl (nm, nt))], used := s.used - lenOf s nt } := by
  unfold refE at *
  unfold renameE renameS
  rw [at_live h, h]
  cases hg : goodN nm <;> cases hg2 : goodN nt <;> cases hs : getL nm s.seen <;> by_cases hn : nm = nt <;> simp_all
theorem ok7 (h : s.dead = false) (he : refE 7 nm nt y bs s = 0) : ∃ k, getL nm s.seen = some k ∧ removeE nm s = spendE s ∧ removeS nm s = if s.fuse = 0 then spendS s else { spendS s with dchs := s.dchs ++ [.inr (.inr nm)], used := s.used - lenOf s nm } := by
  unfold refE at *
  unfold removeE removeS
  rw [at_live h]
  cases hg : goodN nm <;> cases hs : getL nm s.seen <;> try (simp_all; done)
theorem infoq_inode : (Try.prog.info? 103).map (fun i => (i.zero, i.size, i.bytes)) = some (some (.agg #[.slice none 0 0, .slice none 0 0]), 2, 48) := by kernel_rfl
theorem seen_lenq {s : Dk} {N : Nat} (h : s.Inv N) : s.seen.length ≤ N := by
  have h1 := fold_len s.dchs s.safe
  have h2 := h.sz.d
  have : s.seen.length = (s.dchs.foldl ddo s.safe).length := rfl
  omega
theorem leftP_lenq (n : ByteArray) (l : List KE) : (leftP n l).length ≤ l.length := List.length_filter_le _ _
end
end Go.Proofs.Ytebeefkibbbkdaa
/- chronicleref3: Size, Read. -/
namespace Go.Proofs.Ytebeefkibbbkdaa
open Go.RowKit Go.Maps

theorem run_tailq (W : World) (b : Option Addr) (len cap k : Nat) (hk : k ≤ len) :
    (Instr.slice 22 (.slice b len cap) (some (.int .i64 (k : Int))) none none).run Try.prog W = .ok (.slice (tailA b cap k) (len - k) (cap - k)) W := by
  have ht : Try.prog.underlying 22 = some (.slice 5) := Try.underlying22
  have he : Try.prog.elem 22 = 5 := by simp [Program.elem, ht]
  have ht' : Try.prog.underlying 22 = some (.slice (Try.prog.elem 22)) := by rw [he]; exact ht
  rw [run_slice_l W _ _ _ _ ht' .i64 _ (by omega) (by omega), he, Try.sizeOf5]
  simp [Result.andThen, sliced, tailA]
theorem run_takeq (W : World) (b : Option Addr) (len cap m : Nat) (hm : m ≤ cap) :
    (Instr.slice 22 (.slice b len cap) none (some (.int .i64 (m : Int))) none).run Try.prog W = .ok (.slice b m cap) W := by
  have ht : Try.prog.underlying 22 = some (.slice 5) := Try.underlying22
  have he : Try.prog.elem 22 = 5 := by simp [Program.elem, ht]
  have ht' : Try.prog.underlying 22 = some (.slice (Try.prog.elem 22)) := by rw [he]; exact ht
  rw [run_slice_h W _ _ _ _ ht' .i64 _ (by omega) (by omega), he, Try.sizeOf5]
  simp [Result.andThen, sliced]
  intro _
  cases b with
  | none => rfl
  | some ad => simp [Addr.add]
set_option maxRecDepth 100000 in
set_option maxHeartbeats 4000000 in
theorem sizeR_any (rb : Nat) (L : Nat → Nat) (s : Dk) (N : Nat) (nm : ByteArray) (w : World) (h : RDk w L rb s) (hi : s.Inv N) (hN : N ≤ 9999999) (hfm : s.files.length ≤ 9999999) (hz : nm.size ≤ maxLen) :
    Calls Try.prog 99 #[.pointer (some ⟨rb, 0, none⟩), .string nm] w fun e w' => e = .returned (.tuple #[.int .i64 (sizeV nm s), .int .i64 (atE nm s)]) ∧ Below w.heap.size w w' := by
  obtain ⟨vF, vD, hbx⟩ := h.box
  have hdd := hbx.cell 4
  have H := Lib.hid (And.intro h (And.intro hi (And.intro hN (And.intro hfm hz))))
  clear h hi hN hfm hz hbx
  cases hd : s.dead with
  | true =>
    have HE := Lib.hid (show sizeV nm s = 0 ∧ atE nm s = 34 by simp [sizeV, atE, hd])
    have hdd2 : w.cell? ⟨rb, 4, none⟩ = some (.bool true) := by rw [hdd]; exact congrArg (fun b => some (Value.bool b)) hd
    clear hdd hd
    go_enter Try.func99, Try.ntmps99
    go_wp2
    go_ret2
    rw [HE.out.1, HE.out.2]
    exact ⟨rfl, Below.refl _ _⟩
  | false =>
    have hdd2 : w.cell? ⟨rb, 4, none⟩ = some (.bool false) := by rw [hdd]; exact congrArg (fun b => some (Value.bool b)) hd
    clear hdd
    cases hg : goodN nm with
    | false =>
      have HE := Lib.hid (show sizeV nm s = 0 ∧ atE nm s = 30 by simp [sizeV, atE, hd, hg])
      clear hd
      go_enter Try.func99, Try.ntmps99
      go_wp2_with (first
        | (go_at_call 46
           refine (nameR3_any nm _ H.out.2.2.2.2).mono ?_
           rintro e w1 ⟨rfl, hb1⟩
           rw [hg]
           have X1 := Lib.hid hb1
           clear hb1))
      go_ret2
      rw [HE.out.1, HE.out.2]
      exact ⟨rfl, X1.out⟩
    | true =>
      cases hget : getL nm s.seen with
      | none =>
        have HE := Lib.hid (show sizeV nm s = 0 ∧ atE nm s = 31 by simp [sizeV, atE, hd, hg, hget])
        have HL := Lib.hid (leadW_no H.out.2.1.sorted hget)
        clear hd hget
        go_enter Try.func99, Try.ntmps99
        go_wp2_with (first
          | (go_at_call 46
             refine (nameR3_any nm _ H.out.2.2.2.2).mono ?_
             rintro e w1 ⟨rfl, hb1⟩
             rw [hg]
             have X1 := Lib.hid hb1
             clear hb1)
          | (go_at_call 92
             refine (findD_any nm (H.out.1.next X1.out) H.out.2.1 (by have := H.out.2.2.1; omega)).mono ?_
             rintro e w2 ⟨rfl, k2, hw2⟩
             rw [HL.out]
             have X2 := Lib.hid (show Below w.heap.size w w2 by rw [hw2]; exact below_drewN X1.out k2)
             clear hw2))
        go_ret2
        rw [HE.out.1, HE.out.2]
        exact ⟨rfl, X2.out⟩
      | some f =>
        have HE := Lib.hid (show sizeV nm s = ((s.fl f).seen.length : Nat) ∧ atE nm s = 0 by simp [sizeV, atE, hd, hg, hget, Dk.num])
        have HL := Lib.hid (leadW_some H.out.2.1.sorted hget)
        have HF := Lib.hid (H.out.2.1.seen_ids _ ((get_mem H.out.2.1.sorted).1 hget))
        have hf0 : (0 : Int) ≤ f := by omega
        have hfn : ¬ (f : Int) < 0 := by omega
        clear hd hget
        go_enter Try.func99, Try.ntmps99
        go_wp2_with (first
          | (go_at_call 46
             refine (nameR3_any nm _ H.out.2.2.2.2).mono ?_
             rintro e w1 ⟨rfl, hb1⟩
             rw [hg]
             have X1 := Lib.hid hb1
             clear hb1)
          | (go_at_call 92
             refine (findD_any nm (H.out.1.next X1.out) H.out.2.1 (by have := H.out.2.2.1; omega)).mono ?_
             rintro e w2 ⟨rfl, k2, hw2⟩
             rw [HL.out]
             have X2 := Lib.hid (show Below w.heap.size w w2 by rw [hw2]; exact below_drewN X1.out k2)
             clear hw2)
          | (go_at_call 86
             refine (bytesD_any f (H.out.1.next X2.out) H.out.2.1 (by have := H.out.2.2.1; omega) HF.out (by have := H.out.2.2.2.1; omega)).mono ?_
             rintro e w3 ⟨x3, c3, rfl, _, _, k3, hw3⟩
             obtain ⟨m3, hm3⟩ : ∃ m3, (s.fl f).seen.length = m3 := ⟨_, rfl⟩
             rw [hm3]
             have HM := Lib.hid hm3
             have X3 := Lib.hid (show Below w.heap.size w w3 by rw [hw3]; exact below_drewN X2.out k3)
             clear hw3 hm3))
        go_ret2
        rw [HE.out.1, HE.out.2, HM.out]
        exact ⟨rfl, X3.out⟩
set_option maxRecDepth 100000 in
set_option maxHeartbeats 8000000 in
theorem readR_any (rb : Nat) (L : Nat → Nat) (s : Dk) (N : Nat) (nm : ByteArray) (x y : Int) (w : World) (h : RDk w L rb s) (hi : s.Inv N) (hN : N ≤ 9999999) (hfm : s.files.length ≤ 9999999) (hz : nm.size ≤ maxLen) :
    Calls Try.prog 98 #[.pointer (some ⟨rb, 0, none⟩), .string nm, .int .i64 x, .int .i64 y] w fun e w' => ∃ b cap, e = .returned (.tuple #[.slice b (readV nm x y s).length cap, .int .i64 (readE nm x y s)]) ∧ w'.ownsRow w.heap.size 5 1 (.slice b (readV nm x y s).length cap) (readV nm x y s).length (bv (readV nm x y s)) ∧ Below w.heap.size w w' := by
  have H := Lib.hid (And.intro h (And.intro hi (And.intro hN (And.intro hfm hz))))
  clear h hi hN hfm hz
  by_cases h0 : atE nm s = 0
  case neg =>
    obtain ⟨sv, hsv⟩ : ∃ sv, sizeV nm s = sv := ⟨_, rfl⟩
    obtain ⟨er, her⟩ : ∃ er, atE nm s = er := ⟨_, rfl⟩
    have HE := Lib.hid (show readE nm x y s = er ∧ readV nm x y s = [] from ⟨(if_pos h0).trans her, if_pos (by rw [show readE nm x y s = atE nm s from if_pos h0]; exact h0)⟩)
    have HS := Lib.hid (And.intro hsv her)
    rw [her] at h0
    have hnb : (er == 0) = false := by simpa using h0
    clear hsv her
    go_enter Try.func98, Try.ntmps98
    go_wp2_with (first
      | (go_at_call 99
         refine (sizeR_any rb L s N nm _ H.out.1 H.out.2.1 H.out.2.2.1 H.out.2.2.2.1 H.out.2.2.2.2).mono ?_
         rintro e w1 ⟨rfl, hb1⟩
         rw [HS.out.1, HS.out.2]
         have X1 := Lib.hid hb1
         clear hb1))
    go_ret2
    rw [HE.out.1, HE.out.2]
    exact ⟨none, 0, rfl, nil_own _ _ _ _, X1.out⟩
  case pos =>
    obtain ⟨hd, hg, f, hget⟩ := atE_zero.1 h0
    obtain ⟨q, hq⟩ : ∃ q, (s.fl f).seen.length = q := ⟨_, rfl⟩
    have hqm : q ≤ 1073741824 := by
      have h1 := H.out.2.1.len_le hget
      have h2 := H.out.2.1.ub
      omega
    have HS := Lib.hid (And.intro (show sizeV nm s = (q : Nat) by rw [← hq]; simp [sizeV, h0, getL_num hget]) h0)
    have HE := Lib.hid (show readE nm x y s = (if x < 0 ∨ (q : Int) < x ∨ y < 0 then 3 else 0) by simp [readE, h0, getL_num hget, hq])
    have HV := Lib.hid (show ¬ (x < 0 ∨ (q : Int) < x ∨ y < 0) → readV nm x y s = ((s.fl f).seen.drop x.toNat).take y.toNat by intro hh; simp [readV, readE, h0, getL_num hget, hq, hh])
    have HV0 := Lib.hid (show (x < 0 ∨ (q : Int) < x ∨ y < 0) → readV nm x y s = [] by intro hh; simp [readV, readE, h0, getL_num hget, hq, hh])
    have HL := Lib.hid (leadW_some H.out.2.1.sorted hget)
    have HF := Lib.hid (H.out.2.1.seen_ids _ ((get_mem H.out.2.1.sorted).1 hget))
    have hf0 : (0 : Int) ≤ f := by omega
    have HQ := Lib.hid hq
    clear hd hg hget h0 hq
    by_cases hbad : x < 0 ∨ (q : Int) < x ∨ y < 0
    · have HE2 := Lib.hid (show readE nm x y s = 3 ∧ readV nm x y s = [] from ⟨by rw [HE.out, if_pos hbad], HV0.out hbad⟩)
      rcases (show x < 0 ∨ (¬ x < 0 ∧ (q : Int) < x) ∨ (¬ x < 0 ∧ ¬ (q : Int) < x ∧ y < 0) by omega) with h1 | ⟨h1, h2⟩ | ⟨h1, h2, h3⟩
      all_goals
        clear hbad
        go_enter Try.func98, Try.ntmps98
        go_wp2_with (first
          | (go_at_call 99
             refine (sizeR_any rb L s N nm _ H.out.1 H.out.2.1 H.out.2.2.1 H.out.2.2.2.1 H.out.2.2.2.2).mono ?_
             rintro e w1 ⟨rfl, hb1⟩
             rw [HS.out.1, HS.out.2]
             have X1 := Lib.hid hb1
             clear hb1))
        go_ret2
        rw [HE2.out.1, HE2.out.2]
        exact ⟨none, 0, rfl, nil_own _ _ _ _, X1.out⟩
    · have HE2 := Lib.hid (show readE nm x y s = 0 ∧ readV nm x y s = ((s.fl f).seen.drop x.toNat).take y.toNat from ⟨by rw [HE.out, if_neg hbad], HV.out hbad⟩)
      have h1 : ¬ x < 0 := fun h => hbad (.inl h)
      have h2 : ¬ (q : Int) < x := fun h => hbad (.inr (.inl h))
      have h3 : ¬ y < 0 := fun h => hbad (.inr (.inr h))
      clear hbad
      obtain ⟨xn, rfl⟩ : ∃ xn : Nat, x = xn := ⟨x.toNat, by omega⟩
      obtain ⟨yn, rfl⟩ : ∃ yn : Nat, y = yn := ⟨y.toNat, by omega⟩
      have hxq : xn ≤ q := by omega
      obtain ⟨m, hm⟩ : ∃ m, q - xn = m := ⟨_, rfl⟩
      have hlen := Lib.hid (show (((s.fl f).seen.drop xn).take yn).length = min yn m by rw [List.length_take, List.length_drop, HQ.out, hm])
      by_cases hyn : yn < m
      · have hyi : (yn : Int) < m := by omega
        have hym : yn ≤ 1073741824 := by omega
        have HM := Lib.hid (And.intro hm (show min yn m = yn by omega))
        clear hm
        go_enter Try.func98, Try.ntmps98
        go_wp2_with (first
          | (go_at_call 99
             refine (sizeR_any rb L s N nm _ H.out.1 H.out.2.1 H.out.2.2.1 H.out.2.2.2.1 H.out.2.2.2.2).mono ?_
             rintro e w1 ⟨rfl, hb1⟩
             rw [HS.out.1, HS.out.2]
             have X1 := Lib.hid hb1
             clear hb1)
          | (go_at_call 92
             refine (findD_any nm (H.out.1.next X1.out) H.out.2.1 (by have := H.out.2.2.1; omega)).mono ?_
             rintro e w2 ⟨rfl, k2, hw2⟩
             rw [HL.out]
             have X2 := Lib.hid (show Below w.heap.size w w2 by rw [hw2]; exact below_drewN X1.out k2)
             clear hw2)
          | (go_at_call 86
             refine (bytesD_any f (H.out.1.next X2.out) H.out.2.1 (by have := H.out.2.2.1; omega) HF.out (by have := H.out.2.2.2.1; omega)).mono ?_
             rintro e w3 ⟨b0, c0, rfl, hr3, _, k3, hw3⟩
             rw [HQ.out] at hr3 ⊢
             have hcp := row_cap hr3
             have hrt := fun W => run_tailq W b0 q c0 xn hxq
             have hm9 := HM.out.1
             have htk := fun W => run_takeq W (tailA b0 c0 xn) (q - xn) (c0 - xn) yn (by omega)
             clear hm9
             rw [HM.out.1] at hrt htk
             have hr4 : w3.ownsRow 0 5 1 (.slice b0 q c0) q (bv (s.fl f).seen) := by rw [hw3]; exact row_next hr3 (below_drewN (Below.refl _ _) k3)
             have X3 := Lib.hid (And.intro (show Below w.heap.size w w3 by rw [hw3]; exact below_drewN X2.out k3) (And.intro hr4 hcp))
             clear hw3 hr3 hr4 hcp)
          | (go_at_call 47
             refine (copiedR_any (tailA b0 c0 xn) yn (c0 - xn) (((s.fl f).seen.drop xn).take yn) _ (((row_rd X3.out.2.1).tail_ xn (by rw [HQ.out]; exact X3.out.2.2)).take_ yn) (by rw [hlen.out]; exact HM.out.2) (by omega)).mono ?_
             rintro e w4 ⟨b4, c4, rfl, hr4, hb4⟩
             have X4 := Lib.hid (And.intro hr4 hb4)
             clear hr4 hb4))
        go_ret2
        rw [HE2.out.1, HE2.out.2, Int.toNat_natCast, Int.toNat_natCast, hlen.out, HM.out.2]
        exact ⟨b4, c4, rfl, row_le X4.out.1 X3.out.1.size, bel_next X3.out.1 X4.out.2⟩
      · have hyi : ¬ (yn : Int) < m := by omega
        have hmm : m ≤ 1073741824 := by omega
        have HM := Lib.hid (And.intro hm (show min yn m = m by omega))
        clear hm
        go_enter Try.func98, Try.ntmps98
        go_wp2_with (first
          | (go_at_call 99
             refine (sizeR_any rb L s N nm _ H.out.1 H.out.2.1 H.out.2.2.1 H.out.2.2.2.1 H.out.2.2.2.2).mono ?_
             rintro e w1 ⟨rfl, hb1⟩
             rw [HS.out.1, HS.out.2]
             have X1 := Lib.hid hb1
             clear hb1)
          | (go_at_call 92
             refine (findD_any nm (H.out.1.next X1.out) H.out.2.1 (by have := H.out.2.2.1; omega)).mono ?_
             rintro e w2 ⟨rfl, k2, hw2⟩
             rw [HL.out]
             have X2 := Lib.hid (show Below w.heap.size w w2 by rw [hw2]; exact below_drewN X1.out k2)
             clear hw2)
          | (go_at_call 86
             refine (bytesD_any f (H.out.1.next X2.out) H.out.2.1 (by have := H.out.2.2.1; omega) HF.out (by have := H.out.2.2.2.1; omega)).mono ?_
             rintro e w3 ⟨b0, c0, rfl, hr3, _, k3, hw3⟩
             rw [HQ.out] at hr3 ⊢
             have hcp := row_cap hr3
             have hrt := fun W => run_tailq W b0 q c0 xn hxq
             rw [HM.out.1] at hrt
             have hr4 : w3.ownsRow 0 5 1 (.slice b0 q c0) q (bv (s.fl f).seen) := by rw [hw3]; exact row_next hr3 (below_drewN (Below.refl _ _) k3)
             have X3 := Lib.hid (And.intro (show Below w.heap.size w w3 by rw [hw3]; exact below_drewN X2.out k3) (And.intro hr4 hcp))
             clear hw3 hr3 hr4 hcp)
          | (go_at_call 47
             refine (copiedR_any (tailA b0 c0 xn) m (c0 - xn) (((s.fl f).seen.drop xn).take yn) _ (((row_rd X3.out.2.1).tail_ xn (by rw [HQ.out]; exact X3.out.2.2)).take_ yn) (by rw [hlen.out]; exact HM.out.2) (by omega)).mono ?_
             rintro e w4 ⟨b4, c4, rfl, hr4, hb4⟩
             have X4 := Lib.hid (And.intro hr4 hb4)
             clear hr4 hb4))
        go_ret2
        rw [HE2.out.1, HE2.out.2, Int.toNat_natCast, Int.toNat_natCast, hlen.out, HM.out.2]
        exact ⟨b4, c4, rfl, row_le X4.out.1 X3.out.1.size, bel_next X3.out.1 X4.out.2⟩
end Go.Proofs.Ytebeefkibbbkdaa
/- chronicleref3: List, Image. -/
namespace Go.Proofs.Ytebeefkibbbkdaa
open Go.RowKit Go.Maps

theorem info_str2 : (Try.prog.info? 9).map (fun i => (i.zero, i.size, i.bytes)) = some (some (.string ByteArray.empty), 1, 16) := by kernel_rfl
/-- What List tells. -/
def listE (s : Dk) : Int := if s.dead = true then 34 else 0
def listV (s : Dk) : List KE := if s.dead = true then [] else s.seen
def scell (p : KE) : List Value := [.string p.1]
theorem scell_map : ∀ (l : List KE), l.flatMap scell = l.map fun p => .string p.1
  | [] => rfl
  | p :: r => by rw [List.flatMap_cons, scell_map r]; rfl
set_option maxRecDepth 100000 in
set_option maxHeartbeats 4000000 in
theorem listR_any (rb : Nat) (L : Nat → Nat) (s : Dk) (N : Nat) (w : World) (h : RDk w L rb s) (hi : s.Inv N) (hN : N ≤ 9999999) :
    Calls Try.prog 101 #[.pointer (some ⟨rb, 0, none⟩)] w fun e w' => ∃ bb cap, e = .returned (.tuple #[.slice bb (listV s).length cap, .int .i64 (listE s)]) ∧ w'.ownsRow w.heap.size 9 1 (.slice bb (listV s).length cap) (listV s).length ((listV s).map fun p => .string p.1) ∧ Below w.heap.size w w' := by
  obtain ⟨i1, hi1, hz1, hs1, hy1⟩ := info_parts info_str2
  obtain ⟨vF, vD, hbx⟩ := h.box
  have hdd := hbx.cell 4
  obtain ⟨m, hm⟩ : ∃ m, s.seen.length = m := ⟨_, rfl⟩
  have hmm : m ≤ 99999999 := by
    have h1 := fold_len s.dchs s.safe
    have h2 := hi.sz.d
    have h3 : s.seen.length = (s.dchs.foldl ddo s.safe).length := rfl
    omega
  have H := Lib.hid (And.intro h (And.intro hi (And.intro hN hm)))
  clear h hi hN hbx hm
  cases hd : s.dead with
  | true =>
    have HE := Lib.hid (show listE s = 34 ∧ listV s = [] by simp [listE, listV, hd])
    have hdd2 : w.cell? ⟨rb, 4, none⟩ = some (.bool true) := by rw [hdd]; exact congrArg (fun b => some (Value.bool b)) hd
    clear hdd hd
    go_enter Try.func101, Try.ntmps101
    go_wp2
    go_ret2
    rw [HE.out.1, HE.out.2]
    exact ⟨none, 0, rfl, nil_own _ _ _ _, Below.refl _ _⟩
  | false =>
    have HE := Lib.hid (show listE s = 0 ∧ listV s = s.seen by simp [listE, listV, hd])
    have hdd2 : w.cell? ⟨rb, 4, none⟩ = some (.bool false) := by rw [hdd]; exact congrArg (fun b => some (Value.bool b)) hd
    clear hdd hd
    go_enter Try.func101, Try.ntmps101
    go_wp2_with (first
      | (go_at_call 85
         refine (seenD_any H.out.1 (H.out.2.1.dl (by have := H.out.2.2.1; omega))).mono ?_
         rintro e w1 ⟨x, cx, rfl, hN, k1, hw1⟩
         have hb1 : Below w.heap.size w w1 := by rw [hw1]; exact below_drewN (Below.refl _ _) k1
         have HN := Lib.hid (And.intro (show RdK w1 w1.heap.size x s.seen from rdK_own (row_next hN.1 hb1)) hb1)
         rw [H.out.2.2.2]
         clear hN hw1 hb1))
    go_loopw [4, 6] (fun v4 v6 wr => ∃ j : Nat, j ≤ m ∧ v6 = .int .i64 j ∧ wr.ownsRow w1.heap.size 9 1 v4 j ((s.seen.take j).map fun p => .string p.1) ∧ Below w1.heap.size w1 wr) (fun _ v6 _ => m - (intOf v6).toNat)
    case atStart => exact ⟨0, Nat.zero_le _, rfl, nil_own _ _ _ _, Below.refl _ _⟩
    case round =>
      obtain ⟨j, hj, rfl, hr, hb⟩ := hrel
      obtain ⟨rb4, rc4, rfl⟩ := row_slice hr
      by_cases hlt : j < m
      · have hj0 : (0 : Int) ≤ j := by omega
        have hj1 : (j : Int) < m := by omega
        have hjl : j < s.seen.length := by rw [H.out.2.2.2]; exact hlt
        obtain ⟨p, hp⟩ : ∃ p, s.seen[j]? = some p := ⟨_, List.getElem?_eq_getElem hjl⟩
        obtain ⟨ad, rfl, _, d0, d1⟩ := (HN.out.1.below hb) j p hp
        have HR := Lib.hid (And.intro hr (And.intro hb (show (s.seen.take (j + 1)).map (fun p : KE => Value.string p.1) = (s.seen.take j).map (fun p => .string p.1) ++ [.string p.1] by rw [List.take_add_one, hp]; simp)))
        clear hp hjl hr hb d1
        go_wp2_with (first
          | (at_builtin
             refine wpList_app _ rfl (.tmp 19) (.tmp 25) _ rfl w1.heap.size 9 i1 _ 1 16 Try.underlying84 hi1 hz1 hs1 hy1 rfl (by omega) (.slice rb4 j rc4) j _ rfl (HR.out.1.alloc _) _ _ 1 1 [.string p.1] rfl rfl (rd_new _ _ _) (by simp [Value.oneCell']) (by unfold maxLen; omega) (by omega) (by have := HR.out.2.1.size; simp <;> omega) ?_
             intro v' w8 hown hg8 _
             have hb8 := (HR.out.2.1.alloc HR.out.2.1.size (.cells #[.string p.1] 9)).grown hg8 (by have := HR.out.2.1.size; simp <;> omega) (fun j e => (HR.out.1.lt j e).1)
             have H8 := Lib.hid (And.intro hown hb8)
             clear hown hg8 hb8))
        go_roundw
        case rel =>
          refine ⟨j + 1, by omega, by go_num, ?_, H8.out.2⟩
          rw [HR.out.2.2]
          exact H8.out.1
        case measure => simp [intOf]; omega
      · have hjm : m = j := by omega
        subst hjm
        have hlk : s.seen.take m = s.seen := by rw [← H.out.2.2.2]; exact List.take_length
        rw [hlk] at hr
        have HR := Lib.hid (And.intro hr hb)
        clear hr hb hlk
        go_wp2
        go_ret2
        rw [HE.out.1, HE.out.2, H.out.2.2.2]
        exact ⟨_, _, rfl, row_le HR.out.1 HN.out.2.size, bel_next HN.out.2 HR.out.2⟩
set_option maxRecDepth 100000 in
set_option maxHeartbeats 8000000 in
theorem imageR_any (rb : Nat) (L : Nat → Nat) (s : Dk) (N : Nat) (w : World) (h : RDk w L rb s) (hi : s.Inv N) (hN : N ≤ 9999999) (hfm : s.files.length ≤ 9999999) :
    Calls Try.prog 58 #[.pointer (some ⟨rb, 0, none⟩)] w fun e w' => ∃ us b cap, e = .returned (.slice b (imageL s).length cap) ∧ FLs w' w.heap.size (imageL s) us (.slice b (imageL s).length cap) ∧ Below w.heap.size w w' := by
  obtain ⟨i1, hi1, hz1, hs1, hy1⟩ := info_parts info_file
  obtain ⟨k, hk⟩ : ∃ k, s.seen.length = k := ⟨_, rfl⟩
  have hkm : k ≤ 99999999 := by
    have h1 := fold_len s.dchs s.safe
    have h2 := hi.sz.d
    have h3 : s.seen.length = (s.dchs.foldl ddo s.safe).length := rfl
    omega
  have H := Lib.hid (And.intro h (And.intro hi (And.intro hN (And.intro hfm hk))))
  clear h hi hN hfm hk
  go_enter Try.func58, Try.ntmps58
  go_wp2_with (first
    | (go_at_call 85
       refine (seenD_any H.out.1 (H.out.2.1.dl (by have := H.out.2.2.1; omega))).mono ?_
       rintro e w5 ⟨x, cx, rfl, hN, k1, hw1⟩
       have hb1 : Below w.heap.size w w5 := by rw [hw1]; exact below_drewN (Below.refl _ _) k1
       have H5 := Lib.hid (And.intro (show RdK w5 w5.heap.size x s.seen from rdK_own (row_next hN.1 hb1)) hb1)
       rw [H.out.2.2.2.2]
       clear hN hw1 hb1))
  go_loopw [3, 5] (fun v3 v5 wx => ∃ (j : Nat) (us : List Value), j ≤ k ∧ v5 = .int .i64 j ∧ FLs wx w5.heap.size ((imageL s).take j) us v3 ∧ Below w5.heap.size w5 wx) (fun _ i _ => k - (intOf i).toNat)
  case atStart => exact ⟨0, [], Nat.zero_le _, rfl, FLs.nil _ _, Below.refl _ _⟩
  case round =>
    obtain ⟨j, us, hj, rfl, hF, hC⟩ := hrel
    obtain ⟨fb10, fc10, rfl⟩ := row_slice hF.2.1
    have h5z := H5.out.2.size
    have hCz := hC.size
    by_cases hlt : j < k
    · have hjq : j < s.seen.length := by rw [H.out.2.2.2.2]; exact hlt
      obtain ⟨q, hq⟩ : ∃ q, s.seen[j] = q := ⟨_, rfl⟩
      have hqm : q ∈ s.seen := hq ▸ List.getElem_mem hjq
      obtain ⟨ad, rfl, _, d0, d1⟩ := (H5.out.1.below hC) j q (by rw [List.getElem?_eq_getElem hjq, hq])
      have hbw : Below w.heap.size w wr := H5.out.2.trans (hC.mono h5z)
      have hkf := H.out.2.1.seen_ids q hqm
      have hj0 : (0 : Int) ≤ j := by omega
      have hj1 : (j : Int) < k := by omega
      obtain ⟨pp, hpp⟩ : ∃ pp, (imageL s).take j = pp := ⟨_, rfl⟩
      have hsn : (imageL s).take (j + 1) = pp ++ [(q.1, (s.fl q.2).seen)] := by
        rw [← hpp, List.take_succ_eq_append_getElem (by simp [imageL]; exact hjq)]
        simp [imageL, hq]
      rw [hpp] at hF ⊢
      obtain ⟨gl, hgl⟩ : ∃ gl, pp.length = gl := ⟨_, rfl⟩
      have hglj : gl = j := by rw [← hgl, ← hpp, List.length_take]; simp [imageL]; omega
      obtain ⟨tl, htl⟩ : ∃ tl, (s.fl q.2).seen.length = tl := ⟨_, rfl⟩
      have htlm : tl ≤ 1073741824 := by
        have h1 := H.out.2.1.us
        have h2 := H.out.2.1.ub
        have h3 := sum_ge (g := fun k => (s.fl k).seen.length) hqm
        have h4 : ((s.seen.map fun p => (s.fl p.2).seen.length).sum) = s.tot := rfl
        omega
      have HQ := Lib.hid (And.intro htl (And.intro hkf hbw))
      have HF2 := Lib.hid (And.intro hF (And.intro hC (And.intro h5z (And.intro hCz hsn))))
      have HGL := Lib.hid (And.intro hgl hglj)
      have hgl9 : gl ≤ 99999999 := by omega
      rw [hgl]
      have hd0 : Hid (∀ v, Below wr.heap.size wr v → v.cell? (ad.add (j * 2)) = some (.string q.1)) := fun v hv => cell_keptq d0 hv
      clear hF hC hq hqm hkf hbw hjq h5z hCz hgl hglj hsn hpp htl
      go_wp2_with (first
        | (go_at_call 86
           refine (bytesD_any q.2 (H.out.1.next HQ.out.2.2) H.out.2.1 (by have := H.out.2.2.1; omega) HQ.out.2.1 (by have := H.out.2.2.2.1; omega)).mono ?_
           rintro e w3 ⟨x3, c3, rfl, hr3, _, k3, hw3⟩
           rw [HQ.out.1] at hr3 ⊢
           have hb3 : Below wr.heap.size wr w3 := by rw [hw3]; exact below_drewN (Below.refl _ _) k3
           have X3 := Lib.hid (And.intro (row_next hr3 hb3) hb3)
           clear hw3 hr3 hb3)
        | (go_at_call 47
           refine (copiedR_any x3 tl c3 (s.fl q.2).seen _ (row_rd X3.out.1) HQ.out.1 (by omega)).mono ?_
           rintro e w6 ⟨b6, c6, rfl, hr6, hb6⟩
           have hb36 := X3.out.2.trans (hb6.mono X3.out.2.size)
           have hd6 := hd0.out w6 hb36
           have hA := image_add (n := q.1) HF2.out.1 HF2.out.2.1.size hb36 (row_le hr6 X3.out.2.size)
           have H6 := Lib.hid hA
           clear hr6 hb6 hA hb36 d0 d1)
        | (at_builtin
           refine wpList_app _ rfl (.tmp 23) (.tmp 31) _ rfl w5.heap.size 37 i1 _ 2 40 Try.underlying31 hi1 hz1 hs1 hy1 rfl (by omega) (.slice fb10 gl fc10) gl _ rfl (by have := H6.out.1.2.1; rw [HGL.out.1] at this; exact this) _ _ 1 1 [.string q.1, .slice b6 tl c6] rfl rfl (rd_new _ _ _) (by simp [Value.oneCell']) (by unfold maxLen; omega) (by omega) (by have := H6.out.2.2.2; simp; omega) ?_
           intro v' w8 hown hg8 hor
           have HG := Lib.hid (And.intro hown hg8)
           clear hown hg8 hor))
      go_roundw
      case rel =>
        have hst := image_step (pp := pp) (bs := (s.fl q.2).seen) HF2.out.2.1 HQ.out.1 H6.out.1 H6.out.2.1 H6.out.2.2.1 (by have := HG.out.1; rw [← HGL.out.1] at this; exact this) (by have := HG.out.2; rw [← HGL.out.1] at this; exact this)
        exact ⟨j + 1, us ++ [.slice b6 tl c6], by omega, by go_num, by rw [HF2.out.2.2.2.2]; exact hst⟩
      case measure => simp [intOf]; omega
    · obtain rfl : j = k := by omega
      have hlk : (imageL s).take j = imageL s := by rw [← H.out.2.2.2.2]; exact List.take_of_length_le (by simp [imageL])
      rw [hlk] at hF ⊢
      have HE := Lib.hid (And.intro hF (H5.out.2.trans (hC.mono h5z)))
      obtain ⟨gl, hgl⟩ : ∃ gl, (imageL s).length = gl := ⟨_, rfl⟩
      rw [hgl]
      have HGL := Lib.hid hgl
      clear hF hC hlk hgl
      go_wp2
      go_ret
      rw [HGL.out]
      have hF := HE.out.1
      rw [HGL.out] at hF
      exact ⟨us, _, _, rfl, hF.mono (by omega), HE.out.2⟩
end Go.Proofs.Ytebeefkibbbkdaa
