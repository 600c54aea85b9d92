import Derived.Test.YtnecafhakkjbpaaSml
import Derived.Deep.QuietTactic
import Derived.BigQuiet
/- chroniclelaw7's same, sameImage, file. -/
namespace Go.Proofs.Ytnecafhakkjbpaa
open Go.RowKit Go.Maps

set_option maxRecDepth 100000 in
set_option maxHeartbeats 4000000 in
/-- Two slices of bytes: are they alike? -/
theorem same7_any (A A' : Option Addr) (n c n' c' : Nat) (a b : List UInt8) (w : World) (hn : a.length = n) (hn' : b.length = n') (hA : Rd w w.heap.size A (bv a)) (hA' : Rd w w.heap.size A' (bv b)) (hmx : n ≤ 140737488351232) (hmx' : n' ≤ 140737488351232) :
    Calls Try.prog 13 #[.slice A n c, .slice A' n' c'] w fun e w' => e = .returned (.bool (decide (a = b))) ∧ ∃ k, w' = w.drewN k := by
  have Hn := Lib.hid (And.intro hn hn')
  have HA := Lib.hid (And.intro hA hA')
  clear hA hA'
  by_cases hnn : n = n'
  · subst hnn
    clear hn hn'
    go_enter Try.func13, Try.ntmps13
    go_wp2
    go_loopw [5] (fun i wr => ∃ (k m : Nat), k ≤ n ∧ i = .int .i64 k ∧ wr = w.drewN m ∧ a.take k = b.take k) (fun i _ => n - (intOf i).toNat)
    case atStart => exact ⟨0, 0, Nat.zero_le _, rfl, rfl, rfl⟩
    case round =>
      obtain ⟨k, m, hk, rfl, rfl, ht⟩ := hrel
      have Ht := Lib.hid ht
      clear ht
      by_cases hlt : k < n
      · have hk0 : (0 : Int) ≤ k := by omega
        have hk1 : (k : Int) < n := by omega
        have hka : k < a.length := by rw [Hn.out.1]; exact hlt
        have hkb : k < b.length := by rw [Hn.out.2]; exact hlt
        obtain ⟨ad, rfl, had, p0⟩ := HA.out.1 _ _ (bv_get hka)
        obtain ⟨ad', rfl, had', q0⟩ := HA.out.2 _ _ (bv_get hkb)
        have HTA := Lib.hid (List.take_succ_eq_append_getElem hka)
        have HTB := Lib.hid (List.take_succ_eq_append_getElem hkb)
        have HNE := Lib.hid (fun (h : a[k] ≠ b[k]) (e : a = b) => h (by subst e; rfl))
        generalize a[k] = x at p0 HTA HNE
        generalize b[k] = y at q0 HTB HNE
        clear hka hkb
        by_cases hxy : x = y
        · subst hxy
          go_wp2
          go_quiet (fail)
          go_wp2
          go_roundw
          case rel => exact ⟨k + 1, _, by omega, by go_num, by first | rfl | exact World.drewN_drewN .., by rw [HTA.out, HTB.out, Ht.out]⟩
          case measure => simp [intOf]; omega
        · have hne : ¬ (x.toNat : Int) = (y.toNat : Int) := fun e => hxy (UInt8.toNat_inj.1 (by omega))
          have HF := Lib.hid (HNE.out hxy)
          clear hxy
          go_wp2
          go_quiet (fail)
          go_wp2
          go_ret
          exact ⟨ret_bool (decide_eq_false HF.out).symm, _, by first | rfl | exact World.drewN_drewN ..⟩
      · go_wp2
        go_ret
        refine ⟨?_, m, rfl⟩
        have hk' : k = n := by omega
        have e : a = b := by
          have := Ht.out
          rwa [List.take_of_length_le (by rw [Hn.out.1]; omega), List.take_of_length_le (by rw [Hn.out.2]; omega)] at this
        exact ret_bool (decide_eq_true e).symm
  · have hne : ¬ (n : Int) = (n' : Int) := by omega
    have HF := Lib.hid (show ¬ a = b from fun e => hnn (by rw [← hn, ← hn', e]))
    clear hnn hn hn'
    go_enter Try.func13, Try.ntmps13
    go_wp2
    go_ret
    exact ⟨ret_bool (decide_eq_false HF.out).symm, 0, rfl⟩

theorem pair_ne7 {α β : Type} {l m : List (α × β)} {i : Nat} {p q : α × β} (hp : l[i]? = some p) (hq : m[i]? = some q) (h : ¬ p = q) : ¬ l = m := fun e => by
  subst e
  rw [hp] at hq
  injection hq with hq
  exact h hq
set_option maxRecDepth 100000 in
set_option maxHeartbeats 8000000 in
/-- Two images: are they alike? -/
theorem sameImage7_any (A A' : Option Addr) (n c n' c' : Nat) (a b : List (ByteArray × List UInt8)) (w : World) (hn : a.length = n) (hn' : b.length = n') (hA : IM w w.heap.size A a) (hA' : IM w w.heap.size A' b) (hmx : n ≤ 140737488351232) (hmx' : n' ≤ 140737488351232) (hba : ∀ p ∈ a, p.2.length ≤ 140737488351232) (hbb : ∀ p ∈ b, p.2.length ≤ 140737488351232) :
    Calls Try.prog 24 #[.slice A n c, .slice A' n' c'] w fun e w' => e = .returned (.bool (decide (a = b))) ∧ ∃ k, w' = w.drewN k := by
  have Hn := Lib.hid (And.intro (And.intro hn hn') (And.intro hba hbb))
  have HA := Lib.hid (And.intro hA hA')
  clear hA hA' hba hbb
  by_cases hnn : n = n'
  · subst hnn
    clear hn hn'
    go_enter Try.func24, Try.ntmps24
    go_wp2
    go_loopw [5] (fun i wr => ∃ (k m : Nat), k ≤ n ∧ i = .int .i64 k ∧ wr = w.drewN m ∧ a.take k = b.take k) (fun i _ => n - (intOf i).toNat)
    case atStart => exact ⟨0, 0, Nat.zero_le _, rfl, rfl, rfl⟩
    case round =>
      obtain ⟨k, m, hk, rfl, hw, ht⟩ := hrel
      have hia : IM wr wr.heap.size A a := by rw [hw]; exact HA.out.1.drewN m
      have hib : IM wr wr.heap.size A' b := by rw [hw]; exact HA.out.2.drewN m
      have Ht := Lib.hid (And.intro ht hw)
      have HI := Lib.hid (And.intro hia hib)
      clear ht hw hia hib
      by_cases hlt : k < n
      · have hk0 : (0 : Int) ≤ k := by omega
        have hk1 : (k : Int) < n := by omega
        have hka : k < a.length := by rw [Hn.out.1.1]; exact hlt
        have hkb : k < b.length := by rw [Hn.out.1.2]; exact hlt
        obtain ⟨p, hp⟩ : ∃ p, a[k] = p := ⟨_, rfl⟩
        obtain ⟨q, hq⟩ : ∃ q, b[k] = q := ⟨_, rfl⟩
        have hpa : a[k]? = some p := by rw [List.getElem?_eq_getElem hka, hp]
        have hqb : b[k]? = some q := by rw [List.getElem?_eq_getElem hkb, hq]
        obtain ⟨ad, x, cx, rfl, had, p0, p1, p2⟩ := HI.out.1 k _ hpa
        obtain ⟨ad', y, cy, rfl, had', q0, q1, q2⟩ := HI.out.2 k _ hqb
        have HTA := Lib.hid (show a.take (k + 1) = a.take k ++ [p] by rw [← hp]; exact List.take_succ_eq_append_getElem hka)
        have HTB := Lib.hid (show b.take (k + 1) = b.take k ++ [q] by rw [← hq]; exact List.take_succ_eq_append_getElem hkb)
        have HNE := Lib.hid (fun (h : ¬ p = q) => pair_ne7 hpa hqb h)
        have hl1 := Hn.out.2.1 p (List.mem_of_getElem? hpa)
        have hl2 := Hn.out.2.2 q (List.mem_of_getElem? hqb)
        obtain ⟨nm, pb⟩ := p
        obtain ⟨nm', qb⟩ := q
        simp only at p0 p1 p2 q0 q1 q2 hl1 hl2
        obtain ⟨lx, hlx⟩ : ∃ lx, pb.length = lx := ⟨_, rfl⟩
        obtain ⟨ly, hly⟩ : ∃ ly, qb.length = ly := ⟨_, rfl⟩
        rw [hlx] at p1 hl1
        rw [hly] at q1 hl2
        have HP := Lib.hid (And.intro p2 (And.intro q2 (And.intro hlx hly)))
        clear hka hkb hp hq hpa hqb p2 q2 hlx hly
        by_cases hxy : nm = nm'
        · subst hxy
          by_cases hbb : pb = qb
          · subst hbb
            go_wp2
            go_quiet ((go_at_call 13; exact Calls.quiet_of (same7_any x y lx cx ly cy pb pb _ HP.out.2.2.1 HP.out.2.2.2 (HP.out.1.next (below_drewN (Below.refl _ _) _)) (HP.out.2.1.next (below_drewN (Below.refl _ _) _)) hl1 hl2)))
            rw [show decide (pb = pb) = true from decide_eq_true rfl]
            go_wp2
            go_roundw
            case rel => exact ⟨k + 1, _, by omega, by go_num, by rw [Ht.out.2]; first | rfl | exact World.drewN_drewN .., by rw [HTA.out, HTB.out, Ht.out.1]⟩
            case measure => simp [intOf]; omega
          · have hdb := Lib.hid (show decide (pb = qb) = false from decide_eq_false hbb)
            have HF := Lib.hid (HNE.out fun e => hbb (by injection e))
            clear hbb
            go_wp2
            go_quiet ((go_at_call 13; exact Calls.quiet_of (same7_any x y lx cx ly cy pb qb _ HP.out.2.2.1 HP.out.2.2.2 (HP.out.1.next (below_drewN (Below.refl _ _) _)) (HP.out.2.1.next (below_drewN (Below.refl _ _) _)) hl1 hl2)))
            rw [hdb.out]
            go_wp2
            go_ret
            exact ⟨ret_bool (decide_eq_false HF.out).symm, _, by rw [Ht.out.2]; first | rfl | exact World.drewN_drewN ..⟩
        · have hne := key_ne hxy
          have HF := Lib.hid (HNE.out fun e => hxy (by injection e))
          clear hxy
          go_wp2
          go_quiet (fail)
          go_wp2
          go_ret
          exact ⟨ret_bool (decide_eq_false HF.out).symm, _, by rw [Ht.out.2]; first | rfl | exact World.drewN_drewN ..⟩
      · go_wp2
        go_ret
        refine ⟨?_, m, Ht.out.2⟩
        have hk' : k = n := by omega
        have e : a = b := by
          have := Ht.out.1
          rwa [List.take_of_length_le (by rw [Hn.out.1.1]; omega), List.take_of_length_le (by rw [Hn.out.1.2]; omega)] at this
        exact ret_bool (decide_eq_true e).symm
  · have hne : ¬ (n : Int) = (n' : Int) := by omega
    have HF := Lib.hid (show ¬ a = b from fun e => hnn (by rw [← hn, ← hn', e]))
    clear hnn hn hn'
    go_enter Try.func24, Try.ntmps24
    go_wp2
    go_ret
    exact ⟨ret_bool (decide_eq_false HF.out).symm, 0, rfl⟩

/-- The bytes of a name in an image. -/
def fileI (nm : ByteArray) (im : List (ByteArray × List UInt8)) : Option (List UInt8) := (im.find? fun p => decide (p.1 = nm)).map fun p => p.2
def FileR (w : World) (e : Ending) : Option (List UInt8) → Prop
  | some b => ∃ x c, e = .returned (.tuple #[.slice x b.length c, .bool true]) ∧ Rd w w.heap.size x (bv b)
  | none => e = .returned (.tuple #[.slice none 0 0, .bool false])
theorem fileI_take {nm : ByteArray} {im : List (ByteArray × List UInt8)} {k : Nat} {p : ByteArray × List UInt8} (hp : im[k]? = some p) (hpre : ∀ q ∈ im.take k, q.1 ≠ nm) (h : p.1 = nm) : fileI nm im = some p.2 := by
  have hk : k < im.length := (List.getElem?_eq_some_iff.1 hp).1
  have e : im = im.take k ++ p :: im.drop (k + 1) := by
    have h1 := List.take_append_drop k im
    rw [List.drop_eq_getElem_cons hk] at h1
    have h2 : im[k] = p := by rw [List.getElem?_eq_getElem hk] at hp; injection hp
    rw [h2] at h1
    exact h1.symm
  unfold fileI
  rw [e, List.find?_append]
  have hn : (im.take k).find? (fun p => decide (p.1 = nm)) = none := List.find?_eq_none.2 fun q hq => by simpa using hpre q hq
  rw [hn]
  simp [h]
theorem fileI_none {nm : ByteArray} {im : List (ByteArray × List UInt8)} (hpre : ∀ q ∈ im, q.1 ≠ nm) : fileI nm im = none := by
  unfold fileI
  have hn : im.find? (fun p => decide (p.1 = nm)) = none := List.find?_eq_none.2 fun q hq => by simpa using hpre q hq
  rw [hn]
  rfl
set_option maxRecDepth 100000 in
set_option maxHeartbeats 4000000 in
theorem file_any (A : Option Addr) (n c : Nat) (nm : ByteArray) (im : List (ByteArray × List UInt8)) (w : World) (hn : im.length = n) (hI : IM w w.heap.size A im) (hmx : n ≤ 999999999999) :
    Calls Try.prog 12 #[.slice A n c, .string nm] w fun e w' => FileR w e (fileI nm im) ∧ w' = w := by
  have H := Lib.hid (And.intro hn hI)
  clear hn hI
  go_enter Try.func12, Try.ntmps12
  go_wp2
  go_loopw [6] (fun v6 wr => ∃ k : Nat, k ≤ n ∧ v6 = .int .i64 k ∧ wr = w ∧ ∀ q ∈ im.take k, q.1 ≠ nm) (fun v6 _ => n - (intOf v6).toNat)
  case atStart => exact ⟨0, Nat.zero_le _, rfl, rfl, fun q hq => by simp at hq⟩
  case round =>
    obtain ⟨k, hk, rfl, hwr, hpre⟩ := hrel
    subst hwr
    by_cases hlt : k < n
    · have hk0 : (0 : Int) ≤ k := by omega
      have hk1 : (k : Int) < n := by omega
      obtain ⟨p, hp⟩ : ∃ p, im[k]? = some p := ⟨_, List.getElem?_eq_getElem (by rw [H.out.1]; exact hlt)⟩
      obtain ⟨a2, x, cx, rfl, _, d0, d1, hR⟩ := H.out.2 k p hp
      have HP := Lib.hid (And.intro hp (And.intro hpre hR))
      clear hp hpre hR
      by_cases hx : p.1 = nm
      · have HX := Lib.hid hx
        have hself : (p.1.toList == nm.toList) = true := by rw [hx]; simp
        clear hx
        go_wp2
        go_ret2
        rw [fileI_take HP.out.1 HP.out.2.1 HX.out]
        exact ⟨⟨_, _, rfl, HP.out.2.2⟩, rfl⟩
      · have hne := key_ne hx
        have HX := Lib.hid hx
        clear hx
        go_wp2
        go_roundw
        case rel =>
          refine ⟨k + 1, by omega, by go_num, trivial, fun q hq => ?_⟩
          rw [List.take_add_one, HP.out.1] at hq
          rcases List.mem_append.1 hq with h | h
          · exact HP.out.2.1 q h
          · simp at h
            subst h
            exact HX.out
        case measure => simp [intOf]; omega
    · have hkm : n = k := by omega
      subst hkm
      have HP := Lib.hid (show ∀ q ∈ im, q.1 ≠ nm by rw [← H.out.1, List.take_length] at hpre; exact hpre)
      clear hpre
      go_wp2
      go_ret2
      rw [fileI_none HP.out]
      exact ⟨rfl, rfl⟩
end Go.Proofs.Ytnecafhakkjbpaa
