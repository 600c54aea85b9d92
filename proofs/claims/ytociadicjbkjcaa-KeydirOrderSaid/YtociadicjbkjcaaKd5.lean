import Derived.Test.YtociadicjbkjcaaKd4
namespace Go.Proofs.Ytociadicjbkjcaa
open Go.RowKit Go.Maps

theorem sz64 {n : Nat} (h : n ≤ 64) : n ≤ maxLen := by unfold maxLen; omega
theorem cmp_is {s t : ByteArray} {w : World} {c : Int} (hs : s.size ≤ maxLen) (ht : t.size ≤ maxLen) (h : kc s t = c) :
    Calls Try.prog 41 #[.string s, .string t] w fun e w' => e = .returned (.int .i64 c) ∧ ∃ n, w' = w.drewN n := by
  subst h
  exact compare_any s t w hs ht
theorem KeysOk.parts {k : ByteArray} {e : En} {l r : List KE} (h : KeysOk (l ++ (k, e) :: r)) : KeysOk l ∧ KeysOk r ∧ 1 ≤ k.size ∧ k.size ≤ 64 :=
  ⟨fun x hx => h x (by simp [hx]), fun x hx => h x (by simp [hx]), h (k, e) (by simp)⟩
theorem get_less {k k0 : ByteArray} {e0 : En} {l r : List KE} (h : Sorted (l ++ (k0, e0) :: r)) (hk : kc k k0 = -1) : getL k (l ++ (k0, e0) :: r) = getL k l := by
  obtain ⟨h1, h2, h3, h4, _⟩ := h.parts
  cases hg : getL k l with
  | some e => exact (get_mem h).2 (by have := (get_mem h1).1 hg; simp [this])
  | none =>
    rw [get_none] at hg ⊢
    intro x hx
    simp only [List.mem_append, List.mem_cons] at hx
    rcases hx with hx | rfl | hx
    · exact hg x hx
    · exact fun e => by subst e; rw [kc_self] at hk; cases hk
    · intro e; subst e; have := kc_trans hk (h4 x hx); rw [kc_self] at this; cases this
theorem get_more {k k0 : ByteArray} {e0 : En} {l r : List KE} (h : Sorted (l ++ (k0, e0) :: r)) (hk : kc k k0 = 1) : getL k (l ++ (k0, e0) :: r) = getL k r := by
  obtain ⟨h1, h2, h3, h4, _⟩ := h.parts
  have hs := kc_swap k k0
  cases hg : getL k r with
  | some e => exact (get_mem h).2 (by have := (get_mem h2).1 hg; simp [this])
  | none =>
    rw [get_none] at hg ⊢
    intro x hx
    simp only [List.mem_append, List.mem_cons] at hx
    rcases hx with hx | rfl | hx
    · intro e; subst e; have := kc_trans (h3 x hx) (show kc k0 x.1 = -1 by omega); rw [kc_self] at this; cases this
    · exact fun e => by subst e; rw [kc_self] at hk; cases hk
    · exact hg x hx
theorem get_same {k : ByteArray} {e0 : En} {l r : List KE} (h : Sorted (l ++ (k, e0) :: r)) : getL k (l ++ (k, e0) :: r) = some e0 := (get_mem h).2 (by simp)

/-- What find answers. -/
def FD (xs : List KE) (key : ByteArray) (w : World) (e : Ending) : Prop :=
  (getL key xs = none ∧ e = .returned (.pointer none)) ∨
  (∃ (en : En) (b : Nat) (p1 p2 : Option Addr), getL key xs = some en ∧ e = .returned (.pointer (some ⟨b, 0, none⟩)) ∧ b < w.heap.size ∧ NC w b key en p1 p2)
/-- How many hang on a pointer, read off the memory. -/
def szOf (w : World) (v : Value) : Nat :=
  match v with
  | .pointer (some a) => match w.cell? ⟨a.block, 7, none⟩ with
    | some (.int _ n) => n.toNat
    | _ => 0
  | _ => 0
theorem szOf_tr {w : World} {B : Nat} {t : Tn} {p : Option Addr} (h : Tr w B t p) : szOf w (.pointer p) = t.cnt := by
  cases t with
  | leaf => obtain rfl : p = none := h; rfl
  | node k e l r =>
    obtain ⟨b, p1, p2, rfl, _, h3, _⟩ := h
    have h7 := h3.cell 7
    have e7 : (nodeC k e (Tn.node k e l r).cnt p1 p2)[7]? = some (.int .i64 ((Tn.node k e l r).cnt : Int)) := rfl
    rw [e7] at h7
    unfold szOf
    simp only [h7, Int.toNat_natCast]
theorem Tr.dr {w : World} {B n : Nat} {t : Tn} {p : Option Addr} (h : Tr w B t p) : Tr (w.drewN n) B t p := Tr.keep (w := w) (w' := w.drewN n) (fun _ _ => rfl) (Nat.le_refl _) h
theorem szOf_dr (w : World) (n : Nat) (v : Value) : szOf (w.drewN n) v = szOf w v := rfl

set_option maxRecDepth 100000 in
set_option maxHeartbeats 4000000 in
theorem find_any (t : Tn) (p : Option Addr) (key : ByteArray) (w : World) (h : Tr w w.heap.size t p) (hs : Sorted t.flat) (hk : KeysOk t.flat) (hz : key.size ≤ maxLen) :
    Calls Try.prog 37 #[.pointer p, .string key] w fun e w' => FD t.flat key w e ∧ ∃ n, w' = w.drewN n := by
  have H := Lib.hid (And.intro h (And.intro hs hk))
  clear h hs hk
  go_enter Try.func37, Try.ntmps37
  go_wp2
  go_loopw [0] (fun v wr => ∃ (u : Tn) (q : Option Addr) (n : Nat), v = .pointer q ∧ wr = w.drewN n ∧ Tr w w.heap.size u q ∧ Sorted u.flat ∧ KeysOk u.flat ∧ getL key t.flat = getL key u.flat)
    (fun v wr => szOf wr v)
  case atStart => exact ⟨t, p, 0, rfl, rfl, H.out.1, H.out.2.1, H.out.2.2, rfl⟩
  case round =>
    obtain ⟨u, q, n, rfl, rfl, hT, hS, hK, hG⟩ := hrel
    cases u with
    | leaf =>
      obtain rfl : q = none := hT
      have HG := Lib.hid hG
      clear hG hS hK
      go_wp2
      go_ret
      exact ⟨.inl ⟨HG.out, rfl⟩, n, rfl⟩
    | node k0 e0 l r =>
      have Hsz := Lib.hid (szOf_tr (hT.dr (n := n)))
      obtain ⟨b, p1, p2, rfl, hb, h1, h2, hx⟩ := hT.cells
      have hN := NC.of hx
      have hS2 : Sorted (l.flat ++ (k0, e0) :: r.flat) := hS
      have hK2 : KeysOk (l.flat ++ (k0, e0) :: r.flat) := hK
      obtain ⟨s1, s2, _⟩ := hS2.parts
      obtain ⟨o1, o2, o3, o4⟩ := hK2.parts
      have HH := Lib.hid (And.intro h1 (And.intro h2 (And.intro s1 (And.intro s2 (And.intro o1 (And.intro o2 (And.intro hS2 (And.intro hG hN))))))))
      obtain ⟨n0, n1, n2, n3, n4, n5, n6, n8, n9⟩ := hN
      have hcn := Tn.cnt_node k0 e0 l r
      have HCN := Lib.hid hcn
      have o4' := Lib.hid o4
      clear hT hx hS hK hG hS2 hK2 h1 h2 s1 s2 o1 o2 hcn o3 o4
      rcases kc_range key k0 with hc | hc | hc
      · go_wp2_with (first
          | (go_at_call 41; (with_reducible refine (cmp_is hz (sz64 o4'.out) hc).mono ?_); rintro e w' ⟨rfl, nq, rfl⟩))
        go_roundw
        case rel => exact ⟨l, p1, _, rfl, by first | rfl | exact World.drewN_drewN .., HH.out.1, HH.out.2.2.1, HH.out.2.2.2.2.1, by rw [HH.out.2.2.2.2.2.2.2.1]; exact get_less HH.out.2.2.2.2.2.2.1 hc⟩
        case measure =>
          have e1 := Hsz.out
          have e2 := HCN.out
          have e3 := szOf_tr (HH.out.1.dr (n := n + nq))
          simp only [szOf_dr] at *
          omega
      · obtain rfl := kc_eq hc
        go_wp2_with (first
          | (go_at_call 41; (with_reducible refine (cmp_is hz (sz64 o4'.out) hc).mono ?_); rintro e w' ⟨rfl, nq, rfl⟩))
        go_ret
        exact ⟨.inr ⟨e0, b, p1, p2, by rw [HH.out.2.2.2.2.2.2.2.1]; exact get_same HH.out.2.2.2.2.2.2.1, rfl, hb, HH.out.2.2.2.2.2.2.2.2⟩, _, by first | rfl | exact World.drewN_drewN ..⟩
      · go_wp2_with (first
          | (go_at_call 41; (with_reducible refine (cmp_is hz (sz64 o4'.out) hc).mono ?_); rintro e w' ⟨rfl, nq, rfl⟩))
        go_roundw
        case rel => exact ⟨r, p2, _, rfl, by first | rfl | exact World.drewN_drewN .., HH.out.2.1, HH.out.2.2.2.1, HH.out.2.2.2.2.2.1, by rw [HH.out.2.2.2.2.2.2.2.1]; exact get_more HH.out.2.2.2.2.2.2.1 hc⟩
        case measure =>
          have e1 := Hsz.out
          have e2 := HCN.out
          have e3 := szOf_tr (HH.out.2.1.dr (n := n + nq))
          simp only [szOf_dr] at *
          omega
end Go.Proofs.Ytociadicjbkjcaa
