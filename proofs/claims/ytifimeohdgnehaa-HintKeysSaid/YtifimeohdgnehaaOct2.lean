import Derived.Test.YtifimeohdgnehaaOct1
namespace Go.Proofs.Ytifimeohdgnehaa
open Go.RowKit Go.Maps

section
variable {P : Program} (w : World)
/-- append, the result written out as a slice (its address open). -/
theorem wpList_app2 {ops : Array Oper} {rest : List Oper} {o : Oper} {a : Act} {Q : Exit → Act → World → Prop} (hgd : o.guard = none) (s x : Operand) (t : TypeId)
    (ho : o.op = .call { callee := .builtin .append, args := #[s, x], argTypes := #[t, t] })
    (base : Nat) (e : TypeId) (i : TypeInfo) (z : Value) (size bytes : Nat) (ht : P.underlying t = some (.slice e)) (hi : P.info? e = some i) (hz : i.zero = some z)
    (hsize : i.size = size) (hby : i.bytes = bytes) (hzs : z.cells.size = size) (hsz : 0 < size)
    (v : Value) (n : Nat) (xs : List Value) (hs : a.eval s = v) (hown : w.ownsRow base e size v n xs)
    (B : Nat) (A : Option Addr) (m c : Nat) (news : List Value) (hx : a.eval x = .slice A m c) (hl : news.length = m * size) (hr : Rd w B A news) (h1 : ∀ u ∈ news, u.oneCell' = true)
    (h63 : n + m ≤ maxLen) (hbytes : (n + m) * bytes ≤ 140737488355328) (hbase : base ≤ w.heap.size)
    (h : ∀ b cap w', w'.ownsRow base e size (.slice b (n + m) cap) (n + m) (xs ++ news) → w.grownBy w' v.ownBlock → ((Value.slice b (n + m) cap).ownBlock = v.ownBlock ∨ (Value.slice b (n + m) cap).ownBlock = some w.heap.size) →
      wpList P ops Q rest (a.put o.dst (.slice b (n + m) cap)) w') :
    wpList P ops Q (o :: rest) a w :=
  wpList_app w hgd s x t ho base e i z size bytes ht hi hz hsize hby hzs hsz v n xs hs hown B A m c news hx hl hr h1 h63 hbytes hbase fun v' w' r1 r2 r3 => by
    have hv : ∃ b cap, v' = .slice b (n + m) cap := by
      rcases r1.2 with ⟨rfl, e⟩ | ⟨g, cap, _, rfl, _⟩
      · exact ⟨none, 0, by rw [e]⟩
      · exact ⟨_, _, rfl⟩
    obtain ⟨b, cap, hv⟩ := hv
    subst hv
    exact h b cap w' r1 r2 r3
end

theorem ownsRow_slice {w : World} {base : Nat} {e : TypeId} {size n : Nat} {v : Value} {xs : List Value} (h : w.ownsRow base e size v n xs) : ∃ b cap, v = .slice b n cap := by
  rcases h.2 with ⟨rfl, e⟩ | ⟨g, cap, _, rfl, _⟩
  · exact ⟨none, 0, by rw [e]⟩
  · exact ⟨_, _, rfl⟩
theorem ownsRow_rd {w : World} {base : Nat} {e : TypeId} {size n : Nat} {b : Option Addr} {cap : Nat} {xs : List Value} (h : w.ownsRow base e size (.slice b n cap) n xs) : Rd w w.heap.size b xs := by
  intro j u hj
  rcases h.2 with ⟨hv, hn⟩ | ⟨g, c, cur, hv, _⟩
  · have := h.1
    have := (List.getElem?_eq_some_iff.1 hj).1
    subst hn; omega
  · injection hv with hv
    subst hv
    refine ⟨_, rfl, ?_, h.cells (g := g) rfl j u hj⟩
    exact (h.lt g rfl).2
theorem ownsRow_le {w : World} {base base' : Nat} {e : TypeId} {size n : Nat} {v : Value} {xs : List Value} (h : w.ownsRow base e size v n xs) (hb : base' ≤ base) : w.ownsRow base' e size v n xs := by
  refine ⟨h.1, ?_⟩
  rcases h.2 with h2 | ⟨g, cap, cur, hv, hg, r⟩
  · exact .inl h2
  · exact .inr ⟨g, cap, cur, hv, Nat.le_trans hb hg, r⟩
theorem ownsRow_block {w w' : World} {base : Nat} {e : TypeId} {size n : Nat} {v : Value} {xs : List Value} (h : w.ownsRow base e size v n xs) (hb : ∀ k, v.ownBlock = some k → w'.heap[k]? = w.heap[k]?) : w'.ownsRow base e size v n xs := by
  refine ⟨h.1, ?_⟩
  rcases h.2 with h2 | ⟨g, cap, cur, hv, hg, hh, r⟩
  · exact .inl h2
  · exact .inr ⟨g, cap, cur, hv, hg, by rw [hb g (by rw [hv]; rfl)]; exact hh, r⟩

/-- A writer (a struct of one slice) at block p, its bytes in block g (none: nothing is there yet). -/
def Wrt (w : World) (T p : Nat) (g : Option Nat) (l : List UInt8) : Prop := ∃ v, Box w p T #[v] ∧ v.ownBlock = g ∧ w.ownsRow 0 5 1 v l.length (bv l)
section
variable {w w' : World} {T p : Nat} {g : Option Nat} {l : List UInt8} {S : Nat → Prop}
theorem Wrt.lt (h : Wrt w T p g l) : p < w.heap.size := let ⟨_, h1, _⟩ := h; h1.lt
theorem Wrt.glt (h : Wrt w T p g l) {k : Nat} (hk : g = some k) : k < w.heap.size := let ⟨_, _, h2, h3⟩ := h; (h3.lt k (h2.trans hk)).2
theorem Wrt.ne (h : Wrt w T p g l) (hT : T ≠ 5) : g ≠ some p := by
  obtain ⟨v, h1, h2, h3⟩ := h
  rintro rfl
  rcases h3.2 with ⟨rfl, _⟩ | ⟨g, cap, cur, rfl, _, hh, _⟩
  · simp [Value.ownBlock] at h2
  · simp [Value.ownBlock] at h2
    subst h2
    unfold Box at h1
    rw [h1] at hh
    injection hh with hh
    injection hh with _ hh
    exact hT hh
theorem Wrt.chg (h : Wrt w T p g l) (hc : Chg S w w') (hp : ¬ S p) (hg : ∀ k, g = some k → ¬ S k) : Wrt w' T p g l := by
  obtain ⟨v, h1, h2, h3⟩ := h
  exact ⟨v, h1.chg hc hp, h2, ownsRow_block h3 fun k hk => hc.block k (h3.lt k hk).2 (hg k (h2.symm.trans hk))⟩
theorem Wrt.below (h : Wrt w T p g l) (hb : Below w.heap.size w w') : Wrt w' T p g l := h.chg (Chg.of_below hb fun _ => False) id fun _ _ => id
theorem Wrt.alloc (h : Wrt w T p g l) (o : Obj) : Wrt (w.alloc o) T p g l := h.below ((Below.refl _ _).alloc (Nat.le_refl _) o)
end

set_option maxRecDepth 100000 in
set_option maxHeartbeats 1000000 in
theorem wRaw (p : Nat) (g : Option Nat) (l : List UInt8) (A : Option Addr) (m c : Nat) (bs : List UInt8) (w : World) (h : Wrt w 75 p g l) (hr : Rd w w.heap.size A (bv bs)) (hm : bs.length = m) (hlen : l.length + m ≤ 1099511627776) :
    Calls Try.prog 27 #[.pointer (some ⟨p, 0, none⟩), .slice A m c] w fun e w' =>
      e = .returned (.tuple #[]) ∧ ∃ g', Wrt w' 75 p g' (l ++ bs) ∧ Chg (fun k => k = p ∨ some k = g) w w' ∧ (g' = g ∨ ∃ k, g' = some k ∧ w.heap.size ≤ k) := by
  obtain ⟨i0, hi0, hz0, hs0, hy0⟩ := info_parts info_u8
  have hne := Lib.hid (h.ne (by decide))
  obtain ⟨v, hX, hg, hown⟩ := h
  obtain ⟨b, cap, hv⟩ := ownsRow_slice hown
  subst hv
  have hpl := hX.lt
  have hcx := hX.cell
  have Hg := Lib.hid hg
  have Hm := Lib.hid hm
  have HX := Lib.hid hX
  clear hg hm hX
  go_enter Try.func27, Try.ntmps27
  go_wp2_with (at_builtin
               refine wpList_app2 _ rfl (.tmp 10) (.tmp 11) _ rfl 0 5 i0 _ 1 1 Try.underlying26 hi0 hz0 hs0 hy0 rfl (by omega) (.slice b l.length cap) l.length (bv l) rfl hown _ A m c (bv bs) rfl (by rw [bv_len, Hm.out]; omega) hr (one_bv _) (by unfold maxLen; omega) (by omega) (by omega) ?_
               intro b' cap' w1 hown1 hg1 hat
               have hX1 := HX.out.grown hg1 (by rw [Hg.out]; exact fun e => hne.out e.symm)
               have hcx1 := hX1.cell
               have hfx1 := hX1.free
               have H1 := Lib.hid (And.intro hown1 (And.intro hg1 (And.intro hat hX1)))
               clear hown1 hg1 hat hX1)
  go_end0
  obtain ⟨r1, r2, r3, r4⟩ := H1.out
  have hp1 : (Value.slice b' (l.length + m) cap').ownBlock ≠ some p := by
    rcases r3 with e | e <;> rw [e]
    · rw [Hg.out]; exact hne.out
    · intro e; injection e with e; omega
  refine ⟨rfl, (Value.slice b' (l.length + m) cap').ownBlock, ⟨_, r4.set_ 0 _, rfl, ?_⟩, ?_, ?_⟩
  · rw [bv_app, List.length_append, Hm.out]
    refine ownsRow_block r1 fun k hk => Below.heap_setCell _ _ _ _ (fun e => hp1 (by rw [hk, e]))
  · refine Chg.setCell ?_ (.inl (.inl rfl)) _
    exact ⟨r2.os, r2.tape, r2.output, r2.size, fun k hk hn => r2.block k hk (fun e => hn (.inr (by rw [e, Hg.out])))⟩
  · rcases r3 with e | e
    · exact .inl (e.trans Hg.out)
    · exact .inr ⟨_, e, Nat.le_refl _⟩

set_option maxRecDepth 100000 in
set_option maxHeartbeats 1000000 in
theorem rwRaw (p : Nat) (g : Option Nat) (l : List UInt8) (A : Option Addr) (m c : Nat) (bs : List UInt8) (w : World) (h : Wrt w 81 p g l) (hr : Rd w w.heap.size A (bv bs)) (hm : bs.length = m) (hlen : l.length + m ≤ 1099511627776) :
    Calls Try.prog 51 #[.pointer (some ⟨p, 0, none⟩), .slice A m c] w fun e w' =>
      e = .returned (.tuple #[]) ∧ ∃ g', Wrt w' 81 p g' (l ++ bs) ∧ Chg (fun k => k = p ∨ some k = g) w w' ∧ (g' = g ∨ ∃ k, g' = some k ∧ w.heap.size ≤ k) := by
  obtain ⟨i0, hi0, hz0, hs0, hy0⟩ := info_parts info_u8
  have hne := Lib.hid (h.ne (by decide))
  obtain ⟨v, hX, hg, hown⟩ := h
  obtain ⟨b, cap, hv⟩ := ownsRow_slice hown
  subst hv
  have hpl := hX.lt
  have hcx := hX.cell
  have Hg := Lib.hid hg
  have Hm := Lib.hid hm
  have HX := Lib.hid hX
  clear hg hm hX
  go_enter Try.func51, Try.ntmps51
  go_wp2_with (at_builtin
               refine wpList_app2 _ rfl (.tmp 10) (.tmp 11) _ rfl 0 5 i0 _ 1 1 Try.underlying26 hi0 hz0 hs0 hy0 rfl (by omega) (.slice b l.length cap) l.length (bv l) rfl hown _ A m c (bv bs) rfl (by rw [bv_len, Hm.out]; omega) hr (one_bv _) (by unfold maxLen; omega) (by omega) (by omega) ?_
               intro b' cap' w1 hown1 hg1 hat
               have hX1 := HX.out.grown hg1 (by rw [Hg.out]; exact fun e => hne.out e.symm)
               have hcx1 := hX1.cell
               have hfx1 := hX1.free
               have H1 := Lib.hid (And.intro hown1 (And.intro hg1 (And.intro hat hX1)))
               clear hown1 hg1 hat hX1)
  go_end0
  obtain ⟨r1, r2, r3, r4⟩ := H1.out
  have hp1 : (Value.slice b' (l.length + m) cap').ownBlock ≠ some p := by
    rcases r3 with e | e <;> rw [e]
    · rw [Hg.out]; exact hne.out
    · intro e; injection e with e; omega
  refine ⟨rfl, (Value.slice b' (l.length + m) cap').ownBlock, ⟨_, r4.set_ 0 _, rfl, ?_⟩, ?_, ?_⟩
  · rw [bv_app, List.length_append, Hm.out]
    refine ownsRow_block r1 fun k hk => Below.heap_setCell _ _ _ _ (fun e => hp1 (by rw [hk, e]))
  · refine Chg.setCell ?_ (.inl (.inl rfl)) _
    exact ⟨r2.os, r2.tape, r2.output, r2.size, fun k hk hn => r2.block k hk (fun e => hn (.inr (by rw [e, Hg.out])))⟩
  · rcases r3 with e | e
    · exact .inl (e.trans Hg.out)
    · exact .inr ⟨_, e, Nat.le_refl _⟩

theorem uvarF_le (f n : Nat) : (uvarF f n).length ≤ f := by
  induction f generalizing n with
  | zero => simp [uvarF]
  | succ f ih =>
    rw [uvarF]
    split
    · simp
    · have := ih (n / 128); simp; omega
theorem uvar_le (n : Nat) : (uvar n).length ≤ 10 := uvarF_le 10 n

theorem wNew (w : World) : Calls Try.prog 21 #[] w fun e w' => e = .returned (.pointer (some ⟨w.heap.size, 0, none⟩)) ∧ Wrt w' 75 w.heap.size none [] ∧ Below w.heap.size w w' := by
  go_enter Try.func21, Try.ntmps21
  go_wp2
  go_ret
  exact ⟨rfl, ⟨_, Box.new _ _ _, rfl, nil_own _ _ _ _⟩, (Below.refl _ _).alloc (Nat.le_refl _) _⟩

set_option maxRecDepth 100000 in
theorem wByte (p : Nat) (g : Option Nat) (l : List UInt8) (x : UInt8) (w : World) (h : Wrt w 75 p g l) (hlen : l.length ≤ 1000000000000) :
    Calls Try.prog 22 #[.pointer (some ⟨p, 0, none⟩), .int .u8 x.toNat] w fun e w' =>
      e = .returned (.tuple #[]) ∧ ∃ g', Wrt w' 75 p g' (l ++ [x]) ∧ Chg (fun k => k = p ∨ some k = g) w w' ∧ (g' = g ∨ ∃ k, g' = some k ∧ w.heap.size ≤ k) := by
  have H := Lib.hid h
  clear h
  go_enter Try.func22, Try.ntmps22
  go_wp2_with (go_at_call 27; refine (wRaw p g l _ 1 _ [x] _ (H.out.alloc _) (by simpa [bv] using rd_new w #[.int .u8 (x.toNat : Int)] 5) rfl (by omega)).mono ?_; rintro e w1 ⟨rfl, g', h1, h2, h3⟩)
  go_end0
  refine ⟨rfl, g', h1, (((Chg.refl _ w).alloc _).trans h2), ?_⟩
  rcases h3 with h3 | ⟨k, h3, h4⟩
  · exact .inl h3
  · exact .inr ⟨k, h3, by simp at h4; omega⟩

set_option maxRecDepth 100000 in
theorem wUvarint (p : Nat) (g : Option Nat) (l : List UInt8) (n : Nat) (hn : n < 18446744073709551616) (w : World) (h : Wrt w 75 p g l) (hlen : l.length ≤ 1000000000000) :
    Calls Try.prog 47 #[.pointer (some ⟨p, 0, none⟩), .int .u64 n] w fun e w' =>
      e = .returned (.tuple #[]) ∧ ∃ g', Wrt w' 75 p g' (l ++ uvar n) ∧ Chg (fun k => k = p ∨ some k = g) w w' ∧ (g' = g ∨ ∃ k, g' = some k ∧ w.heap.size ≤ k) := by
  have H := Lib.hid h
  have Hl := Lib.hid (uvar_le n)
  clear h
  go_enter Try.func47, Try.ntmps47
  go_wp2_with (first
    | (go_at_call 67
       refine (uvarint_any n hn _).mono ?_
       rintro e w1 ⟨v, rfl, hown, hb⟩
       have hv := ownsRow_slice hown
       obtain ⟨b, cap, hv⟩ := hv
       subst hv
       have H1 := Lib.hid (And.intro hown hb)
       clear hown hb)
    | (go_at_call 27; refine (wRaw p g l _ _ _ (uvar n) _ (H.out.below H1.out.2) (ownsRow_rd H1.out.1) rfl (by have := Hl.out; omega)).mono ?_; rintro e w2 ⟨rfl, g', h1, h2, h3⟩))
  go_end0
  refine ⟨rfl, g', h1, (Chg.of_below H1.out.2 _).trans h2, ?_⟩
  rcases h3 with h3 | ⟨k, h3, h4⟩
  · exact .inl h3
  · exact .inr ⟨k, h3, Nat.le_trans H1.out.2.size h4⟩

theorem rwNew (w : World) : Calls Try.prog 29 #[] w fun e w' => e = .returned (.pointer (some ⟨w.heap.size, 0, none⟩)) ∧ Wrt w' 81 w.heap.size none [] ∧ Below w.heap.size w w' := by
  go_enter Try.func29, Try.ntmps29
  go_wp2
  go_ret
  exact ⟨rfl, ⟨_, Box.new _ _ _, rfl, nil_own _ _ _ _⟩, (Below.refl _ _).alloc (Nat.le_refl _) _⟩

set_option maxRecDepth 100000 in
theorem rwByte (p : Nat) (g : Option Nat) (l : List UInt8) (x : UInt8) (w : World) (h : Wrt w 81 p g l) (hlen : l.length ≤ 1000000000000) :
    Calls Try.prog 56 #[.pointer (some ⟨p, 0, none⟩), .int .u8 x.toNat] w fun e w' =>
      e = .returned (.tuple #[]) ∧ ∃ g', Wrt w' 81 p g' (l ++ [x]) ∧ Chg (fun k => k = p ∨ some k = g) w w' ∧ (g' = g ∨ ∃ k, g' = some k ∧ w.heap.size ≤ k) := by
  have H := Lib.hid h
  clear h
  go_enter Try.func56, Try.ntmps56
  go_wp2_with (go_at_call 51; refine (rwRaw p g l _ 1 _ [x] _ (H.out.alloc _) (by simpa [bv] using rd_new w #[.int .u8 (x.toNat : Int)] 5) rfl (by omega)).mono ?_; rintro e w1 ⟨rfl, g', h1, h2, h3⟩)
  go_end0
  refine ⟨rfl, g', h1, (((Chg.refl _ w).alloc _).trans h2), ?_⟩
  rcases h3 with h3 | ⟨k, h3, h4⟩
  · exact .inl h3
  · exact .inr ⟨k, h3, by simp at h4; omega⟩

set_option maxRecDepth 100000 in
theorem rwUvarint (p : Nat) (g : Option Nat) (l : List UInt8) (n : Nat) (hn : n < 18446744073709551616) (w : World) (h : Wrt w 81 p g l) (hlen : l.length ≤ 1000000000000) :
    Calls Try.prog 30 #[.pointer (some ⟨p, 0, none⟩), .int .u64 n] w fun e w' =>
      e = .returned (.tuple #[]) ∧ ∃ g', Wrt w' 81 p g' (l ++ uvar n) ∧ Chg (fun k => k = p ∨ some k = g) w w' ∧ (g' = g ∨ ∃ k, g' = some k ∧ w.heap.size ≤ k) := by
  have H := Lib.hid h
  have Hl := Lib.hid (uvar_le n)
  clear h
  go_enter Try.func30, Try.ntmps30
  go_wp2_with (first
    | (go_at_call 52
       refine (refUvarint_any n hn _).mono ?_
       rintro e w1 ⟨v, rfl, hown, hb⟩
       have hv := ownsRow_slice hown
       obtain ⟨b, cap, hv⟩ := hv
       subst hv
       have H1 := Lib.hid (And.intro hown hb)
       clear hown hb)
    | (go_at_call 51; refine (rwRaw p g l _ _ _ (uvar n) _ (H.out.below H1.out.2) (ownsRow_rd H1.out.1) rfl (by have := Hl.out; omega)).mono ?_; rintro e w2 ⟨rfl, g', h1, h2, h3⟩))
  go_end0
  refine ⟨rfl, g', h1, (Chg.of_below H1.out.2 _).trans h2, ?_⟩
  rcases h3 with h3 | ⟨k, h3, h4⟩
  · exact .inl h3
  · exact .inr ⟨k, h3, Nat.le_trans H1.out.2.size h4⟩
end Go.Proofs.Ytifimeohdgnehaa
