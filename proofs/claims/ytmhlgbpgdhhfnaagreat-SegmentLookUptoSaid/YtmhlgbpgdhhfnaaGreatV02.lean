import Derived.Test.YtmhlgbpgdhhfnaaGreatRows
import Derived.Test.YtmhlgbpgdhhfnaaGreatV01
import Derived.Lib.ConvBytes
import Derived.IntWalk
set_option linter.unusedVariables false
set_option linter.unusedSimpArgs false
namespace Go.Proofs.YtmhlgbpgdhhfnaaGreat
open Go.RowKit Go.Maps

theorem info_u8 : (Tryz.prog.info? 5).map (fun i => (i.zero, i.size, i.bytes)) = some (some (.int .u8 0), 1, 1) := by kernel_rfl

/-- Bytes as cells. -/
def bv (l : List UInt8) : List Value := l.map fun c => .int .u8 c.toNat
/-- A number as short as can be, at most f bytes. -/
def uvarF : Nat → Nat → List UInt8
  | 0, _ => []
  | f + 1, n => if n < 128 then [UInt8.ofNat n] else UInt8.ofNat (n % 128 + 128) :: uvarF f (n / 128)
def uvar (n : Nat) : List UInt8 := uvarF 10 n
theorem bv_len (l : List UInt8) : (bv l).length = l.length := by simp [bv]
theorem bv_app (a b : List UInt8) : bv (a ++ b) = bv a ++ bv b := by simp [bv]
theorem one_bv (l : List UInt8) : ∀ u ∈ bv l, u.oneCell' = true := by
  intro u hu; obtain ⟨x, _, rfl⟩ := List.mem_map.1 hu; rfl
theorem or128 (n : Nat) : (n % 256) ||| 128 = n % 128 + 128 := by
  have h : ∀ m, m < 256 → m ||| 128 = m % 128 + 128 := by decide +kernel
  rw [h _ (Nat.mod_lt _ (by omega))]; omega
theorem u8_or (a b : Nat) (ha : a < 256) (hb : b < 256) : bits .or .u8 (a : Int) (b : Int) = ((a ||| b : Nat) : Int) := by
  have e : ∀ x : Nat, x < 256 → (BitVec.ofInt 8 (x : Int)).toNat = x := fun x hx => by
    rw [BitVec.ofInt_natCast, BitVec.toNat_ofNat]; exact Nat.mod_eq_of_lt (by omega)
  have hx : a ||| b < 2 ^ 8 := Nat.or_lt_two_pow (by omega) (by omega)
  show IntKind.u8.wrap ((BitVec.ofInt 8 (a : Int) ||| BitVec.ofInt 8 (b : Int)).toNat : Int) = _
  rw [BitVec.toNat_or, e a ha, e b hb, IntKind.wrap_u8]
  omega
theorem or128i (m : Nat) : bits .or .u8 ((m : Int) % 256) 128 = (m : Int) % 128 + 128 := by
  have h := u8_or (m % 256) 128 (Nat.mod_lt _ (by omega)) (by omega)
  rw [or128] at h
  have e : (((m % 256 : Nat)) : Int) = (m : Int) % 256 := by omega
  rw [e] at h
  exact h.trans (by omega)
theorem nil_own (w : World) (B : Nat) (t : TypeId) (size : Nat) : w.ownsRow B t size (.slice none 0 0) 0 [] := World.ownsRow_nil w B t size

set_option maxRecDepth 100000 in
set_option maxHeartbeats 1000000 in
theorem uvarint_any (n : Nat) (hn : n < 18446744073709551616) (w : World) :
    Calls Tryz.prog 105 #[.int .u64 n] w fun e w' => ∃ v, e = .returned v ∧ w'.ownsRow w.heap.size 5 1 v (uvar n).length (bv (uvar n)) ∧ Below w.heap.size w w' := by
  obtain ⟨i0, hi0, hz0, hs0, hy0⟩ := info_parts info_u8
  go_enter Tryz.func105, Tryz.ntmps105
  go_wp2
  go_loopw [0, 3] (fun v s wr => ∃ (f m : Nat) (done : List UInt8), f < 10 ∧ m < 2 ^ (7 * f + 1) ∧ v = .int .u64 m ∧ wr.ownsRow w.heap.size 5 1 s done.length (bv done) ∧ Below w.heap.size w wr ∧ done.length + f = 9 ∧ uvar n = done ++ uvarF (f + 1) m) (fun v _ _ => (intOf v).toNat)
  case atStart => exact ⟨9, n, [], by omega, hn, rfl, nil_own _ _ _ _, Below.refl _ _, rfl, rfl⟩
  case round =>
    obtain ⟨f, m, done, hf, hm, rfl, hown, hb, hdl, hu⟩ := hrel
    have hm64 : m < 18446744073709551616 := Nat.lt_of_lt_of_le hm (Nat.pow_le_pow_right (by omega) (show 7 * f + 1 ≤ 64 by omega))
    have Hm := Lib.hid hm
    have Hu := Lib.hid hu
    have Hd := Lib.hid hdl
    clear hm hu hdl
    by_cases hlt : m < 128
    · have hu2 := Lib.hid (show uvar n = done ++ [UInt8.ofNat m] by rw [Hu.out, uvarF, if_pos hlt])
      go_wp2_with (at_builtin
                   refine wpList_app _ rfl (.tmp 14) (.tmp 17) _ rfl w.heap.size 5 i0 _ 1 1 Tryz.underlying22 hi0 hz0 hs0 hy0 rfl (by omega) _ done.length (bv done) rfl (hown.alloc _) _ _ 1 1 [.int .u8 (m : Int)] rfl rfl (rd_new _ _ _) (by simp [Value.oneCell']) (by have := Hd.out; unfold maxLen; omega) (by have := Hd.out; omega) (by have := hb.size; simp; omega) ?_
                   intro v1 w1 hown1 hg1 _
                   have Hown1 := Lib.hid hown1
                   have Hb1 := Lib.hid ((hb.alloc hb.size (.cells #[.int .u8 (m : Int)] 5)).grown hg1 (by have := hb.size; simp; omega) (fun k e => (hown.lt _ e).1))
                   clear hown1 hg1)
      go_ret
      refine ⟨v1, rfl, ?_, Hb1.out⟩
      rw [hu2.out, bv_app, List.length_append]
      have e : bv [UInt8.ofNat m] = [.int .u8 (m : Int)] := by simp [bv]; omega
      rw [e]; exact Hown1.out
    have hx := or128i m
    go_wp2_with (at_builtin
                 refine wpList_app1 _ rfl (.tmp 6) (.tmp 10) _ rfl w.heap.size 5 i0 _ 1 1 Tryz.underlying22 hi0 hz0 hs0 hy0 rfl (by omega) _ done.length (bv done) rfl (hown.alloc _) _ _ 1 1 [.int .u8 ((m : Int) % 128 + 128)] rfl rfl (rd_new _ _ _) (by simp [Value.oneCell']) (by have := Hd.out; unfold maxLen; omega) (by have := Hd.out; omega) (by have := hb.size; simp; omega) (by omega) ?_
                 intro g1 c1 w1 _ _ _ hown1 hg1 _
                 have Hown1 := Lib.hid hown1
                 have Hb1 := Lib.hid ((hb.alloc hb.size (.cells #[.int .u8 ((m : Int) % 128 + 128)] 5)).grown hg1 (by have := hb.size; simp; omega) (fun k e => (hown.lt _ e).1))
                 clear hown1 hg1)
    go_roundw
    case rel =>
      have hf0 : f ≠ 0 := by
        rintro rfl
        have := Hm.out
        simp at this; omega
      obtain ⟨f', rfl⟩ : ∃ f', f = f' + 1 := ⟨f - 1, by omega⟩
      refine ⟨f', m / 128, done ++ [UInt8.ofNat (m % 128 + 128)], by omega, ?_, by go_num, ?_, Hb1.out, ?_, ?_⟩
      · have := Hm.out
        rw [show 7 * (f' + 1) + 1 = (7 * f' + 1) + 7 by omega, Nat.pow_add] at this
        exact Nat.div_lt_of_lt_mul (by omega)
      · rw [bv_app, List.length_append]
        have e : bv [UInt8.ofNat (m % 128 + 128)] = [.int .u8 ((m : Int) % 128 + 128)] := by simp [bv]; omega
        rw [e]; exact Hown1.out
      · have := Hd.out
        simp; omega
      rw [Hu.out, uvarF, if_neg hlt, List.append_assoc]; rfl
    case measure => simp [intOf]; omega

set_option maxRecDepth 100000 in
set_option maxHeartbeats 1000000 in
theorem refUvarint_any (n : Nat) (hn : n < 18446744073709551616) (w : World) :
    Calls Tryz.prog 82 #[.int .u64 n] w fun e w' => ∃ v, e = .returned v ∧ w'.ownsRow w.heap.size 5 1 v (uvar n).length (bv (uvar n)) ∧ Below w.heap.size w w' := by
  obtain ⟨i0, hi0, hz0, hs0, hy0⟩ := info_parts info_u8
  go_enter Tryz.func82, Tryz.ntmps82
  go_wp2
  go_loopw [0, 3] (fun v s wr => ∃ (f m : Nat) (done : List UInt8), f < 10 ∧ m < 2 ^ (7 * f + 1) ∧ v = .int .u64 m ∧ wr.ownsRow w.heap.size 5 1 s done.length (bv done) ∧ Below w.heap.size w wr ∧ done.length + f = 9 ∧ uvar n = done ++ uvarF (f + 1) m) (fun v _ _ => (intOf v).toNat)
  case atStart => exact ⟨9, n, [], by omega, hn, rfl, nil_own _ _ _ _, Below.refl _ _, rfl, rfl⟩
  case round =>
    obtain ⟨f, m, done, hf, hm, rfl, hown, hb, hdl, hu⟩ := hrel
    have hm64 : m < 18446744073709551616 := Nat.lt_of_lt_of_le hm (Nat.pow_le_pow_right (by omega) (show 7 * f + 1 ≤ 64 by omega))
    have Hm := Lib.hid hm
    have Hu := Lib.hid hu
    have Hd := Lib.hid hdl
    clear hm hu hdl
    by_cases hlt : m < 128
    · have hu2 := Lib.hid (show uvar n = done ++ [UInt8.ofNat m] by rw [Hu.out, uvarF, if_pos hlt])
      go_wp2_with (at_builtin
                   refine wpList_app _ rfl (.tmp 15) (.tmp 18) _ rfl w.heap.size 5 i0 _ 1 1 Tryz.underlying22 hi0 hz0 hs0 hy0 rfl (by omega) _ done.length (bv done) rfl (hown.alloc _) _ _ 1 1 [.int .u8 (m : Int)] rfl rfl (rd_new _ _ _) (by simp [Value.oneCell']) (by have := Hd.out; unfold maxLen; omega) (by have := Hd.out; omega) (by have := hb.size; simp; omega) ?_
                   intro v1 w1 hown1 hg1 _
                   have Hown1 := Lib.hid hown1
                   have Hb1 := Lib.hid ((hb.alloc hb.size (.cells #[.int .u8 (m : Int)] 5)).grown hg1 (by have := hb.size; simp; omega) (fun k e => (hown.lt _ e).1))
                   clear hown1 hg1)
      go_ret
      refine ⟨v1, rfl, ?_, Hb1.out⟩
      rw [hu2.out, bv_app, List.length_append]
      have e : bv [UInt8.ofNat m] = [.int .u8 (m : Int)] := by simp [bv]; omega
      rw [e]; exact Hown1.out
    skip
    go_wp2_with (at_builtin
                 refine wpList_app1 _ rfl (.tmp 6) (.tmp 11) _ rfl w.heap.size 5 i0 _ 1 1 Tryz.underlying22 hi0 hz0 hs0 hy0 rfl (by omega) _ done.length (bv done) rfl (hown.alloc _) _ _ 1 1 [.int .u8 ((m : Int) % 128 + 128)] rfl rfl (rd_new _ _ _) (by simp [Value.oneCell']) (by have := Hd.out; unfold maxLen; omega) (by have := Hd.out; omega) (by have := hb.size; simp; omega) (by omega) ?_
                 intro g1 c1 w1 _ _ _ hown1 hg1 _
                 have Hown1 := Lib.hid hown1
                 have Hb1 := Lib.hid ((hb.alloc hb.size (.cells #[.int .u8 ((m : Int) % 128 + 128)] 5)).grown hg1 (by have := hb.size; simp; omega) (fun k e => (hown.lt _ e).1))
                 clear hown1 hg1)
    go_roundw
    case rel =>
      have hf0 : f ≠ 0 := by
        rintro rfl
        have := Hm.out
        simp at this; omega
      obtain ⟨f', rfl⟩ : ∃ f', f = f' + 1 := ⟨f - 1, by omega⟩
      refine ⟨f', m / 128, done ++ [UInt8.ofNat (m % 128 + 128)], by omega, ?_, by go_num, ?_, Hb1.out, ?_, ?_⟩
      · have := Hm.out
        rw [show 7 * (f' + 1) + 1 = (7 * f' + 1) + 7 by omega, Nat.pow_add] at this
        exact Nat.div_lt_of_lt_mul (by omega)
      · rw [bv_app, List.length_append]
        have e : bv [UInt8.ofNat (m % 128 + 128)] = [.int .u8 ((m : Int) % 128 + 128)] := by simp [bv]; omega
        rw [e]; exact Hown1.out
      · have := Hd.out
        simp; omega
      rw [Hu.out, uvarF, if_neg hlt, List.append_assoc]; rfl
    case measure => simp [intOf]; omega

end Go.Proofs.YtmhlgbpgdhhfnaaGreat
namespace Go.Proofs.YtmhlgbpgdhhfnaaGreat
open Go.RowKit Go.Maps

section
variable {P : Program} (w : World)
/-- append, the result written out as a slice (its address open). -/
theorem wpList_app2 {ops : Array Oper} {rest : List Oper} {o : Oper} {a : Act} {Q : Exit → Act → World → Prop} (hgd : o.guard = none) (s x : Operand) (t : TypeId)
    (ho : o.op = .call { callee := .builtin .append, args := #[s, x], argTypes := #[t, t] })
    (base : Nat) (e : TypeId) (i : TypeInfo) (z : Value) (size bytes : Nat) (ht : P.underlying t = some (.slice e)) (hi : P.info? e = some i) (hz : i.zero = some z)
    (hsize : i.size = size) (hby : i.bytes = bytes) (hzs : z.cells.size = size) (hsz : 0 < size)
    (v : Value) (n : Nat) (xs : List Value) (hs : a.eval s = v) (hown : w.ownsRow base e size v n xs)
    (B : Nat) (A : Option Addr) (m c : Nat) (news : List Value) (hx : a.eval x = .slice A m c) (hl : news.length = m * size) (hr : Rd w B A news) (h1 : ∀ u ∈ news, u.oneCell' = true)
    (h63 : n + m ≤ maxLen) (hbytes : (n + m) * bytes ≤ 140737488355328) (hbase : base ≤ w.heap.size)
    (h : ∀ b cap w', w'.ownsRow base e size (.slice b (n + m) cap) (n + m) (xs ++ news) → w.grownBy w' v.ownBlock → ((Value.slice b (n + m) cap).ownBlock = v.ownBlock ∨ (Value.slice b (n + m) cap).ownBlock = some w.heap.size) →
      wpList P ops Q rest (a.put o.dst (.slice b (n + m) cap)) w') :
    wpList P ops Q (o :: rest) a w :=
  wpList_app w hgd s x t ho base e i z size bytes ht hi hz hsize hby hzs hsz v n xs hs hown B A m c news hx hl hr h1 h63 hbytes hbase fun v' w' r1 r2 r3 => by
    have hv : ∃ b cap, v' = .slice b (n + m) cap := by
      rcases r1.2 with ⟨rfl, e⟩ | ⟨g, cap, _, rfl, _⟩
      · exact ⟨none, 0, by rw [e]⟩
      exact ⟨_, _, rfl⟩
    obtain ⟨b, cap, hv⟩ := hv
    subst hv
    exact h b cap w' r1 r2 r3
end

theorem ownsRow_slice {w : World} {base : Nat} {e : TypeId} {size n : Nat} {v : Value} {xs : List Value} (h : w.ownsRow base e size v n xs) : ∃ b cap, v = .slice b n cap := by
  rcases h.2 with ⟨rfl, e⟩ | ⟨g, cap, _, rfl, _⟩
  · exact ⟨none, 0, by rw [e]⟩
  exact ⟨_, _, rfl⟩
theorem ownsRow_rd {w : World} {base : Nat} {e : TypeId} {size n : Nat} {b : Option Addr} {cap : Nat} {xs : List Value} (h : w.ownsRow base e size (.slice b n cap) n xs) : Rd w w.heap.size b xs := by
  intro j u hj
  rcases h.2 with ⟨hv, hn⟩ | ⟨g, c, cur, hv, _⟩
  · have := h.1
    have := (List.getElem?_eq_some_iff.1 hj).1
    subst hn; omega
  injection hv with hv
  subst hv
  refine ⟨_, rfl, ?_, h.cells (g := g) rfl j u hj⟩
  exact (h.lt g rfl).2
theorem ownsRow_le {w : World} {base base' : Nat} {e : TypeId} {size n : Nat} {v : Value} {xs : List Value} (h : w.ownsRow base e size v n xs) (hb : base' ≤ base) : w.ownsRow base' e size v n xs := by
  refine ⟨h.1, ?_⟩
  rcases h.2 with h2 | ⟨g, cap, cur, hv, hg, r⟩
  · exact .inl h2
  exact .inr ⟨g, cap, cur, hv, Nat.le_trans hb hg, r⟩
theorem ownsRow_block {w w' : World} {base : Nat} {e : TypeId} {size n : Nat} {v : Value} {xs : List Value} (h : w.ownsRow base e size v n xs) (hb : ∀ k, v.ownBlock = some k → w'.heap[k]? = w.heap[k]?) : w'.ownsRow base e size v n xs := by
  refine ⟨h.1, ?_⟩
  rcases h.2 with h2 | ⟨g, cap, cur, hv, hg, hh, r⟩
  · exact .inl h2
  exact .inr ⟨g, cap, cur, hv, hg, by rw [hb g (by rw [hv]; rfl)]; exact hh, r⟩

/-- A writer (a struct of one slice) at block p, its bytes in block g (none: nothing is there yet). -/
def Wrt (w : World) (T p : Nat) (g : Option Nat) (l : List UInt8) : Prop := ∃ v, Box w p T #[v] ∧ v.ownBlock = g ∧ w.ownsRow 0 5 1 v l.length (bv l)
section
variable {w w' : World} {T p : Nat} {g : Option Nat} {l : List UInt8} {S : Nat → Prop}
theorem Wrt.lt (h : Wrt w T p g l) : p < w.heap.size := let ⟨_, h1, _⟩ := h; h1.lt
theorem Wrt.glt (h : Wrt w T p g l) {k : Nat} (hk : g = some k) : k < w.heap.size := let ⟨_, _, h2, h3⟩ := h; (h3.lt k (h2.trans hk)).2
theorem Wrt.ne (h : Wrt w T p g l) (hT : T ≠ 5) : g ≠ some p := by
  obtain ⟨v, h1, h2, h3⟩ := h
  rintro rfl
  rcases h3.2 with ⟨rfl, _⟩ | ⟨g, cap, cur, rfl, _, hh, _⟩
  · simp [Value.ownBlock] at h2
  simp [Value.ownBlock] at h2
  subst h2
  unfold Box at h1
  rw [h1] at hh
  injection hh with hh
  injection hh with _ hh
  exact hT hh
theorem Wrt.chg (h : Wrt w T p g l) (hc : Chg S w w') (hp : ¬ S p) (hg : ∀ k, g = some k → ¬ S k) : Wrt w' T p g l := by
  obtain ⟨v, h1, h2, h3⟩ := h
  exact ⟨v, h1.chg hc hp, h2, ownsRow_block h3 fun k hk => hc.block k (h3.lt k hk).2 (hg k (h2.symm.trans hk))⟩
theorem Wrt.below (h : Wrt w T p g l) (hb : Below w.heap.size w w') : Wrt w' T p g l := h.chg (Chg.of_below hb fun _ => False) id fun _ _ => id
theorem Wrt.alloc (h : Wrt w T p g l) (o : Obj) : Wrt (w.alloc o) T p g l := h.below ((Below.refl _ _).alloc (Nat.le_refl _) o)
end

set_option maxRecDepth 100000 in
set_option maxHeartbeats 1000000 in
theorem wRaw (p : Nat) (g : Option Nat) (l : List UInt8) (A : Option Addr) (m c : Nat) (bs : List UInt8) (w : World) (h : Wrt w 85 p g l) (hr : Rd w w.heap.size A (bv bs)) (hm : bs.length = m) (hlen : l.length + m ≤ 1099511627776) :
    Calls Tryz.prog 50 #[.pointer (some ⟨p, 0, none⟩), .slice A m c] w fun e w' =>
      e = .returned (.tuple #[]) ∧ ∃ g', Wrt w' 85 p g' (l ++ bs) ∧ Chg (fun k => k = p ∨ some k = g) w w' ∧ (g' = g ∨ ∃ k, g' = some k ∧ w.heap.size ≤ k) := by
  obtain ⟨i0, hi0, hz0, hs0, hy0⟩ := info_parts info_u8
  have hne := Lib.hid (h.ne (by decide))
  obtain ⟨v, hX, hg, hown⟩ := h
  obtain ⟨b, cap, hv⟩ := ownsRow_slice hown
  subst hv
  have hpl := hX.lt
  have hcx := hX.cell
  have Hg := Lib.hid hg
  have Hm := Lib.hid hm
  have HX := Lib.hid hX
  clear hg hm hX
  go_enter Tryz.func50, Tryz.ntmps50
  go_wp2_with (at_builtin
               refine wpList_app2 _ rfl (.tmp 10) (.tmp 11) _ rfl 0 5 i0 _ 1 1 Tryz.underlying22 hi0 hz0 hs0 hy0 rfl (by omega) (.slice b l.length cap) l.length (bv l) rfl hown _ A m c (bv bs) rfl (by rw [bv_len, Hm.out]; omega) hr (one_bv _) (by unfold maxLen; omega) (by omega) (by omega) ?_
               intro b' cap' w1 hown1 hg1 hat
               have hX1 := HX.out.grown hg1 (by rw [Hg.out]; exact fun e => hne.out e.symm)
               have hcx1 := hX1.cell
               have hfx1 := hX1.free
               have H1 := Lib.hid (And.intro hown1 (And.intro hg1 (And.intro hat hX1)))
               clear hown1 hg1 hat hX1)
  go_end0
  obtain ⟨r1, r2, r3, r4⟩ := H1.out
  have hp1 : (Value.slice b' (l.length + m) cap').ownBlock ≠ some p := by
    rcases r3 with e | e <;> rw [e]
    · rw [Hg.out]; exact hne.out
    intro e; injection e with e; omega
  refine ⟨rfl, (Value.slice b' (l.length + m) cap').ownBlock, ⟨_, r4.set_ 0 _, rfl, ?_⟩, ?_, ?_⟩
  · rw [bv_app, List.length_append, Hm.out]
    refine ownsRow_block r1 fun k hk => Below.heap_setCell _ _ _ _ (fun e => hp1 (by rw [hk, e]))
  · refine Chg.setCell ?_ (.inl (.inl rfl)) _
    exact ⟨r2.os, r2.tape, r2.output, r2.size, fun k hk hn => r2.block k hk (fun e => hn (.inr (by rw [e, Hg.out])))⟩
  rcases r3 with e | e
  · exact .inl (e.trans Hg.out)
  exact .inr ⟨_, e, Nat.le_refl _⟩

set_option maxRecDepth 100000 in
set_option maxHeartbeats 1000000 in
theorem rwRaw (p : Nat) (g : Option Nat) (l : List UInt8) (A : Option Addr) (m c : Nat) (bs : List UInt8) (w : World) (h : Wrt w 115 p g l) (hr : Rd w w.heap.size A (bv bs)) (hm : bs.length = m) (hlen : l.length + m ≤ 1099511627776) :
    Calls Tryz.prog 62 #[.pointer (some ⟨p, 0, none⟩), .slice A m c] w fun e w' =>
      e = .returned (.tuple #[]) ∧ ∃ g', Wrt w' 115 p g' (l ++ bs) ∧ Chg (fun k => k = p ∨ some k = g) w w' ∧ (g' = g ∨ ∃ k, g' = some k ∧ w.heap.size ≤ k) := by
  obtain ⟨i0, hi0, hz0, hs0, hy0⟩ := info_parts info_u8
  have hne := Lib.hid (h.ne (by decide))
  obtain ⟨v, hX, hg, hown⟩ := h
  obtain ⟨b, cap, hv⟩ := ownsRow_slice hown
  subst hv
  have hpl := hX.lt
  have hcx := hX.cell
  have Hg := Lib.hid hg
  have Hm := Lib.hid hm
  have HX := Lib.hid hX
  clear hg hm hX
  go_enter Tryz.func62, Tryz.ntmps62
  go_wp2_with (at_builtin
               refine wpList_app2 _ rfl (.tmp 10) (.tmp 11) _ rfl 0 5 i0 _ 1 1 Tryz.underlying22 hi0 hz0 hs0 hy0 rfl (by omega) (.slice b l.length cap) l.length (bv l) rfl hown _ A m c (bv bs) rfl (by rw [bv_len, Hm.out]; omega) hr (one_bv _) (by unfold maxLen; omega) (by omega) (by omega) ?_
               intro b' cap' w1 hown1 hg1 hat
               have hX1 := HX.out.grown hg1 (by rw [Hg.out]; exact fun e => hne.out e.symm)
               have hcx1 := hX1.cell
               have hfx1 := hX1.free
               have H1 := Lib.hid (And.intro hown1 (And.intro hg1 (And.intro hat hX1)))
               clear hown1 hg1 hat hX1)
  go_end0
  obtain ⟨r1, r2, r3, r4⟩ := H1.out
  have hp1 : (Value.slice b' (l.length + m) cap').ownBlock ≠ some p := by
    rcases r3 with e | e <;> rw [e]
    · rw [Hg.out]; exact hne.out
    intro e; injection e with e; omega
  refine ⟨rfl, (Value.slice b' (l.length + m) cap').ownBlock, ⟨_, r4.set_ 0 _, rfl, ?_⟩, ?_, ?_⟩
  · rw [bv_app, List.length_append, Hm.out]
    refine ownsRow_block r1 fun k hk => Below.heap_setCell _ _ _ _ (fun e => hp1 (by rw [hk, e]))
  · refine Chg.setCell ?_ (.inl (.inl rfl)) _
    exact ⟨r2.os, r2.tape, r2.output, r2.size, fun k hk hn => r2.block k hk (fun e => hn (.inr (by rw [e, Hg.out])))⟩
  rcases r3 with e | e
  · exact .inl (e.trans Hg.out)
  exact .inr ⟨_, e, Nat.le_refl _⟩

theorem uvarF_le (f n : Nat) : (uvarF f n).length ≤ f := by
  induction f generalizing n with
  | zero => simp [uvarF]
  | succ f ih =>
    rw [uvarF]
    split
    · simp
    have := ih (n / 128); simp; omega
theorem uvar_le (n : Nat) : (uvar n).length ≤ 10 := uvarF_le 10 n

theorem wNew (w : World) : Calls Tryz.prog 30 #[] w fun e w' => e = .returned (.pointer (some ⟨w.heap.size, 0, none⟩)) ∧ Wrt w' 85 w.heap.size none [] ∧ Below w.heap.size w w' := by
  go_enter Tryz.func30, Tryz.ntmps30
  go_wp2
  go_ret
  exact ⟨rfl, ⟨_, Box.new _ _ _, rfl, nil_own _ _ _ _⟩, (Below.refl _ _).alloc (Nat.le_refl _) _⟩

set_option maxRecDepth 100000 in
theorem wByte (p : Nat) (g : Option Nat) (l : List UInt8) (x : UInt8) (w : World) (h : Wrt w 85 p g l) (hlen : l.length ≤ 1000000000000) :
    Calls Tryz.prog 31 #[.pointer (some ⟨p, 0, none⟩), .int .u8 x.toNat] w fun e w' =>
      e = .returned (.tuple #[]) ∧ ∃ g', Wrt w' 85 p g' (l ++ [x]) ∧ Chg (fun k => k = p ∨ some k = g) w w' ∧ (g' = g ∨ ∃ k, g' = some k ∧ w.heap.size ≤ k) := by
  have H := Lib.hid h
  clear h
  go_enter Tryz.func31, Tryz.ntmps31
  go_wp2_with (go_at_call 50; refine (wRaw p g l _ 1 _ [x] _ (H.out.alloc _) (by simpa [bv] using rd_new w #[.int .u8 (x.toNat : Int)] 5) rfl (by omega)).mono ?_; rintro e w1 ⟨rfl, g', h1, h2, h3⟩)
  go_end0
  refine ⟨rfl, g', h1, (((Chg.refl _ w).alloc _).trans h2), ?_⟩
  rcases h3 with h3 | ⟨k, h3, h4⟩
  · exact .inl h3
  exact .inr ⟨k, h3, by simp at h4; omega⟩

set_option maxRecDepth 100000 in
theorem wUvarint (p : Nat) (g : Option Nat) (l : List UInt8) (n : Nat) (hn : n < 18446744073709551616) (w : World) (h : Wrt w 85 p g l) (hlen : l.length ≤ 1000000000000) :
    Calls Tryz.prog 102 #[.pointer (some ⟨p, 0, none⟩), .int .u64 n] w fun e w' =>
      e = .returned (.tuple #[]) ∧ ∃ g', Wrt w' 85 p g' (l ++ uvar n) ∧ Chg (fun k => k = p ∨ some k = g) w w' ∧ (g' = g ∨ ∃ k, g' = some k ∧ w.heap.size ≤ k) := by
  have H := Lib.hid h
  have Hl := Lib.hid (uvar_le n)
  clear h
  go_enter Tryz.func102, Tryz.ntmps102
  go_wp2_with (first
    | (go_at_call 105
       refine (uvarint_any n hn _).mono ?_
       rintro e w1 ⟨v, rfl, hown, hb⟩
       have hv := ownsRow_slice hown
       obtain ⟨b, cap, hv⟩ := hv
       subst hv
       have H1 := Lib.hid (And.intro hown hb)
       clear hown hb)
    | (go_at_call 50; refine (wRaw p g l _ _ _ (uvar n) _ (H.out.below H1.out.2) (ownsRow_rd H1.out.1) rfl (by have := Hl.out; omega)).mono ?_; rintro e w2 ⟨rfl, g', h1, h2, h3⟩))
  go_end0
  refine ⟨rfl, g', h1, (Chg.of_below H1.out.2 _).trans h2, ?_⟩
  rcases h3 with h3 | ⟨k, h3, h4⟩
  · exact .inl h3
  exact .inr ⟨k, h3, Nat.le_trans H1.out.2.size h4⟩

theorem rwNew (w : World) : Calls Tryz.prog 60 #[] w fun e w' => e = .returned (.pointer (some ⟨w.heap.size, 0, none⟩)) ∧ Wrt w' 115 w.heap.size none [] ∧ Below w.heap.size w w' := by
  go_enter Tryz.func60, Tryz.ntmps60
  go_wp2
  go_ret
  exact ⟨rfl, ⟨_, Box.new _ _ _, rfl, nil_own _ _ _ _⟩, (Below.refl _ _).alloc (Nat.le_refl _) _⟩

set_option maxRecDepth 100000 in
theorem rwByte (p : Nat) (g : Option Nat) (l : List UInt8) (x : UInt8) (w : World) (h : Wrt w 115 p g l) (hlen : l.length ≤ 1000000000000) :
    Calls Tryz.prog 61 #[.pointer (some ⟨p, 0, none⟩), .int .u8 x.toNat] w fun e w' =>
      e = .returned (.tuple #[]) ∧ ∃ g', Wrt w' 115 p g' (l ++ [x]) ∧ Chg (fun k => k = p ∨ some k = g) w w' ∧ (g' = g ∨ ∃ k, g' = some k ∧ w.heap.size ≤ k) := by
  have H := Lib.hid h
  clear h
  go_enter Tryz.func61, Tryz.ntmps61
  go_wp2_with (go_at_call 62; refine (rwRaw p g l _ 1 _ [x] _ (H.out.alloc _) (by simpa [bv] using rd_new w #[.int .u8 (x.toNat : Int)] 5) rfl (by omega)).mono ?_; rintro e w1 ⟨rfl, g', h1, h2, h3⟩)
  go_end0
  refine ⟨rfl, g', h1, (((Chg.refl _ w).alloc _).trans h2), ?_⟩
  rcases h3 with h3 | ⟨k, h3, h4⟩
  · exact .inl h3
  exact .inr ⟨k, h3, by simp at h4; omega⟩

set_option maxRecDepth 100000 in
theorem rwUvarint (p : Nat) (g : Option Nat) (l : List UInt8) (n : Nat) (hn : n < 18446744073709551616) (w : World) (h : Wrt w 115 p g l) (hlen : l.length ≤ 1000000000000) :
    Calls Tryz.prog 65 #[.pointer (some ⟨p, 0, none⟩), .int .u64 n] w fun e w' =>
      e = .returned (.tuple #[]) ∧ ∃ g', Wrt w' 115 p g' (l ++ uvar n) ∧ Chg (fun k => k = p ∨ some k = g) w w' ∧ (g' = g ∨ ∃ k, g' = some k ∧ w.heap.size ≤ k) := by
  have H := Lib.hid h
  have Hl := Lib.hid (uvar_le n)
  clear h
  go_enter Tryz.func65, Tryz.ntmps65
  go_wp2_with (first
    | (go_at_call 82
       refine (refUvarint_any n hn _).mono ?_
       rintro e w1 ⟨v, rfl, hown, hb⟩
       have hv := ownsRow_slice hown
       obtain ⟨b, cap, hv⟩ := hv
       subst hv
       have H1 := Lib.hid (And.intro hown hb)
       clear hown hb)
    | (go_at_call 62; refine (rwRaw p g l _ _ _ (uvar n) _ (H.out.below H1.out.2) (ownsRow_rd H1.out.1) rfl (by have := Hl.out; omega)).mono ?_; rintro e w2 ⟨rfl, g', h1, h2, h3⟩))
  go_end0
  refine ⟨rfl, g', h1, (Chg.of_below H1.out.2 _).trans h2, ?_⟩
  rcases h3 with h3 | ⟨k, h3, h4⟩
  · exact .inl h3
  exact .inr ⟨k, h3, Nat.le_trans H1.out.2.size h4⟩
end Go.Proofs.YtmhlgbpgdhhfnaaGreat
namespace Go.Proofs.YtmhlgbpgdhhfnaaGreat
open Go.RowKit Go.Maps

def be32 (n : Nat) : List UInt8 := [UInt8.ofNat (n / 16777216), UInt8.ofNat (n / 65536), UInt8.ofNat (n / 256), UInt8.ofNat n]
theorem bv_be32 (n : Nat) (hn : n < 4294967296) : bv (be32 n) = [.int .u8 ((n : Int) / 16777216), .int .u8 ((n : Int) / 65536 % 256), .int .u8 ((n : Int) / 256 % 256), .int .u8 ((n : Int) % 256)] := by
  simp [bv, be32]; omega
theorem bytesWorld_below (w : World) (e : TypeId) (s : ByteArray) : Below w.heap.size w (Lib.bytesWorld w e s) :=
  ⟨by simp [Lib.bytesWorld, World.freeze, World.alloc, World.drew, -World.alloc_eq, -World.drew_eq], by simp [Lib.bytesWorld, World.freeze, World.alloc, World.drew, -World.alloc_eq, -World.drew_eq],
    by simp [Lib.bytesWorld, World.freeze, World.alloc, World.drew, -World.alloc_eq, -World.drew_eq], by rw [Lib.bytesWorld_size]; omega, fun k hk => Lib.bytesWorld_at_old w e s k hk⟩
theorem bytesWorld_rd (w : World) (e : TypeId) (s : ByteArray) : Rd (Lib.bytesWorld w e s) (Lib.bytesWorld w e s).heap.size (some ⟨w.heap.size, 0, none⟩) (bv s.data.toList) := by
  intro j u hj
  obtain ⟨hl, hv⟩ := List.getElem?_eq_some_iff.1 hj
  have hl' : j < s.size := by simpa [bv] using hl
  refine ⟨_, rfl, by rw [Lib.bytesWorld_size]; simp, ?_⟩
  have e1 : (⟨w.heap.size, 0, none⟩ : Addr).add j = ⟨w.heap.size, j, none⟩ := by unfold Addr.add; split <;> simp_all
  rw [e1, Lib.bytesWorld_cell w e s j hl', ← hv]
  simp [bv, List.getD_eq_getElem?_getD, hl']

set_option maxRecDepth 100000 in
theorem wU32 (p : Nat) (g : Option Nat) (l : List UInt8) (n : Nat) (hn : n < 4294967296) (w : World) (h : Wrt w 85 p g l) (hlen : l.length ≤ 1000000000000) :
    Calls Tryz.prog 32 #[.pointer (some ⟨p, 0, none⟩), .int .u32 n] w fun e w' =>
      e = .returned (.tuple #[]) ∧ ∃ g', Wrt w' 85 p g' (l ++ be32 n) ∧ Chg (fun k => k = p ∨ some k = g) w w' ∧ (g' = g ∨ ∃ k, g' = some k ∧ w.heap.size ≤ k) := by
  have H := Lib.hid h
  have Hbe := Lib.hid (bv_be32 n hn)
  clear h
  go_enter Tryz.func32, Tryz.ntmps32
  go_wp2_with (go_at_call 50; refine (wRaw p g l _ 4 _ (be32 n) _ (H.out.alloc _) (by rw [Hbe.out]; simpa using rd_new w #[.int .u8 ((n : Int) / 16777216), .int .u8 ((n : Int) / 65536 % 256), .int .u8 ((n : Int) / 256 % 256), .int .u8 ((n : Int) % 256)] 5) rfl (by omega)).mono ?_; rintro e w1 ⟨rfl, g', h1, h2, h3⟩)
  go_end0
  refine ⟨rfl, g', h1, (((Chg.refl _ w).alloc _).trans h2), ?_⟩
  rcases h3 with h3 | ⟨k, h3, h4⟩
  · exact .inl h3
  exact .inr ⟨k, h3, by simp at h4; omega⟩

set_option maxRecDepth 100000 in
theorem rwText (p : Nat) (g : Option Nat) (l : List UInt8) (s : ByteArray) (w : World) (h : Wrt w 115 p g l) (hlen : l.length ≤ 1000000000000) (hs : s.size ≤ 1000000) :
    Calls Tryz.prog 66 #[.pointer (some ⟨p, 0, none⟩), .string s] w fun e w' =>
      e = .returned (.tuple #[]) ∧ ∃ g', Wrt w' 115 p g' (l ++ (uvar s.size ++ s.data.toList)) ∧ Chg (fun k => k = p ∨ some k = g) w w' ∧ (g' = g ∨ ∃ k, g' = some k ∧ w.heap.size ≤ k) := by
  have hcv := fun W => Lib.run_convert_string_bytes (P := Tryz.prog) W 9 22 5 s Tryz.underlying9 Tryz.underlying22 Tryz.underlying5
  have H := Lib.hid h
  have Hl := Lib.hid (uvar_le s.size)
  clear h
  go_enter Tryz.func66, Tryz.ntmps66
  go_wp2_with (first
    | (go_at_call 82
       refine (refUvarint_any s.size (by omega) _).mono ?_
       rintro e w0 ⟨v, rfl, hown, hb⟩
       have hv := ownsRow_slice hown
       obtain ⟨b, cap, hv⟩ := hv
       subst hv
       have H0 := Lib.hid (And.intro hown hb)
       clear hown hb)
    | (go_at_call 62; refine (rwRaw p g l _ _ _ (uvar s.size) _ (H.out.below H0.out.2) (ownsRow_rd H0.out.1) rfl (by have := Hl.out; omega)).mono ?_; rintro e w1 ⟨rfl, g1, h1, h2, h3⟩
       have H1 : Hid (Wrt w1 115 p g1 (l ++ uvar s.size) ∧ Chg (fun k => k = p ∨ some k = g) w w1 ∧ (g1 = g ∨ ∃ k, g1 = some k ∧ w.heap.size ≤ k)) :=
         ⟨h1, (Chg.of_below H0.out.2 _).trans h2, h3.imp_right fun ⟨k, a, b⟩ => ⟨k, a, Nat.le_trans H0.out.2.size b⟩⟩
       clear h1 h2 h3 H0)
    | (go_at_call 62; refine (rwRaw p g1 (l ++ uvar s.size) _ _ _ s.data.toList _ (H1.out.1.below (bytesWorld_below _ _ _)) (bytesWorld_rd _ _ _) rfl (by have := Hl.out; rw [List.length_append]; simp; omega)).mono ?_; rintro e w2 ⟨rfl, g2, h1, h2, h3⟩))
  go_end0
  obtain ⟨r1, r2, r3⟩ := H1.out
  refine ⟨rfl, g2, by rw [← List.append_assoc]; exact h1, ?_, ?_⟩
  · have hc : Chg (fun k => k = p ∨ some k = g1) w1 w2 := (Chg.of_below (bytesWorld_below w1 _ s) _).trans h2
    refine ⟨hc.os.trans r2.os, hc.tape.trans r2.tape, hc.output.trans r2.output, Nat.le_trans r2.size hc.size, fun k hk hn => (hc.block k (Nat.lt_of_lt_of_le hk r2.size) ?_).trans (r2.block k hk hn)⟩
    rintro (e | e)
    · exact hn (.inl e)
    rcases r3 with r3 | ⟨k', r3, r4⟩
    · exact hn (.inr (e.trans r3))
    rw [r3] at e; cases e; omega
  have hs2 := r2.size
  rw [Lib.bytesWorld_size] at h3
  rcases h3 with h3 | ⟨k, h3, h4⟩
  · rcases r3 with r3 | ⟨k', r3, r4⟩
    · exact .inl (h3.trans r3)
    exact .inr ⟨k', h3.trans r3, r4⟩
  exact .inr ⟨k, h3, by omega⟩

set_option maxRecDepth 100000 in
theorem wBytes (p : Nat) (g : Option Nat) (l : List UInt8) (w : World) (h : Wrt w 85 p g l) (hlen : l.length ≤ 1000000000000) :
    Calls Tryz.prog 35 #[.pointer (some ⟨p, 0, none⟩)] w fun e w' =>
      ∃ b cap, e = .returned (.slice b l.length cap) ∧ w'.ownsRow w.heap.size 5 1 (.slice b l.length cap) l.length (bv l) ∧ Below w.heap.size w w' := by
  obtain ⟨i0, hi0, hz0, hs0, hy0⟩ := info_parts info_u8
  obtain ⟨v, hX, hg, hown⟩ := h
  obtain ⟨b, cap, hv⟩ := ownsRow_slice hown
  subst hv
  have hpl := hX.lt
  have hcx := hX.cell
  go_enter Tryz.func35, Tryz.ntmps35
  go_wp2_with (at_builtin
               refine wpList_app2 _ rfl (.const (.slice none 0 0)) (.tmp 8) _ rfl w.heap.size 5 i0 _ 1 1 Tryz.underlying22 hi0 hz0 hs0 hy0 rfl (by omega) (.slice none 0 0) 0 [] rfl (nil_own _ _ _ _) _ b l.length cap (bv l) rfl (by rw [bv_len]; omega) (ownsRow_rd hown) (one_bv _) (by unfold maxLen; omega) (by omega) (Nat.le_refl _) ?_
               intro b' cap' w1 hown1 hg1 _)
  go_ret
  exact ⟨b', cap', by simp, by simpa using hown1, (Below.refl _ _).grown hg1 (Nat.le_refl _) (by simp [Value.ownBlock])⟩

set_option maxRecDepth 100000 in
theorem rwBytes (p : Nat) (g : Option Nat) (l : List UInt8) (w : World) (h : Wrt w 115 p g l) (hlen : l.length ≤ 1000000000000) :
    Calls Tryz.prog 64 #[.pointer (some ⟨p, 0, none⟩)] w fun e w' =>
      ∃ b cap, e = .returned (.slice b l.length cap) ∧ w'.ownsRow w.heap.size 5 1 (.slice b l.length cap) l.length (bv l) ∧ Below w.heap.size w w' := by
  obtain ⟨i0, hi0, hz0, hs0, hy0⟩ := info_parts info_u8
  obtain ⟨v, hX, hg, hown⟩ := h
  obtain ⟨b, cap, hv⟩ := ownsRow_slice hown
  subst hv
  have hpl := hX.lt
  have hcx := hX.cell
  go_enter Tryz.func64, Tryz.ntmps64
  go_wp2_with (at_builtin
               refine wpList_app2 _ rfl (.tmp 5) (.tmp 9) _ rfl w.heap.size 5 i0 _ 1 1 Tryz.underlying22 hi0 hz0 hs0 hy0 rfl (by omega) (.slice (some ⟨w.heap.size, 0, none⟩) 0 0) 0 [] rfl (own_empty _ _ _ _ (Nat.le_refl _)) _ b l.length cap (bv l) rfl (by rw [bv_len]; omega) ((ownsRow_rd hown).below ((Below.refl _ _).alloc (Nat.le_refl _) _)) (one_bv _) (by unfold maxLen; omega) (by omega) (by simp) ?_
               intro b' cap' w1 hown1 hg1 _)
  go_ret
  exact ⟨b', cap', by simp, by simpa using hown1, ((Below.refl _ _).alloc (Nat.le_refl _) _).grown hg1 (by simp) (by simp [Value.ownBlock])⟩
end Go.Proofs.YtmhlgbpgdhhfnaaGreat
namespace Go.Proofs.YtmhlgbpgdhhfnaaGreat
open Go.RowKit Go.Maps

theorem ofInt32 (a : Nat) (ha : a < 4294967296) : (BitVec.ofInt 32 (a : Int)).toNat = a := by
  rw [BitVec.ofInt_natCast, BitVec.toNat_ofNat]; exact Nat.mod_eq_of_lt (by omega)
theorem u32_xor (a b : Nat) (ha : a < 4294967296) (hb : b < 4294967296) : bits .xor .u32 (a : Int) (b : Int) = ((a ^^^ b : Nat) : Int) := by
  have hx : a ^^^ b < 2 ^ 32 := Nat.xor_lt_two_pow (by omega) (by omega)
  show IntKind.u32.wrap ((BitVec.ofInt 32 (a : Int) ^^^ BitVec.ofInt 32 (b : Int)).toNat : Int) = _
  rw [BitVec.toNat_xor, ofInt32 a ha, ofInt32 b hb, IntKind.wrap_u32]
  omega
theorem u32_and (a b : Nat) (ha : a < 4294967296) (hb : b < 4294967296) : bits .and .u32 (a : Int) (b : Int) = ((a &&& b : Nat) : Int) := by
  have hx : a &&& b < 2 ^ 32 := Nat.and_lt_two_pow _ (by omega)
  show IntKind.u32.wrap ((BitVec.ofInt 32 (a : Int) &&& BitVec.ofInt 32 (b : Int)).toNat : Int) = _
  rw [BitVec.toNat_and, ofInt32 a ha, ofInt32 b hb, IntKind.wrap_u32]
  omega

/-- One step of the register, for a bit of 0. -/
def crcStep (x : Nat) : Nat := if x % 2 = 1 then x / 2 ^^^ 2197175160 else x / 2
def crcN : Nat → Nat → Nat
  | 0, x => x
  | k + 1, x => crcN k (crcStep x)
theorem crcStep_lt {x : Nat} (h : x < 4294967296) : crcStep x < 4294967296 := by
  unfold crcStep
  split
  · exact Nat.xor_lt_two_pow (n := 32) (by omega) (by omega)
  omega
theorem crcN_lt (k : Nat) {x : Nat} (h : x < 4294967296) : crcN k x < 4294967296 := by
  induction k generalizing x with
  | zero => exact h
  | succ k ih => exact ih (crcStep_lt h)
theorem xor_even (a b : Nat) : (a ^^^ 2 * b) % 2 = a % 2 ∧ (a ^^^ 2 * b) / 2 = a / 2 ^^^ b := by
  constructor
  · have h := Nat.xor_mod_two_pow (a := a) (b := 2 * b) (n := 1)
    simp at h
    exact h
  have h := Nat.xor_div_two_pow (a := a) (b := 2 * b) (n := 1)
  simp at h
  exact h
theorem crcStep_xor (a b : Nat) : crcStep (a ^^^ 2 * b) = crcStep a ^^^ b := by
  obtain ⟨h1, h2⟩ := xor_even a b
  unfold crcStep
  rw [h1, h2]
  split
  · rw [Nat.xor_assoc, Nat.xor_assoc, Nat.xor_comm b]
  rfl
theorem crcN_xor (k a b : Nat) : crcN k (a ^^^ 2 ^ k * b) = crcN k a ^^^ b := by
  induction k generalizing a b with
  | zero => simp [crcN]
  | succ k ih => rw [crcN, show 2 ^ (k + 1) * b = 2 * (2 ^ k * b) by rw [Nat.pow_succ]; simp [Nat.mul_comm, Nat.mul_left_comm], crcStep_xor, ih]; rfl
/-- Four steps by the table. -/
theorem crc4_table (x : Nat) : crcN 4 (x % 16) ^^^ x / 16 = crcN 4 x := by
  rw [← crcN_xor]
  congr 1
  have h := Nat.two_pow_add_eq_or_of_lt (i := 4) (b := x % 16) (Nat.mod_lt _ (by decide)) (x / 16)
  have h2 : x % 16 ^^^ 2 ^ 4 * (x / 16) = x % 16 ||| 2 ^ 4 * (x / 16) := by
    apply Nat.eq_of_testBit_eq
    intro i
    rw [Nat.testBit_xor, Nat.testBit_or]
    rcases Nat.lt_or_ge i 4 with hi | hi
    · have h4 : decide (i ≥ 4) = false := by simp; omega
      rw [Nat.testBit_two_pow_mul, h4]; simp
    have hp : (2 : Nat) ^ 4 ≤ 2 ^ i := Nat.pow_le_pow_right (by omega) hi
    have hm : x % 16 < 2 ^ 4 := Nat.mod_lt _ (by decide)
    have : (x % 16).testBit i = false := Nat.testBit_lt_two_pow (Nat.lt_of_lt_of_le hm hp)
    simp [this]
  rw [h2, Nat.or_comm, ← h]
  omega

set_option maxRecDepth 100000 in
theorem refM (n : Nat) (hn : n < 4294967296) (w : World) : Calls Tryz.prog 67 #[.int .u32 n] w fun e w' => e = .returned (.int .u32 (crcStep n)) ∧ w = w' := by
  have e : ((n / 2 : Nat) : Int) = (n : Int) / 2 := by omega
  have h1 : bits .xor .u32 ((n : Int) / 2) 2197175160 = ((n / 2 ^^^ 2197175160 : Nat) : Int) := by rw [← e]; exact u32_xor (n / 2) 2197175160 (by omega) (by omega)
  clear e
  by_cases ho : n % 2 = 1
  · have ho' : (((n : Int) % 2) == 1) = true := by simp; omega
    go_enter Tryz.func67, Tryz.ntmps67
    go_wp2
    go_ret
    exact ⟨ret_int (by rw [crcStep, if_pos ho]), rfl⟩
  have ho' : (((n : Int) % 2) == 1) = false := by simp; omega
  go_enter Tryz.func67, Tryz.ntmps67
  go_wp2
  go_ret
  exact ⟨ret_int (by rw [crcStep, if_neg ho]; omega), rfl⟩

set_option maxRecDepth 100000 in
theorem octStep (n : Nat) (hn : n < 4294967296) (w : World) : Calls Tryz.prog 77 #[.int .u32 n] w fun e w' => e = .returned (.int .u32 (crcStep n)) ∧ w = w' := by
  have e : ((n / 2 : Nat) : Int) = (n : Int) / 2 := by omega
  have h1 : bits .xor .u32 ((n : Int) / 2) 2197175160 = ((n / 2 ^^^ 2197175160 : Nat) : Int) := by rw [← e]; exact u32_xor (n / 2) 2197175160 (by omega) (by omega)
  clear e
  have h2 := u32_and n 1 hn (by omega)
  rw [Nat.and_one_is_mod] at h2
  by_cases ho : n % 2 = 1
  · have h3 : bits .and .u32 (n : Int) 1 = 1 := h2.trans (by rw [ho]; rfl)
    clear h2
    go_enter Tryz.func77, Tryz.ntmps77
    go_wp2
    go_ret
    exact ⟨ret_int (by rw [crcStep, if_pos ho]), rfl⟩
  have h3 : bits .and .u32 (n : Int) 1 = 0 := h2.trans (by rw [show n % 2 = 0 by omega]; rfl)
  clear h2
  go_enter Tryz.func77, Tryz.ntmps77
  go_wp2
  go_ret
  exact ⟨ret_int (by rw [crcStep, if_neg ho]; omega), rfl⟩
end Go.Proofs.YtmhlgbpgdhhfnaaGreat
namespace Go.Proofs.YtmhlgbpgdhhfnaaGreat
open Go.RowKit Go.Maps

theorem crcN_snoc (k x : Nat) : crcN (k + 1) x = crcStep (crcN k x) := by
  induction k generalizing x with
  | zero => rfl
  | succ k ih => rw [crcN, ih]; rfl
theorem not32 (x : Nat) (hx : x < 4294967296) : bits .xor .u32 IntKind.u32.max (x : Int) = ((4294967295 - x : Nat) : Int) := by
  have e : IntKind.u32.max = ((4294967295 : Nat) : Int) := by decide
  rw [e, u32_xor 4294967295 x (by omega) hx]
  have h : (BitVec.allOnes 32 ^^^ BitVec.ofNat 32 x) = ~~~ (BitVec.ofNat 32 x) := BitVec.allOnes_xor
  have h2 := congrArg BitVec.toNat h
  rw [BitVec.toNat_xor, BitVec.toNat_not, BitVec.toNat_allOnes, BitVec.toNat_ofNat, Nat.mod_eq_of_lt (show x < 2 ^ 32 by omega)] at h2
  have h3 : (4294967295 : Nat) ^^^ x = 4294967295 - x := h2
  rw [h3]
def crcX (x : Nat) (l : List UInt8) : Nat := l.foldl (fun x c => crcN 8 (x ^^^ c.toNat)) x
theorem crcX_snoc (x : Nat) (l : List UInt8) (c : UInt8) : crcX x (l ++ [c]) = crcN 8 (crcX x l ^^^ c.toNat) := by simp [crcX, List.foldl_append]
theorem xor32 {a b : Nat} (ha : a < 4294967296) (hb : b < 4294967296) : a ^^^ b < 4294967296 := Nat.xor_lt_two_pow (n := 32) ha hb
theorem crcX_lt (x : Nat) (l : List UInt8) (h : x < 4294967296) : crcX x l < 4294967296 := by
  induction l generalizing x with
  | nil => exact h
  | cons c l ih => exact ih _ (crcN_lt 8 (xor32 h (by have := c.toNat_lt; omega)))
/-- The check sum of a text that goes on. -/
def crcE (s : Nat) (l : List UInt8) : Nat := 4294967295 - crcX (4294967295 - s) l

set_option maxRecDepth 100000 in
theorem refThrough (x : Nat) (c : Nat) (hx : x < 4294967296) (hc : c < 256) (w : World) : Calls Tryz.prog 46 #[.int .u32 x, .int .u8 c] w fun e w' => e = .returned (.int .u32 (crcN 8 (x ^^^ c))) ∧ w = w' := by
  have h1 := u32_xor x c hx (by omega)
  have hlt : x ^^^ c < 4294967296 := xor32 hx (by omega)
  generalize x ^^^ c = y at h1 hlt
  go_enter Tryz.func46, Tryz.ntmps46
  go_wp2
  go_loop [0, 5] (fun v i => ∃ k : Nat, k ≤ 8 ∧ i = .int .i64 k ∧ v = .int .u32 (crcN k y)) (fun _ i => 8 - (intOf i).toNat)
  case atStart => exact ⟨0, by omega, rfl, rfl⟩
  case round =>
    obtain ⟨k, hk, rfl, rfl⟩ := hrel
    have hq := crcN_lt k hlt
    have Hs := Lib.hid (crcN_snoc k y)
    by_cases hk8 : k < 8
    · go_wp2_with (go_at_call 67; refine (refM (crcN k y) hq _).mono ?_; rintro e w' ⟨rfl, rfl⟩)
      go_round
      case rel => exact ⟨k + 1, by omega, by go_num, by rw [Hs.out]⟩
      case measure => simp [intOf]; omega
    have hk88 : Hid (k = 8) := by show k = 8; omega
    go_wp2
    go_ret
    refine ⟨ret_int ?_, rfl⟩
    rw [hk88.out]

set_option maxRecDepth 100000 in
theorem refExtend (s : Nat) (hs : s < 4294967296) (A : Option Addr) (n c : Nat) (l : List UInt8) (w : World) (hA : Rd w w.heap.size A (bv l)) (hn : l.length = n) (hmx : n ≤ maxLen) :
    Calls Tryz.prog 22 #[.int .u32 s, .slice A n c] w fun e w' => e = .returned (.int .u32 (crcE s l)) ∧ w = w' := by
  unfold maxLen at hmx
  have hx0 : 4294967295 - s < 4294967296 := by omega
  have hnot := not32 s hs
  have Hn := Lib.hid hn
  clear hn
  go_enter Tryz.func22, Tryz.ntmps22
  go_wp2
  go_loop [5, 6] (fun v i => ∃ k : Nat, k ≤ n ∧ i = .int .i64 k ∧ v = .int .u32 (crcX (4294967295 - s) (l.take k))) (fun _ i => n - (intOf i).toNat)
  case atStart => exact ⟨0, by omega, rfl, rfl⟩
  case round =>
    obtain ⟨k, hk, rfl, rfl⟩ := hrel
    have hq := crcX_lt _ (l.take k) hx0
    by_cases hlt : k < n
    · have hkl : k < l.length := by rw [Hn.out]; exact hlt
      obtain ⟨ad, rfl, _, hc⟩ := hA k (.int .u8 l[k].toNat) (by simp [bv, hkl])
      have hcb := l[k].toNat_lt
      have Hs := Lib.hid (show crcX (4294967295 - s) (l.take (k + 1)) = crcN 8 (crcX (4294967295 - s) (l.take k) ^^^ l[k].toNat) by rw [List.take_succ_eq_append_getElem hkl, crcX_snoc])
      go_wp2_with (go_at_call 46; refine (refThrough (crcX (4294967295 - s) (l.take k)) l[k].toNat hq hcb _).mono ?_; rintro e w' ⟨rfl, rfl⟩)
      go_round
      case rel => exact ⟨k + 1, by omega, by go_num, by rw [Hs.out]⟩
      case measure => simp [intOf]; omega
    have e : Hid (l.take k = l) := List.take_of_length_le (by have := Hn.out; omega)
    have hnot2 := not32 _ hq
    go_wp2
    go_ret
    refine ⟨ret_int ?_, rfl⟩
    rw [e.out]; rfl
end Go.Proofs.YtmhlgbpgdhhfnaaGreat
namespace Go.Proofs.YtmhlgbpgdhhfnaaGreat
open Go.RowKit Go.Maps

/-- The table of four steps, its first i rows. -/
def tabA (i : Nat) : Array Value := ((List.range 16).map fun j => if j < i then Value.int .u32 (crcN 4 j : Nat) else Value.int .u32 0).toArray
theorem tabA_get (i j : Nat) (hj : j < 16) : (tabA i)[j]? = some (if j < i then Value.int .u32 (crcN 4 j : Nat) else Value.int .u32 0) := by
  simp [tabA, hj]
theorem tabA_set (i : Nat) : (tabA i).setIfInBounds i (.int .u32 (crcN 4 i : Nat)) = tabA (i + 1) := by
  apply Array.ext_getElem?
  intro j
  rcases Nat.lt_or_ge j 16 with hj | hj
  · rw [tabA_get (i + 1) j hj, Array.getElem?_setIfInBounds]
    by_cases hij : i = j
    · subst hij
      have : i < (tabA i).size := by simp [tabA]; omega
      simp [this]
    rw [if_neg hij, tabA_get i j hj]
    by_cases h : j < i
    · rw [if_pos h, if_pos (by omega)]
    rw [if_neg h, if_neg (by omega)]
  rw [Array.getElem?_eq_none (by simp [tabA]; omega), Array.getElem?_eq_none (by simp [tabA]; omega)]
theorem tabA_full : tabA 16 = #[.int .u32 0, .int .u32 274646895, .int .u32 549293790, .int .u32 820201905, .int .u32 1098587580, .int .u32 1361435347, .int .u32 1640403810, .int .u32 1905808397, .int .u32 2197175160, .int .u32 2460548119, .int .u32 2722870694, .int .u32 2987750089, .int .u32 3280807620, .int .u32 3553878443, .int .u32 3811616794, .int .u32 4084100981] := rfl
theorem tabA_zero : tabA 0 = #[.int .u32 0, .int .u32 0, .int .u32 0, .int .u32 0, .int .u32 0, .int .u32 0, .int .u32 0, .int .u32 0, .int .u32 0, .int .u32 0, .int .u32 0, .int .u32 0, .int .u32 0, .int .u32 0, .int .u32 0, .int .u32 0] := rfl

set_option maxRecDepth 100000 in
set_option maxHeartbeats 1000000 in
theorem octSums (w : World) : Calls Tryz.prog 51 #[] w fun e w' => e = .returned (.agg #[.int .u32 0, .int .u32 274646895, .int .u32 549293790, .int .u32 820201905, .int .u32 1098587580, .int .u32 1361435347, .int .u32 1640403810, .int .u32 1905808397, .int .u32 2197175160, .int .u32 2460548119, .int .u32 2722870694, .int .u32 2987750089, .int .u32 3280807620, .int .u32 3553878443, .int .u32 3811616794, .int .u32 4084100981]) ∧ Below w.heap.size w w' := by
  go_enter Tryz.func51, Tryz.ntmps51
  go_wp2
  go_loopw [4] (fun i wr => ∃ k : Nat, k ≤ 16 ∧ i = .int .i64 k ∧ Below w.heap.size w wr ∧ Box wr w.heap.size 88 (tabA 0) ∧ Box wr (w.heap.size + 1) 88 (tabA k)) (fun i _ => 16 - (intOf i).toNat)
  case atStart =>
    refine ⟨0, by omega, rfl, ((Below.refl _ _).alloc (Nat.le_refl _) _).alloc (by simp) _, (Box.new w _ _).alloc _, ?_⟩
    rw [tabA_zero]
    simpa using Box.new (w.alloc (.cells #[.int .u32 0, .int .u32 0, .int .u32 0, .int .u32 0, .int .u32 0, .int .u32 0, .int .u32 0, .int .u32 0, .int .u32 0, .int .u32 0, .int .u32 0, .int .u32 0, .int .u32 0, .int .u32 0, .int .u32 0, .int .u32 0] 88)) 88 _
  case round =>
    obtain ⟨k, hk, rfl, hb, hX, hY⟩ := hrel
    by_cases hlt : k < 16
    · have HX := Lib.hid hX
      have HY := Lib.hid hY
      have Hb := Lib.hid hb
      have hck := hY.cell k
      rw [tabA_get k k hlt, if_neg (by omega)] at hck
      have hfk := hY.free k
      have hdk : decide ((k : Int) < 16) = true := decide_eq_true (by omega)
      clear hX hY hb
      go_wp2
      go_loop [3, 9] (fun v j => ∃ m : Nat, m ≤ 4 ∧ j = .int .i64 m ∧ v = .int .u32 (crcN m k)) (fun _ j => 4 - (intOf j).toNat)
      case atStart => exact ⟨0, by omega, rfl, by simp [crcN]⟩
      case round =>
        obtain ⟨m, hm, rfl, rfl⟩ := hrel
        have hq := crcN_lt m (show k < 4294967296 by omega)
        have Hs := Lib.hid (crcN_snoc m k)
        by_cases hm4 : m < 4
        · go_wp2_with (go_at_call 77; refine (octStep (crcN m k) hq _).mono ?_; rintro e w' ⟨rfl, rfl⟩)
          go_round
          case rel => exact ⟨m + 1, by omega, by go_num, by rw [Hs.out]⟩
          case measure => simp [intOf]; omega
        have hm44 : Hid (m = 4) := by show m = 4; omega
        go_wp2
        go_roundw
        case rel =>
          rw [hm44.out]
          refine ⟨k + 1, by omega, by go_num, Hb.out.setCell (by simp) _, HX.out.far (by simp) _, ?_⟩
          rw [← tabA_set k]
          exact HY.out.set_ k _
        case measure => simp [intOf]; omega
    have hkk : k = 16 := by omega
    rw [hkk, tabA_full] at hY
    have hcy := hY.cell
    have hcx := hX.cell
    have hfx := hX.free
    have Hb := Lib.hid hb
    clear hX hY hb hkk
    rw [tabA_zero] at hcx
    go_wp2
    refine bodyPost_ret (v := .agg #[.int .u32 0, .int .u32 274646895, .int .u32 549293790, .int .u32 820201905, .int .u32 1098587580, .int .u32 1361435347, .int .u32 1640403810, .int .u32 1905808397, .int .u32 2197175160, .int .u32 2460548119, .int .u32 2722870694, .int .u32 2987750089, .int .u32 3280807620, .int .u32 3553878443, .int .u32 3811616794, .int .u32 4084100981]) ?_ rfl ?_
    · simp [results, Tryz.results51, go_sem, hcx]
    refine ⟨rfl, ?_⟩
    repeat (first | with_reducible exact Hb.out | refine Below.setCell ?_ (by simp) _)
end Go.Proofs.YtmhlgbpgdhhfnaaGreat
namespace Go.Proofs.YtmhlgbpgdhhfnaaGreat
open Go.RowKit Go.Maps

theorem tab_cell (w : World) (t : TypeId) (j : Nat) (hj : j < 16) : (w.alloc (.cells #[.int .u32 0, .int .u32 274646895, .int .u32 549293790, .int .u32 820201905, .int .u32 1098587580, .int .u32 1361435347, .int .u32 1640403810, .int .u32 1905808397, .int .u32 2197175160, .int .u32 2460548119, .int .u32 2722870694, .int .u32 2987750089, .int .u32 3280807620, .int .u32 3553878443, .int .u32 3811616794, .int .u32 4084100981] t)).cell? ⟨w.heap.size, j, none⟩ = some (.int .u32 (crcN 4 j : Nat)) := by
  rw [World.cell?_alloc_new, ← tabA_full, tabA_get 16 j hj, if_pos hj]
theorem crc8_of4 (x : Nat) : crcN 4 (crcN 4 x) = crcN 8 x := rfl

set_option maxRecDepth 100000 in
set_option maxHeartbeats 2000000 in
theorem octExtend (s : Nat) (hs : s < 4294967296) (A : Option Addr) (n c : Nat) (l : List UInt8) (w : World) (hA : Rd w w.heap.size A (bv l)) (hn : l.length = n) (hmx : n ≤ maxLen) :
    Calls Tryz.prog 34 #[.int .u32 s, .slice A n c] w fun e w' => e = .returned (.int .u32 (crcE s l)) ∧ Below w.heap.size w w' := by
  unfold maxLen at hmx
  have hx0 : 4294967295 - s < 4294967296 := by omega
  have hnot := not32 s hs
  have Hn := Lib.hid hn
  have HA := Lib.hid hA
  clear hn hA
  go_enter Tryz.func34, Tryz.ntmps34
  go_wp2_with (go_at_call 51; refine (octSums _).mono ?_; rintro e w1 ⟨rfl, hb1⟩; have Hb1 := Lib.hid hb1; clear hb1)
  go_loop [5, 14] (fun v i => ∃ k : Nat, k ≤ n ∧ i = .int .i64 k ∧ v = .int .u32 (crcX (4294967295 - s) (l.take k))) (fun _ i => n - (intOf i).toNat)
  case atStart => exact ⟨0, by omega, rfl, rfl⟩
  case round =>
    obtain ⟨k, hk, rfl, rfl⟩ := hrel
    have hq := crcX_lt _ (l.take k) hx0
    by_cases hlt : k < n
    · have hkl : k < l.length := by rw [Hn.out]; exact hlt
      have hrd := HA.out.below (Hb1.out.alloc Hb1.out.size (.cells #[.int .u32 0, .int .u32 274646895, .int .u32 549293790, .int .u32 820201905, .int .u32 1098587580, .int .u32 1361435347, .int .u32 1640403810, .int .u32 1905808397, .int .u32 2197175160, .int .u32 2460548119, .int .u32 2722870694, .int .u32 2987750089, .int .u32 3280807620, .int .u32 3553878443, .int .u32 3811616794, .int .u32 4084100981] 88))
      obtain ⟨ad, rfl, _, hc⟩ := hrd k (.int .u8 l[k].toNat) (by simp [bv, hkl])
      have hcb := l[k].toNat_lt
      have Hs := Lib.hid (show crcX (4294967295 - s) (l.take (k + 1)) = crcN 8 (crcX (4294967295 - s) (l.take k) ^^^ l[k].toNat) by rw [List.take_succ_eq_append_getElem hkl, crcX_snoc])
      generalize crcX (4294967295 - s) (l.take k) = x at hq Hs
      have h1 := u32_xor x l[k].toNat hq (by omega)
      have hy := xor32 hq (show l[k].toNat < 4294967296 by omega)
      generalize x ^^^ l[k].toNat = y at h1 hy Hs
      have h2 := u32_and y 15 hy (by omega)
      rw [show (15 : Nat) = 2 ^ 4 - 1 from rfl, Nat.and_two_pow_sub_one_eq_mod] at h2
      have h2' : bits .and .u32 (y : Int) 15 = ((y % 16 : Nat) : Int) := h2
      have ht1 := tab_cell w1 88 (y % 16) (Nat.mod_lt _ (by omega))
      have hz := crcN_lt 4 hy
      have e1 : ((y / 16 : Nat) : Int) = (y : Int) / 16 := by omega
      have h3 := u32_xor (crcN 4 (y % 16)) (y / 16) (crcN_lt 4 (by omega)) (by omega)
      rw [crc4_table, e1] at h3
      have hb1 : (y % 16 : Nat) < 16 := Nat.mod_lt _ (by omega)
      have Hz := Lib.hid (crc8_of4 y)
      generalize crcN 4 y = z at h3 hz Hz
      generalize crcN 4 (y % 16) = t1 at h3 ht1
      generalize y % 16 = y1 at h2' ht1 hb1
      have h4 := u32_and z 15 hz (by omega)
      rw [show (15 : Nat) = 2 ^ 4 - 1 from rfl, Nat.and_two_pow_sub_one_eq_mod] at h4
      have h4' : bits .and .u32 (z : Int) 15 = ((z % 16 : Nat) : Int) := h4
      have ht2 := tab_cell w1 88 (z % 16) (Nat.mod_lt _ (by omega))
      have e2 : ((z / 16 : Nat) : Int) = (z : Int) / 16 := by omega
      have h5 := u32_xor (crcN 4 (z % 16)) (z / 16) (crcN_lt 4 (by omega)) (by omega)
      rw [crc4_table, e2] at h5
      have hb2 : (z % 16 : Nat) < 16 := Nat.mod_lt _ (by omega)
      have Hf := Lib.hid (show crcN 4 z = crcN 8 y from Hz.out)
      generalize crcN 4 z = f at h5 Hf
      generalize crcN 4 (z % 16) = t2 at h5 ht2
      generalize z % 16 = z1 at h4' ht2 hb2
      clear h2 h4 e1 e2 hrd hx0 hnot
      go_wp2
      go_round
      case rel => exact ⟨k + 1, by omega, by go_num, by rw [Hs.out, ← Hf.out]⟩
      case measure => simp [intOf]; omega
    have e : Hid (l.take k = l) := List.take_of_length_le (by have := Hn.out; omega)
    have hnot2 := not32 _ hq
    go_wp2
    go_ret
    refine ⟨ret_int ?_, Hb1.out.alloc Hb1.out.size _⟩
    rw [e.out]; rfl

theorem octSum (A : Option Addr) (n c : Nat) (l : List UInt8) (w : World) (hA : Rd w w.heap.size A (bv l)) (hn : l.length = n) (hmx : n ≤ maxLen) :
    Calls Tryz.prog 15 #[.slice A n c] w fun e w' => e = .returned (.int .u32 (crcE 0 l)) ∧ Below w.heap.size w w' := by
  go_enter Tryz.func15, Tryz.ntmps15
  go_wp2_with (go_at_call 34; refine (octExtend 0 (by omega) A n c l _ hA hn hmx).mono ?_; rintro e w1 ⟨rfl, hb1⟩)
  go_ret
  exact ⟨rfl, hb1⟩
theorem refSum (A : Option Addr) (n c : Nat) (l : List UInt8) (w : World) (hA : Rd w w.heap.size A (bv l)) (hn : l.length = n) (hmx : n ≤ maxLen) :
    Calls Tryz.prog 23 #[.slice A n c] w fun e w' => e = .returned (.int .u32 (crcE 0 l)) ∧ w = w' := by
  go_enter Tryz.func23, Tryz.ntmps23
  go_wp2_with (go_at_call 22; refine (refExtend 0 (by omega) A n c l _ hA hn hmx).mono ?_; rintro e w1 ⟨rfl, rfl⟩)
  go_ret
  exact ⟨rfl, rfl⟩
end Go.Proofs.YtmhlgbpgdhhfnaaGreat
namespace Go.Proofs.YtmhlgbpgdhhfnaaGreat
open Go.RowKit Go.Maps

/-- A writer at work: all that its calls change lies from B on. -/
structure WS (B : Nat) (w0 w : World) (T p : Nat) (g : Option Nat) (l : List UInt8) : Prop where
  wr : Wrt w T p g l
  hp : B ≤ p
  hg : ∀ k, g = some k → B ≤ k
  below : Below B w0 w
  hB : B ≤ w.heap.size
section
variable {B T p : Nat} {w0 w w' : World} {g g' : Option Nat} {l l' : List UInt8}
theorem WS.next (h : WS B w0 w T p g l) (h1 : Wrt w' T p g' l') (h2 : Chg (fun k => k = p ∨ some k = g) w w') (h3 : g' = g ∨ ∃ k, g' = some k ∧ w.heap.size ≤ k) : WS B w0 w' T p g' l' := by
  refine ⟨h1, h.hp, ?_, h.below.trans (h2.below h.hB ?_), Nat.le_trans h.hB h2.size⟩
  · intro k hk
    rcases h3 with h3 | ⟨k', h3, h4⟩
    · exact h.hg k (h3.symm.trans hk)
    rw [h3] at hk; cases hk; exact Nat.le_trans h.hB h4
  rintro k (rfl | hk)
  · exact h.hp
  exact h.hg k hk.symm
theorem WS.on (h : WS B w0 w T p g l) (hb : Below w.heap.size w w') : WS B w0 w' T p g l :=
  ⟨h.wr.below hb, h.hp, h.hg, h.below.trans (hb.mono h.hB), Nat.le_trans h.hB hb.size⟩
theorem WS.new (hB : B ≤ w.heap.size) (h : Wrt w' T w.heap.size none []) (hb : Below w.heap.size w w') : WS B w w' T w.heap.size none [] :=
  ⟨h, hB, (fun _ e => by cases e), hb.mono hB, Nat.le_trans hB hb.size⟩
end

theorem be32_mod (n : Nat) : be32 n = [UInt8.ofNat (n / 16777216 % 256), UInt8.ofNat (n / 65536 % 256), UInt8.ofNat (n / 256 % 256), UInt8.ofNat (n % 256)] := by
  have h : ∀ m : Nat, UInt8.ofNat (m % 256) = UInt8.ofNat m := fun m => by apply UInt8.toNat_inj.1; simp
  simp [be32, h]

set_option maxRecDepth 100000 in
set_option maxHeartbeats 1000000 in
theorem refFixed4 (n : Nat) (hn : n < 4294967296) (w : World) : Calls Tryz.prog 21 #[.int .u64 n, .int .i64 4] w fun e w' =>
    ∃ b cap, e = .returned (.slice b 4 cap) ∧ w'.ownsRow w.heap.size 5 1 (.slice b 4 cap) 4 (bv (be32 n)) ∧ Below w.heap.size w w' := by
  have hmk : ∀ W, (Instr.makeSlice 22 (.int .i64 4) (.int .i64 4)).run Tryz.prog W = .ok (.slice (some ⟨W.heap.size, 0, none⟩) 4 4) (W.alloc (.cells #[.int .u8 0, .int .u8 0, .int .u8 0, .int .u8 0] 5)) := fun _ => by kernel_rfl
  have Hbe := Lib.hid (bv_be32 n hn)
  go_enter Tryz.func21, Tryz.ntmps21
  go_wp2
  refine wp_loop_rounds 5 ?_
  rw [rounds_succ]
  go_wp2
  rw [rounds_succ]
  go_wp2
  rw [rounds_succ]
  go_wp2
  rw [rounds_succ]
  go_wp2
  rw [rounds_succ]
  go_wp2
  go_ret
  refine ⟨_, _, rfl, ?_, (Below.refl _ _).alloc (Nat.le_refl _) _⟩
  have e : bv (be32 n) = (#[.int .u8 ((n : Int) / 256 / 256 / 256 % 256), .int .u8 ((n : Int) / 256 / 256 % 256), .int .u8 ((n : Int) / 256 % 256), .int .u8 ((n : Int) % 256)] : Array Value).toList := by
    rw [Hbe.out]
    have e1 : (n : Int) / 256 / 256 / 256 % 256 = n / 16777216 := by omega
    have e2 : (n : Int) / 256 / 256 % 256 = n / 65536 % 256 := by omega
    rw [e1, e2]
  rw [e]
  exact World.ownsRow_lit _ _ 4 (Nat.le_refl _) (by unfold maxLen; omega) rfl

set_option maxRecDepth 100000 in
theorem rwU32 (p : Nat) (g : Option Nat) (l : List UInt8) (n : Nat) (hn : n < 4294967296) (w : World) (h : Wrt w 115 p g l) (hlen : l.length ≤ 1000000000000) :
    Calls Tryz.prog 63 #[.pointer (some ⟨p, 0, none⟩), .int .u32 n] w fun e w' =>
      e = .returned (.tuple #[]) ∧ ∃ g', Wrt w' 115 p g' (l ++ be32 n) ∧ Chg (fun k => k = p ∨ some k = g) w w' ∧ (g' = g ∨ ∃ k, g' = some k ∧ w.heap.size ≤ k) := by
  have H := Lib.hid h
  clear h
  go_enter Tryz.func63, Tryz.ntmps63
  go_wp2_with (first
    | (go_at_call 21; refine (refFixed4 n hn _).mono ?_; rintro e w1 ⟨b, cap, rfl, hown, hb⟩; have H1 := Lib.hid (And.intro hown hb); clear hown hb)
    | (go_at_call 62; refine (rwRaw p g l _ 4 _ (be32 n) _ (H.out.below H1.out.2) (ownsRow_rd H1.out.1) rfl (by omega)).mono ?_; rintro e w2 ⟨rfl, g', h1, h2, h3⟩))
  go_end0
  refine ⟨rfl, g', h1, (Chg.of_below H1.out.2 _).trans h2, ?_⟩
  rcases h3 with h3 | ⟨k, h3, h4⟩
  · exact .inl h3
  exact .inr ⟨k, h3, Nat.le_trans H1.out.2.size h4⟩

theorem be32_len (n : Nat) : (be32 n).length = 4 := rfl
/-- The bytes of a body, wrapped. -/
def wrapB (mark : UInt8) (body : List UInt8) : List UInt8 := mark :: (be32 body.length ++ (be32 (crcE (crcE 0 (be32 body.length)) body) ++ body))
theorem wrapB_len (mark : UInt8) (body : List UInt8) : (wrapB mark body).length = body.length + 9 := by simp [wrapB, be32]
theorem crcE_lt (s : Nat) (l : List UInt8) : crcE s l < 4294967296 := by unfold crcE; omega
theorem wrapB_app (mark : UInt8) (body : List UInt8) : [] ++ [mark] ++ be32 body.length ++ be32 (crcE (crcE 0 (be32 body.length)) body) ++ body = wrapB mark body := by simp [wrapB]
theorem wBytesL (p : Nat) (g : Option Nat) (l bs : List UInt8) (m : Nat) (w : World) (h : Wrt w 85 p g l) (hb : l = bs) (hm : bs.length = m) (hlen : m ≤ 1000000000000) :
    Calls Tryz.prog 35 #[.pointer (some ⟨p, 0, none⟩)] w fun e w' =>
      ∃ b cap, e = .returned (.slice b m cap) ∧ w'.ownsRow w.heap.size 5 1 (.slice b m cap) m (bv bs) ∧ Below w.heap.size w w' := by
  subst hb hm
  exact wBytes p g l w h hlen
theorem rwBytesL (p : Nat) (g : Option Nat) (l bs : List UInt8) (m : Nat) (w : World) (h : Wrt w 115 p g l) (hb : l = bs) (hm : bs.length = m) (hlen : m ≤ 1000000000000) :
    Calls Tryz.prog 64 #[.pointer (some ⟨p, 0, none⟩)] w fun e w' =>
      ∃ b cap, e = .returned (.slice b m cap) ∧ w'.ownsRow w.heap.size 5 1 (.slice b m cap) m (bv bs) ∧ Below w.heap.size w w' := by
  subst hb hm
  exact rwBytes p g l w h hlen

set_option maxRecDepth 100000 in
set_option maxHeartbeats 2000000 in
theorem refWrap (mark : UInt8) (A : Option Addr) (n c : Nat) (body : List UInt8) (w : World) (hA : Rd w w.heap.size A (bv body)) (hn : body.length = n) (hmx : n ≤ 1000000000) :
    Calls Tryz.prog 44 #[.int .u8 mark.toNat, .slice A n c] w fun e w' =>
      ∃ b cap, e = .returned (.slice b (n + 9) cap) ∧ w'.ownsRow w.heap.size 5 1 (.slice b (n + 9) cap) (n + 9) (bv (wrapB mark body)) ∧ Below w.heap.size w w' := by
  have hn32 : n < 4294967296 := by omega
  have hn64 : n < 18446744073709551616 := by omega
  have Hn := Lib.hid hn
  have HA := Lib.hid hA
  have Hfin := Lib.hid (wrapB_app mark body)
  have Hl := Lib.hid (wrapB_len mark body)
  clear hn hA
  go_enter Tryz.func44, Tryz.ntmps44
  go_wp2_with (first
    | (go_at_call 21; refine (refFixed4 n hn32 _).mono ?_; rintro e w1 ⟨b1, cap1, rfl, hown, hb⟩; have H1 := Lib.hid (And.intro hown hb); clear hown hb)
    | (go_at_call 23; refine (refSum _ _ _ (be32 n) _ (ownsRow_rd H1.out.1) (be32_len n) (by unfold maxLen; omega)).mono ?_; rintro e w2 ⟨rfl, rfl⟩)
    | (go_at_call 22; refine (refExtend (crcE 0 (be32 n)) (crcE_lt _ _) A n c body _ ((HA.out.below H1.out.2).mono H1.out.2.size) Hn.out (by unfold maxLen; omega)).mono ?_; rintro e w3 ⟨rfl, rfl⟩)
    | (go_at_call 60; refine (rwNew _).mono ?_; rintro e w4 ⟨rfl, hw4, hb4⟩; have S4 := Lib.hid (WS.new (B := w1.heap.size) (Nat.le_refl _) hw4 hb4); clear hw4 hb4)
    | (go_at_call 61; refine (rwByte _ _ _ mark _ S4.out.wr (by simp)).mono ?_; rintro e w5 ⟨rfl, g5, h1, h2, h3⟩; have S5 := Lib.hid (S4.out.next h1 h2 h3); clear h1 h2 h3 S4)
    | (go_at_call 62; refine (rwRaw _ _ _ _ _ _ (be32 n) _ S5.out.wr (((ownsRow_rd H1.out.1).below S5.out.below).mono S5.out.below.size) (be32_len n) (by simp)).mono ?_; rintro e w6 ⟨rfl, g6, h1, h2, h3⟩; have S6 := Lib.hid (S5.out.next h1 h2 h3); clear h1 h2 h3 S5)
    | (go_at_call 63; refine (rwU32 _ _ _ (crcE (crcE 0 (be32 n)) body) (crcE_lt _ _) _ S6.out.wr (by simp [be32])).mono ?_; rintro e w7 ⟨rfl, g7, h1, h2, h3⟩; have S7 := Lib.hid (S6.out.next h1 h2 h3); clear h1 h2 h3 S6)
    | (go_at_call 62; refine (rwRaw _ _ _ A n c body _ S7.out.wr ((HA.out.below (H1.out.2.trans (S7.out.below.mono H1.out.2.size))).mono (Nat.le_trans H1.out.2.size S7.out.below.size)) Hn.out (by simp [be32]; omega)).mono ?_; rintro e w8 ⟨rfl, g8, h1, h2, h3⟩; have S8 := Lib.hid (S7.out.next h1 h2 h3); clear h1 h2 h3 S7)
    | (go_at_call 64; refine (rwBytesL _ _ _ (wrapB mark body) (n + 9) _ S8.out.wr (by rw [← Hfin.out, Hn.out]) (by rw [Hl.out, Hn.out]) (by omega)).mono ?_; rintro e w9 ⟨b9, cap9, rfl, hown, hb9⟩; have S9 := Lib.hid (S8.out.on hb9); have O9 := Lib.hid hown; clear hown hb9))
  go_ret
  exact ⟨b9, cap9, rfl, ownsRow_le O9.out (Nat.le_trans H1.out.2.size (Nat.le_trans S8.out.below.size (Nat.le_refl _))), H1.out.2.trans (S9.out.below.mono H1.out.2.size)⟩

end Go.Proofs.YtmhlgbpgdhhfnaaGreat
namespace Go.Proofs.YtmhlgbpgdhhfnaaGreat
open Go.RowKit Go.Maps

def uvarI (x : Int) : List UInt8 := uvar x.toNat
def textB (s : ByteArray) : List UInt8 := uvar s.size ++ s.data.toList

theorem wUv {B p c : Nat} {w0 w : World} {g : Option Nat} {l : List UInt8} (S : WS B w0 w 85 p g l) (hc : l.length ≤ c) (hcm : c ≤ 100000000000) (x : Int) (h0 : 0 ≤ x) (h1 : x < 18446744073709551616) :
    Calls Tryz.prog 102 #[.pointer (some ⟨p, 0, none⟩), .int .u64 x] w fun e w' =>
      e = .returned (.tuple #[]) ∧ ∃ g', WS B w0 w' 85 p g' (l ++ uvarI x) ∧ (l ++ uvarI x).length ≤ c + 10 ∧ Chg (fun k => k = p ∨ some k = g) w w' ∧ (g' = g ∨ ∃ k, g' = some k ∧ w.heap.size ≤ k) := by
  obtain ⟨n, rfl⟩ := Int.eq_ofNat_of_zero_le h0
  have hu := uvar_le n
  refine (wUvarint p g l n (by omega) w S.wr (by omega)).mono fun e w' ⟨he, g', h1, h2, h3⟩ => ⟨he, g', S.next h1 h2 h3, ?_, h2, h3⟩
  rw [List.length_append]
  show _ + (uvar n).length ≤ _
  omega

theorem rwUv {B p c : Nat} {w0 w : World} {g : Option Nat} {l : List UInt8} (S : WS B w0 w 115 p g l) (hc : l.length ≤ c) (hcm : c ≤ 100000000000) (x : Int) (h0 : 0 ≤ x) (h1 : x < 18446744073709551616) :
    Calls Tryz.prog 65 #[.pointer (some ⟨p, 0, none⟩), .int .u64 x] w fun e w' =>
      e = .returned (.tuple #[]) ∧ ∃ g', WS B w0 w' 115 p g' (l ++ uvarI x) ∧ (l ++ uvarI x).length ≤ c + 10 ∧ Chg (fun k => k = p ∨ some k = g) w w' ∧ (g' = g ∨ ∃ k, g' = some k ∧ w.heap.size ≤ k) := by
  obtain ⟨n, rfl⟩ := Int.eq_ofNat_of_zero_le h0
  have hu := uvar_le n
  refine (rwUvarint p g l n (by omega) w S.wr (by omega)).mono fun e w' ⟨he, g', h1, h2, h3⟩ => ⟨he, g', S.next h1 h2 h3, ?_, h2, h3⟩
  rw [List.length_append]
  show _ + (uvar n).length ≤ _
  omega

theorem rwTx {B p c : Nat} {w0 w : World} {g : Option Nat} {l : List UInt8} (S : WS B w0 w 115 p g l) (hc : l.length ≤ c) (hcm : c ≤ 100000000000) (s : ByteArray) (m : Nat) (hs : s.size ≤ m) (hm : m ≤ 1000000) :
    Calls Tryz.prog 66 #[.pointer (some ⟨p, 0, none⟩), .string s] w fun e w' =>
      e = .returned (.tuple #[]) ∧ ∃ g', WS B w0 w' 115 p g' (l ++ textB s) ∧ (l ++ textB s).length ≤ c + 10 + m ∧ Chg (fun k => k = p ∨ some k = g) w w' ∧ (g' = g ∨ ∃ k, g' = some k ∧ w.heap.size ≤ k) := by
  have hu := uvar_le s.size
  refine (rwText p g l s w S.wr (by omega) (by omega)).mono fun e w' ⟨he, g', h1, h2, h3⟩ => ⟨he, g', S.next h1 h2 h3, ?_, h2, h3⟩
  have hz : s.data.toList.length = s.size := by rw [Array.length_toList, ByteArray.size_data]
  unfold textB
  rw [List.length_append, List.length_append, hz]
  omega
end Go.Proofs.YtmhlgbpgdhhfnaaGreat
