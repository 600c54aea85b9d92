import Derived.Test.YtjgdjfmgkmegfaaMan23
import Derived.StillTailTactics
import Derived.OneCell
import Derived.Test.YtjgdjfmgkmegfaaMan15
import Derived.Test.YtjgdjfmgkmegfaaMan17
namespace Go.Proofs.Ytjgdjfmgkmegfaa
open Go.RowKit Go.Maps

def flip1 (b : UInt8) : UInt8 := b ^^^ 255
theorem flip1_flip1 (b : UInt8) : flip1 (flip1 b) = b := by unfold flip1; rw [UInt8.xor_assoc]; simp
def flipN (k : Nat) (l : List UInt8) : List UInt8 := (l.take k).map flip1 ++ l.drop k
theorem flip_bits_all : ∀ n : Nat, n < 256 → bits BinOp.xor IntKind.u8 (n : Int) 255 = ((flip1 (UInt8.ofNat n)).toNat : Int) := by decide +kernel
theorem flip_bits (b : UInt8) : bits BinOp.xor IntKind.u8 (b.toNat : Int) 255 = ((flip1 b).toNat : Int) := by
  have := flip_bits_all b.toNat (UInt8.toNat_lt b)
  simpa using this
theorem flipN_len (k : Nat) (l : List UInt8) : (flipN k l).length = l.length := by simp [flipN]; omega
theorem flipN_get {k : Nat} {l : List UInt8} (hk : k < l.length) : (flipN k l)[k]? = some l[k] := by
  unfold flipN
  rw [List.getElem?_append_right (by simp; omega)]
  simp [Nat.min_eq_left (Nat.le_of_lt hk), hk]
theorem flipN_set {k : Nat} {l : List UInt8} (hk : k < l.length) : (flipN k l).set k (flip1 l[k]) = flipN (k + 1) l := by
  have h1 : ((l.take k).map flip1).length = k := by simp; omega
  unfold flipN
  rw [List.set_append_right _ _ (by omega), h1, Nat.sub_self, List.drop_eq_getElem_cons hk, List.set_cons_zero, List.take_add_one, List.getElem?_eq_getElem hk, List.map_append, List.append_assoc]
  rfl
theorem flipN_all (l : List UInt8) : flipN l.length l = l.map flip1 := by simp [flipN]
theorem flip_flip (l : List UInt8) : (l.map flip1).map flip1 = l := by
  rw [List.map_map]
  have : (flip1 ∘ flip1) = id := funext flip1_flip1
  rw [this, List.map_id]
theorem bv_set (l : List UInt8) (k : Nat) (x : UInt8) : (bv l).set k (.int .u8 x.toNat) = bv (l.set k x) := by simp [bv, List.map_set]
theorem Own.bvg {w : World} {B g : Nat} {t : TypeId} {l : List UInt8} {ts : List Value} (h : Own w B g t (bv l ++ ts)) {i : Nat} {x : UInt8} (hi : l[i]? = some x) : w.cell? ⟨g, i, none⟩ = some (.int .u8 x.toNat) := by
  refine h.get ?_
  have hl := (List.getElem?_eq_some_iff.1 hi).1
  rw [List.getElem?_append_left (by simpa [bv] using hl)]
  simp [bv, hi]
theorem Own.bvs {w : World} {B g : Nat} {t : TypeId} {l : List UInt8} {ts : List Value} (h : Own w B g t (bv l ++ ts)) {i : Nat} (hi : i < l.length) (x : UInt8) : Own (w.setCell ⟨g, i, none⟩ (.int .u8 x.toNat)) B g t (bv (l.set i x) ++ ts) := by
  have := h.set_ (i := i) (by simp [bv]; omega) (.int .u8 x.toNat)
  rwa [List.set_append_left _ _ (by simpa [bv] using hi), bv_set] at this

set_option maxRecDepth 100000 in
set_option maxHeartbeats 4000000 in
theorem flipped_any (B g n c : Nat) (bs : List UInt8) (ts : List Value) (w : World) (hO : Own w B g 5 (bv bs ++ ts)) (hn : bs.length = n) (hmx : n ≤ 140737488351232) :
    Calls Try.prog 26 #[.slice (some ⟨g, 0, none⟩) n c] w fun e w' =>
      e = .returned (.slice (some ⟨g, 0, none⟩) n c) ∧ Own w' B g 5 (bv (bs.map flip1) ++ ts) ∧ Chg (fun k => k = g) w w' := by
  have hgl := hO.lt
  have HO := Lib.hid hO
  have Hn := Lib.hid hn
  clear hO
  go_enter Try.func26, Try.ntmps26
  go_wp2
  go_loopw [3] (fun i wr => ∃ k : Nat, k ≤ n ∧ i = .int .i64 k ∧ Own wr B g 5 (bv (flipN k bs) ++ ts) ∧ Chg (fun k => k = g) w wr)
    (fun i _ => n - (intOf i).toNat)
  case atStart => exact ⟨0, Nat.zero_le _, rfl, by simpa [flipN] using HO.out, Chg.refl _ _⟩
  case round =>
    obtain ⟨k, hk, rfl, hO, hC⟩ := hrel
    by_cases hlt : k < n
    · have hlt' : k < bs.length := by omega
      have hk0 : (0 : Int) ≤ k := by omega
      have hk1 : (k : Int) < n := by omega
      have hck := hO.bvg (flipN_get hlt')
      have hfk := hO.free k
      have H := Lib.hid (And.intro hO hC)
      have hw : k < wr.heap.size ∨ True := .inr trivial
      clear hO hC
      go_wp2
      go_roundw
      case rel =>
        refine ⟨k + 1, by omega, by go_num, ?_, H.out.2.setCell (.inl rfl) _⟩
        rw [flip_bits, ← flipN_set hlt']
        exact H.out.1.bvs (by rw [flipN_len]; omega) _
      case measure => simp [intOf]; omega
    · obtain rfl : k = n := by omega
      have H := Lib.hid (And.intro hO hC)
      clear hO hC
      go_wp2
      go_ret
      refine ⟨rfl, ?_, H.out.2⟩
      rw [← flipN_all, Hn.out]
      exact H.out.1

set_option maxRecDepth 100000 in
set_option maxHeartbeats 4000000 in
theorem roomy_any (A : Option Addr) (n c : Nat) (bs : List UInt8) (w : World) (hA : Rd w w.heap.size A (bv bs)) (hn : bs.length = n) (hmx : n ≤ 140737488351232) :
    Calls Try.prog 24 #[.slice A n c] w fun e w' =>
      ∃ g c', e = .returned (.slice (some ⟨g, 0, none⟩) (n + 4) c') ∧ n + 4 ≤ c' ∧ c' ≤ maxLen ∧ Own w' w.heap.size g 5 (bv (bs ++ [165, 90, 167, 91])) ∧ Below w.heap.size w w' := by
  obtain ⟨i1, hi1, hz1, hs1, hy1⟩ := info_parts info_u8
  have hb1 : Below w.heap.size w (w.alloc (.cells #[] 5)) := (Below.refl _ _).alloc (Nat.le_refl _) _
  have Hb1 := Lib.hid hb1
  have Hown0 := Lib.hid (own_empty w w.heap.size 5 1 (Nat.le_refl _))
  have Hrd0 := Lib.hid (hA.below hb1)
  have Hn := Lib.hid (show (bv bs).length = n * 1 by simp [bv, hn])
  clear hb1 hA
  go_enter Try.func24, Try.ntmps24
  go_wp2_with (first
    | (at_builtin
       refine wpList_app _ rfl (.tmp 4) (.tmp 5) _ rfl w.heap.size 5 i1 _ 1 1 Try.underlying40 hi1 hz1 hs1 hy1 rfl (by omega) (.slice (some ⟨w.heap.size, 0, none⟩) 0 0) 0 [] rfl Hown0.out _ A n c (bv bs) rfl Hn.out Hrd0.out (one_bv _) (by unfold maxLen; omega) (by omega) (by simp <;> omega) ?_
       intro v1 w1 hown1 hg1 _
       have hb1 := Hb1.out.grown hg1 (by simp <;> omega) (by simp [Value.ownBlock] <;> omega)
       have hsz1 : w.heap.size < w1.heap.size := by have := hg1.size; simp at this; omega
       have H1 := Lib.hid (And.intro hown1 hb1)
       clear hown1 hg1 hb1)
    | (at_builtin
       refine wpList_app1 _ rfl (.tmp 7) (.tmp 8) _ rfl w.heap.size 5 i1 _ 1 1 Try.underlying40 hi1 hz1 hs1 hy1 rfl (by omega) v1 (0 + n) _ rfl (H1.out.1.alloc _) _ _ 4 4 [.int .u8 165, .int .u8 90, .int .u8 167, .int .u8 91] rfl rfl (rd_new _ _ _) (by simp [Value.oneCell']) (by unfold maxLen; omega) (by omega) (by simp <;> omega) (by omega) ?_
       intro g c1 w2 hO2 hc2 hm2 _ hg2 _
       have hb2 := (H1.out.2.alloc (by omega) (.cells #[.int .u8 165, .int .u8 90, .int .u8 167, .int .u8 91] 5)).grown hg2 (by simp <;> omega) (fun k e => by have := H1.out.1.lt _ e; omega)
       have H2 := Lib.hid (And.intro hO2 hb2)
       clear hO2 hg2 hb2))
  go_ret
  refine ⟨g, c1, ?_, by omega, hm2, ?_, H2.out.2⟩
  · simp
  · simpa [bv] using H2.out.1

theorem Chg.grown {S : Nat → Prop} {a w w' : World} {row : Option Nat} (h : Chg S a w) (hg : w.grownBy w' row) (hr : ∀ k, row = some k → S k ∨ a.heap.size ≤ k) : Chg S a w' :=
  ⟨hg.os.trans h.os, hg.tape.trans h.tape, hg.output.trans h.output, Nat.le_trans h.size hg.size, fun k hk hn => (hg.block k (Nat.lt_of_lt_of_le hk h.size) fun e => by
    rcases hr k e.symm with h1 | h1
    · exact hn h1
    · omega).trans (h.block k hk hn)⟩
theorem ownsRow_put {w : World} {B g cap n size i : Nat} {e : TypeId} {xs : List Value} (h : w.ownsRow B e size (.slice (some ⟨g, 0, none⟩) n cap) n xs) (u : Value) : (w.setCell ⟨g, i, none⟩ u).ownsRow B e size (.slice (some ⟨g, 0, none⟩) n cap) n (xs.set i u) := by
  obtain ⟨h1, h2⟩ := h
  refine ⟨by simpa using h1, ?_⟩
  rcases h2 with ⟨hv, _⟩ | ⟨g', cap', cur, hv, hg, hh, hnc, hcm, hsz, htk⟩
  · cases hv
  · cases hv
    refine .inr ⟨g, cap, cur.setIfInBounds i u, rfl, hg, Box.set_ (show Box w g e cur from hh) i u, hnc, hcm, by simpa using hsz, ?_⟩
    rw [Array.toList_setIfInBounds, List.take_set, htk]

set_option maxRecDepth 100000 in
set_option maxHeartbeats 4000000 in
theorem marked_any (B n c : Nat) (A : Option Addr) (bs : List UInt8) (w : World) (hO : w.ownsRow B 5 1 (.slice A n c) n (bv bs)) (hn : bs.length = n) (hB : B ≤ w.heap.size) (hmx : n ≤ 1000000000) :
    Calls Try.prog 22 #[.slice A n c, .int .u8 3] w fun e w' =>
      e = .returned (.int .i64 ((n + 64 : Nat) : Int)) ∧ Chg (fun k => (Value.slice A n c).ownBlock = some k) w w' := by
  obtain ⟨i1, hi1, hz1, hs1, hy1⟩ := info_parts info_u8
  have HO := Lib.hid hO
  clear hO
  go_enter Try.func22, Try.ntmps22
  go_wp2
  go_loopw [5] (fun i wr => ∃ (k : Nat) (ls : List UInt8), k ≤ n ∧ i = .int .i64 k ∧ ls.length = n ∧ wr.ownsRow B 5 1 (.slice A n c) n (bv ls) ∧ Chg (fun k => (Value.slice A n c).ownBlock = some k) w wr)
    (fun i _ => n - (intOf i).toNat)
  case atStart => exact ⟨0, bs, Nat.zero_le _, rfl, hn, HO.out, Chg.refl _ _⟩
  case round =>
    obtain ⟨k, ls, hk, rfl, hl, hrow, hC⟩ := hrel
    by_cases hlt : k < n
    · obtain ⟨g, cap, hv, hnc, hcm, hown⟩ := Own.of_row hrow (by omega)
      cases hv
      have hk0 : (0 : Int) ≤ k := by omega
      have hk1 : (k : Int) < n := by omega
      obtain ⟨u0, hck⟩ : ∃ u, wr.cell? ⟨g, k, none⟩ = some u := ⟨_, hown.cell (i := k) (by simp [bv]; omega)⟩
      have hfk := hown.free k
      have H := Lib.hid (And.intro hrow hC)
      have Hl := Lib.hid hl
      clear hrow hC hown hl
      go_wp2
      go_roundw
      case rel =>
        refine ⟨k + 1, ls.set k 3, by omega, by go_num, by simp [Hl.out], ?_, H.out.2.setCell (p := ⟨g, k, none⟩) (.inl rfl) _⟩
        rw [← bv_set]
        exact ownsRow_put H.out.1 _
      case measure => simp [intOf]; omega
    · have H := Lib.hid (And.intro hrow hC)
      clear hrow hC
      go_wp2
      go_loopw [0, 6] (fun b i wr => ∃ (k : Nat) (A' : Option Addr) (c' : Nat) (ls : List UInt8), k ≤ 64 ∧ b = .slice A' (n + k) c' ∧ i = .int .i64 k ∧ wr.ownsRow B 5 1 (.slice A' (n + k) c') (n + k) (bv ls) ∧
          (∀ j, (Value.slice A' (n + k) c').ownBlock = some j → (Value.slice A n c).ownBlock = some j ∨ w.heap.size ≤ j) ∧ Chg (fun k => (Value.slice A n c).ownBlock = some k) w wr)
        (fun _ i _ => 64 - (intOf i).toNat)
      case atStart => exact ⟨0, A, c, ls, by omega, rfl, rfl, H.out.1, fun j hj => .inl hj, H.out.2⟩
      case round =>
        obtain ⟨m, A', c', ls', hm, rfl, rfl, hrow, hwh, hC⟩ := hrel
        by_cases hlt2 : m < 64
        · have H := Lib.hid (And.intro hrow (And.intro hwh hC))
          have hsz := hC.size
          clear hrow hwh hC
          go_wp2_with (first
            | (at_builtin
               refine wpList_app1 _ rfl (.tmp 21) (.tmp 23) _ rfl B 5 i1 _ 1 1 Try.underlying40 hi1 hz1 hs1 hy1 rfl (by omega) (.slice A' (n + m) c') (n + m) (bv ls') rfl (H.out.1.alloc _) _ _ 1 1 [.int .u8 3] rfl rfl (rd_new _ _ _) (by simp [Value.oneCell']) (by unfold maxLen; omega) (by omega) (by simp <;> omega) (by omega) ?_
               intro g cap w8 hO hca hcb hrow hg hwg
               have hC8 := Chg.grown (H.out.2.2.alloc (.cells #[.int .u8 3] 5)) hg H.out.2.1
               have hwg2 : ∀ j, g = j → (Value.slice A n c).ownBlock = some j ∨ w.heap.size ≤ j := fun j hj => by
                 subst hj
                 rcases hwg with h | h
                 · exact H.out.2.1 _ h.symm
                 · right; simp at h; omega
               have H9 := Lib.hid (And.intro hrow (And.intro hwg2 hC8))
               clear hO hrow hg hwg hC8 hwg2 H))
          go_wp2
          go_roundw
          case rel =>
            refine ⟨m + 1, some ⟨g, 0, none⟩, cap, ls' ++ [3], by omega, rfl, by go_num, ?_, fun j hj => H9.out.2.1 j (by simpa [Value.ownBlock] using hj), H9.out.2.2⟩
            simpa [bv, Nat.add_assoc] using H9.out.1
          case measure => simp [intOf]; omega
        · obtain rfl : m = 64 := by omega
          have H := Lib.hid hC
          clear hrow hwh hC
          go_wp2
          go_ret
          exact ⟨by simp, H.out⟩

set_option maxRecDepth 100000 in
set_option maxHeartbeats 4000000 in
theorem spoilt_any (B n1 c1 n2 c2 : Nat) (b1 b2 : Option Addr) (id ns nx mk cl : Int) (xs ys : List Value) (w : World) (r1 : w.ownsRow B 3 1 (.slice b1 n1 c1) n1 xs) (r2 : w.ownsRow B 58 3 (.slice b2 n2 c2) n2 ys)
    (hd : ∀ k, (Value.slice b1 n1 c1).ownBlock = some k → (Value.slice b2 n2 c2).ownBlock ≠ some k) (hB : B ≤ w.heap.size) (hm1 : n1 ≤ 1000) (hm2 : n2 ≤ 1000) :
    Calls Try.prog 27 #[manV id ns nx mk cl (.slice b1 n1 c1) (.slice b2 n2 c2)] w fun e w' =>
      e = .returned (.int .i64 ((n1 + n2 + 128 : Nat) : Int)) ∧ Chg (fun k => (Value.slice b1 n1 c1).ownBlock = some k ∨ (Value.slice b2 n2 c2).ownBlock = some k) w w' := by
  obtain ⟨i0, hi0, hz0, hs0, hy0⟩ := info_parts info_int
  obtain ⟨i1, hi1, hz1, hs1, hy1⟩ := info_parts info_prod
  have HL1 := Lib.hid (fun k (hk : (Value.slice b1 n1 c1).ownBlock = some k) => (r1.lt k hk).2)
  have HL2 := Lib.hid (fun k (hk : (Value.slice b2 n2 c2).ownBlock = some k) => (r2.lt k hk).2)
  have HD := Lib.hid hd
  have R := Lib.hid (And.intro r1 r2)
  clear r1 r2 hd
  go_enter Try.func27, Try.ntmps27
  go_wp2
  go_loopw [3] (fun i wr => ∃ (k : Nat) (xs' : List Value), k ≤ n1 ∧ i = .int .i64 k ∧ wr.ownsRow B 3 1 (.slice b1 n1 c1) n1 xs' ∧ wr.ownsRow B 58 3 (.slice b2 n2 c2) n2 ys ∧
      Chg (fun k => (Value.slice b1 n1 c1).ownBlock = some k ∨ (Value.slice b2 n2 c2).ownBlock = some k) w wr ∧ Box wr w.heap.size 25 #[.int .i64 id, .int .i64 ns, .int .i64 nx, .int .i64 mk, .int .i64 cl, .slice b1 n1 c1, .slice b2 n2 c2])
    (fun i _ => n1 - (intOf i).toNat)
  case atStart => exact ⟨0, xs, Nat.zero_le _, rfl, R.out.1.alloc _, R.out.2.alloc _, (Chg.refl _ _).alloc _, Box.new _ _ _⟩
  case round =>
    obtain ⟨k, xs', hk, rfl, h1, h2, hC, hX⟩ := hrel
    have hcx := hX.cell
    by_cases hlt : k < n1
    · obtain ⟨g, cap, hv, hnc, hcm, hown⟩ := Own.of_row h1 (by omega)
      cases hv
      have hk0 : (0 : Int) ≤ k := by omega
      have hk1 : (k : Int) < n1 := by omega
      obtain ⟨u0, hck⟩ : ∃ u, wr.cell? ⟨g, k, none⟩ = some u := ⟨_, hown.cell (i := k) (by have := h1.1; omega)⟩
      have hfk := hown.free k
      have H := Lib.hid (And.intro h1 (And.intro h2 (And.intro hC hX)))
      have hgw : g ≠ w.heap.size := by have := HL1.out g rfl; omega
      clear h1 h2 hC hX hown
      go_wp2
      go_roundw
      case rel =>
        refine ⟨k + 1, _, by omega, by go_num, ownsRow_put H.out.1 _, ownsRow_setCell_other H.out.2.1 (HD.out g rfl) _, H.out.2.2.1.setCell (p := ⟨g, k, none⟩) (.inl (.inl rfl)) _, H.out.2.2.2.far (by simpa using hgw.symm) _⟩
      case measure => simp [intOf]; omega
    · have H := Lib.hid (And.intro h1 (And.intro hC hX))
      clear h1 hC hX
      go_wp2
      go_loopw [4] (fun i wr => ∃ (m : Nat) (ys' : List Value), m ≤ n2 ∧ i = .int .i64 m ∧ wr.ownsRow B 3 1 (.slice b1 n1 c1) n1 xs' ∧ wr.ownsRow B 58 3 (.slice b2 n2 c2) n2 ys' ∧
          Chg (fun k => (Value.slice b1 n1 c1).ownBlock = some k ∨ (Value.slice b2 n2 c2).ownBlock = some k) w wr ∧ Box wr w.heap.size 25 #[.int .i64 id, .int .i64 ns, .int .i64 nx, .int .i64 mk, .int .i64 cl, .slice b1 n1 c1, .slice b2 n2 c2])
        (fun i _ => n2 - (intOf i).toNat)
      case atStart => exact ⟨0, ys, Nat.zero_le _, rfl, H.out.1, h2, H.out.2.1, H.out.2.2⟩
      case round =>
        clear H h2 hcx
        obtain ⟨m, ys', hm, rfl, h1, h2, hC, hX⟩ := hrel
        have hcx := hX.cell
        by_cases hlt2 : m < n2
        · obtain ⟨h, cap, hv, hnc, hcm, hown⟩ := Own.of_row h2 (by omega)
          cases hv
          have hk0 : (0 : Int) ≤ m := by omega
          have hk1 : (m : Int) < n2 := by omega
          have hyl := h2.1
          obtain ⟨u0, hck0⟩ : ∃ u, wr.cell? ⟨h, m * 3, none⟩ = some u := ⟨_, hown.cell (i := m * 3) (by omega)⟩
          obtain ⟨u1, hck1⟩ : ∃ u, wr.cell? ⟨h, m * 3 + 1, none⟩ = some u := ⟨_, hown.cell (i := m * 3 + 1) (by omega)⟩
          obtain ⟨u2, hck2⟩ : ∃ u, wr.cell? ⟨h, m * 3 + 2, none⟩ = some u := ⟨_, hown.cell (i := m * 3 + 2) (by omega)⟩
          have hfk := hown.free
          have H := Lib.hid (And.intro h1 (And.intro h2 (And.intro hC hX)))
          have hgw : h ≠ w.heap.size := by have := HL2.out h rfl; omega
          have HN := Lib.hid (show (Value.slice b1 n1 c1).ownBlock ≠ some h from fun e => HD.out h e rfl)
          clear h1 h2 hC hX hown hyl
          go_wp2
          go_roundw
          case rel =>
            refine ⟨m + 1, _, by omega, by go_num, ownsRow_setCell_other (ownsRow_setCell_other (ownsRow_setCell_other H.out.1 HN.out _) HN.out _) HN.out _, ownsRow_put (ownsRow_put (ownsRow_put H.out.2.1 _) _) _, ?_, ?_⟩
            · repeat (first | with_reducible exact H.out.2.2.1 | refine Chg.setCell ?_ (.inl (.inr rfl)) _)
            · repeat (first | with_reducible exact H.out.2.2.2 | refine Box.far ?_ (by simpa using hgw.symm) _)
          case measure => simp [intOf]; omega
        · have H := Lib.hid (And.intro h1 (And.intro h2 hC))
          have hsz0 := hC.size
          clear h1 h2 hC
          go_wp2
          go_loopw [5, 6, 7] (fun s p i wr => ∃ (q : Nat) (A1 : Option Addr) (d1 : Nat) (A2 : Option Addr) (d2 : Nat) (xs' ys' : List Value), q ≤ 64 ∧ s = .slice A1 (n1 + q) d1 ∧ p = .slice A2 (n2 + q) d2 ∧ i = .int .i64 q ∧
              wr.ownsRow B 3 1 (.slice A1 (n1 + q) d1) (n1 + q) xs' ∧ wr.ownsRow B 58 3 (.slice A2 (n2 + q) d2) (n2 + q) ys' ∧ (∀ k, (Value.slice A1 (n1 + q) d1).ownBlock = some k → (Value.slice A2 (n2 + q) d2).ownBlock ≠ some k) ∧
              (∀ j, (Value.slice A1 (n1 + q) d1).ownBlock = some j → (Value.slice b1 n1 c1).ownBlock = some j ∨ w.heap.size ≤ j) ∧ (∀ j, (Value.slice A2 (n2 + q) d2).ownBlock = some j → (Value.slice b2 n2 c2).ownBlock = some j ∨ w.heap.size ≤ j) ∧
              Chg (fun k => (Value.slice b1 n1 c1).ownBlock = some k ∨ (Value.slice b2 n2 c2).ownBlock = some k) w wr)
            (fun _ _ i _ => 64 - (intOf i).toNat)
          case atStart => exact ⟨0, b1, c1, b2, c2, xs', ys', by omega, rfl, rfl, rfl, H.out.1, H.out.2.1, HD.out, fun j hj => .inl hj, fun j hj => .inl hj, H.out.2.2⟩
          case round =>
            clear H hcx
            obtain ⟨q, A1, d1, A2, d2, xs', ys', hq, rfl, rfl, rfl, h1, h2, hdd, hw1, hw2, hC⟩ := hrel
            by_cases hlt3 : q < 64
            · have hsz := hC.size
              have hdd2 : ∀ k, (Value.slice A2 (n2 + q) d2).ownBlock = some k → k < wr.heap.size := fun k hk => (h2.lt k hk).2
              have H := Lib.hid (And.intro h1 (And.intro h2 (And.intro hdd (And.intro hw1 (And.intro hw2 (And.intro hC hdd2))))))
              clear h1 h2 hdd hw1 hw2 hC hdd2
              go_wp2_with (first
                | (at_builtin
                   refine wpList_app1 _ rfl (.tmp 41) (.tmp 42) _ rfl B 3 i0 _ 1 8 Try.underlying22 hi0 hz0 hs0 hy0 rfl (by omega) (.slice A1 (n1 + q) d1) (n1 + q) xs' rfl (H.out.1.alloc _) _ _ 1 1 [.int .i64 (-99)] rfl rfl (rd_new _ _ _) (by simp [Value.oneCell']) (by unfold maxLen; omega) (by omega) (by simp <;> omega) (by omega) ?_
                   intro g cap w8 hO hca hcb hrow hg hwg
                   obtain ⟨x1, x2, x3, x4, x5, x6, x7⟩ := H.out
                   have hC8 := Chg.grown (x6.alloc (.cells #[.int .i64 (-99)] 3)) hg (fun k e => (x4 k e).imp .inl fun h => h)
                   have hr2 : w8.ownsRow B 58 3 (.slice A2 (n2 + q) d2) (n2 + q) ys' := ownsRow_block (x2.alloc (.cells #[.int .i64 (-99)] 3)) fun k hk => hg.block k (by have := x7 k hk; simp; omega) fun e => x3 k e.symm hk
                   have hds : ∀ k, g = k → (Value.slice A2 (n2 + q) d2).ownBlock ≠ some k := fun k hk e => by
                     subst hk
                     rcases hwg with h | h
                     · exact x3 _ h.symm e
                     · have := x7 _ e; simp at h; omega
                   have hwn : ∀ j, g = j → (Value.slice b1 n1 c1).ownBlock = some j ∨ w.heap.size ≤ j := fun j hj => by
                     subst hj
                     rcases hwg with h | h
                     · exact x4 _ h.symm
                     · right; simp at h; omega
                   have hgl : g < w8.heap.size := (hrow.lt g rfl).2
                   have hs8 := hC8.size
                   have H8 := Lib.hid (And.intro hrow (And.intro hr2 (And.intro hds (And.intro hwn (And.intro x5 hC8)))))
                   clear hO hrow hg hwg hC8 hr2 hds hwn x1 x2 x3 x4 x5 x6 x7 H)
                | (at_builtin
                   refine wpList_app1 _ rfl (.tmp 44) (.tmp 46) _ rfl B 58 i1 _ 3 24 Try.underlying23 hi1 hz1 hs1 hy1 rfl (by omega) (.slice A2 (n2 + q) d2) (n2 + q) ys' rfl (H8.out.2.1.alloc _) _ _ 1 1 [.int .i64 (-99), .int .i64 0, .int .i64 0] rfl rfl (rd_new _ _ _) (by simp [Value.oneCell']) (by unfold maxLen; omega) (by omega) (by simp <;> omega) (by omega) ?_
                   intro h cap2 w9 hO hca2 hcb2 hrow hg hwg
                   obtain ⟨x1, x2, x3, x4, x5, x6⟩ := H8.out
                   have hC9 := Chg.grown (x6.alloc (.cells #[.int .i64 (-99), .int .i64 0, .int .i64 0] 58)) hg (fun k e => (x5 k e).imp .inr fun h => h)
                   have hr1 : w9.ownsRow B 3 1 (.slice (some ⟨g, 0, none⟩) (n1 + q + 1) cap) (n1 + q + 1) (xs' ++ [.int .i64 (-99)]) := ownsRow_block (x1.alloc (.cells #[.int .i64 (-99), .int .i64 0, .int .i64 0] 58)) fun k hk => hg.block k (by have := (x1.lt k hk).2; simp; omega) fun e => by
                     have e2 : g = k := by simpa [Value.ownBlock] using hk
                     exact x3 k e2 e.symm
                   have hds : g ≠ h := fun e => by
                     subst e
                     rcases hwg with h | h
                     · exact x3 _ rfl h.symm
                     · simp at h; omega
                   have hwn : (Value.slice b2 n2 c2).ownBlock = some h ∨ w.heap.size ≤ h := by
                     rcases hwg with h | h
                     · exact x5 _ h.symm
                     · right; simp at h; omega
                   have H9 := Lib.hid (And.intro hr1 (And.intro hrow (And.intro hds (And.intro (x4 g rfl) (And.intro hwn hC9)))))
                   clear hO hrow hg hwg hC9 hr1 hds hwn x1 x2 x3 x4 x5 x6 H8))
              go_wp2
              go_roundw
              case rel =>
                obtain ⟨x1, x2, x3, x4, x5, x6⟩ := H9.out
                refine ⟨q + 1, some ⟨g, 0, none⟩, cap, some ⟨h, 0, none⟩, cap2, _, _, by omega, rfl, rfl, by go_num, x1, x2, fun k hk e => x3 ?_, fun j hj => ?_, fun j hj => ?_, x6⟩
                · have e1 : g = k := by simpa [Value.ownBlock] using hk
                  have e2 : h = k := by simpa [Value.ownBlock] using e
                  rw [e1, e2]
                · have e1 : g = j := by simpa [Value.ownBlock] using hj
                  rw [← e1]; exact x4
                · have e1 : h = j := by simpa [Value.ownBlock] using hj
                  rw [← e1]; exact x5
              case measure => simp [intOf]; omega
            · obtain rfl : q = 64 := by omega
              have H := Lib.hid hC
              clear h1 h2 hdd hw1 hw2 hC
              go_wp2
              go_ret
              exact ⟨congrArg (fun z => Ending.returned (.int .i64 z)) (show ((n1 : Int) + 64 + ((n2 : Int) + 64)) = ((n1 + n2 + 128 : Nat) : Int) by omega), H.out⟩

/-- What ManifestCodes knows between its calls: its two variables, the copy's rows, that nothing old has changed. -/
structure CS (w : World) (M N : Array Value) (bn g h : Nat) (ss : List Int) (ps : List P3) (W : World) : Prop where
  m : Box W w.heap.size 25 M
  n : Box W bn 25 N
  og : Own W (w.heap.size + 1) g 3 (ss.map (.int .i64) ++ [.int .i64 (-77)])
  oh : Own W (w.heap.size + 1) h 58 (ps.flatMap tri ++ [.int .i64 (-77), .int .i64 0, .int .i64 0])
  below : Below w.heap.size w W
  far : g ≠ h ∧ bn ≠ g ∧ bn ≠ h
section
variable {w : World} {M N : Array Value} {bn g h : Nat} {ss ss' : List Int} {ps ps' : List P3} {W W' : World}
theorem CS.next (s : CS w M N bn g h ss ps W) (hb : Below W.heap.size W W') : CS w M N bn g h ss ps W' :=
  ⟨s.m.below hb s.m.lt, s.n.below hb s.n.lt, s.og.below hb s.og.lt, s.oh.below hb s.oh.lt, s.below.trans (hb.mono s.below.size), s.far⟩
theorem CS.man (s : CS w M N bn g h ss ps W) (hc : Chg (fun x => x = g ∨ x = h) W W') (og : Own W' (w.heap.size + 1) g 3 (ss'.map (.int .i64) ++ [.int .i64 (-77)]))
    (oh : Own W' (w.heap.size + 1) h 58 (ps'.flatMap tri ++ [.int .i64 (-77), .int .i64 0, .int .i64 0])) : CS w M N bn g h ss' ps' W' := by
  obtain ⟨f1, f2, f3⟩ := s.far
  have g1 := og.1
  have g2 := oh.1
  exact ⟨s.m.chg hc (by omega), s.n.chg hc (by omega), og, oh, s.below.trans (hc.below s.below.size (by intro x hx; omega)), s.far⟩
end
theorem octEncode_len (id ns nx mk cl : Int) (A A2 : Option Addr) (c d n m : Nat) (segs : List Int) (prods : List P3) (w : World) (hn : segs.length = n) (hm : prods.length = m) (hA : Rd w w.heap.size A (segs.map (.int .i64))) (hB : Rd w w.heap.size A2 (prods.flatMap tri)) (hws : ∀ s ∈ segs, (Lit.int .i64 s).wf = true) :
    Calls Try.prog 21 #[manV id ns nx mk cl (.slice A n c) (.slice A2 m d)] w fun e w' => (∃ v, e = .returned v) ∧ Below w.heap.size w w' := by
  subst hn hm
  exact (octEncode id ns nx mk cl A A2 c d segs prods w hA hB hws).mono fun e w' ⟨b, cap, h, _, hb⟩ => ⟨⟨_, h⟩, hb⟩
/-- What either Decode answers, said once. -/
theorem dman_one (bs : List UInt8) : ∃ (i0 n0 x0 m0 k0 : Int) (S0 : List Int) (P0 : List P3) (er : Int), S0.length ≤ 64 ∧ P0.length ≤ 64 ∧ ∀ (w w' : World) (e : Ending), DMan bs w w' e → ∃ (b1 : Option Addr) (c1 : Nat) (b2 : Option Addr) (c2 : Nat),
    e = .returned (.tuple #[manV i0 n0 x0 m0 k0 (.slice b1 S0.length c1) (.slice b2 P0.length c2), .int .i64 er]) ∧ w'.ownsRow w.heap.size 3 1 (.slice b1 S0.length c1) S0.length (S0.map (.int .i64)) ∧ w'.ownsRow w.heap.size 58 3 (.slice b2 P0.length c2) P0.length (P0.flatMap tri) ∧
    (∀ k, (Value.slice b1 S0.length c1).ownBlock = some k → (Value.slice b2 P0.length c2).ownBlock ≠ some k) := by
  by_cases hx : ∃ id ns nx mk cl segs prods, manR id ns nx mk cl segs prods = true ∧ encM id ns nx mk cl segs prods = bs
  · obtain ⟨i0, n0, x0, m0, k0, S0, P0, hr, he⟩ := hx
    refine ⟨i0, n0, x0, m0, k0, S0, P0, 0, (manR_facts hr).2.2.1, (manR_facts hr).2.2.2.1, ?_⟩
    rintro w w' e (⟨id, ns, nx, mk, cl, segs, prods, b1, c1, b2, c2, h1, h2, h3, h4, h5, h6, h7⟩ | ⟨h1, h2⟩)
    · obtain ⟨rfl, rfl, rfl, rfl, rfl, rfl, rfl⟩ := h3 _ _ _ _ _ _ _ hr he
      exact ⟨b1, c1, b2, c2, h4, h5, h6, h7⟩
    · exact absurd he (h1 _ _ _ _ _ _ _ hr)
  · refine ⟨0, 0, 0, 0, 0, [], [], 72, by simp, by simp, ?_⟩
    rintro w w' e (⟨id, ns, nx, mk, cl, segs, prods, b1, c1, b2, c2, h1, h2, _⟩ | ⟨h1, h2⟩)
    · exact absurd ⟨_, _, _, _, _, _, _, h1, h2⟩ hx
    · exact ⟨none, 0, none, 0, h2, nil_own _ _ _ _, nil_own _ _ _ _, fun k hk => by cases hk⟩
theorem dman_ret {bs : List UInt8} {w w' : World} {e : Ending} (h : DMan bs w w' e) : ∃ v, e = .returned v := by
  obtain ⟨_, _, _, _, _, _, _, _, _, _, h1⟩ := dman_one bs
  obtain ⟨_, _, _, _, h2, _⟩ := h1 w w' e h
  exact ⟨_, h2⟩
theorem encM_small (id ns nx mk cl : Int) (segs : List Int) (prods : List P3) : (encM id ns nx mk cl segs prods).length ≤ 2639 := by
  unfold encM
  split
  · rename_i hr; rw [wrapB_len]; have := bodyM_len hr; omega
  · simp

set_option maxRecDepth 100000 in
set_option maxHeartbeats 8000000 in
theorem manifestCodes_any (id ns nx mk cl : Int) (A A2 A3 : Option Addr) (c d n e : Nat) (segs : List Int) (prods : List P3) (bs : List UInt8) (w : World)
    (hA : Rd w w.heap.size A (segs.map (.int .i64))) (hA2 : Rd w w.heap.size A2 (prods.flatMap tri)) (hA3 : Rd w w.heap.size A3 (bv bs))
    (ha : segs.length * 8 ≤ 140737488351232) (hb : prods.length * 24 ≤ 140737488351232) (hn : bs.length = n) (hne : n ≤ e) (hmx : n ≤ 140737488351232)
    (hws : ∀ s ∈ segs, (Lit.int .i64 s).wf = true) :
    Calls Try.prog 4 #[manV id ns nx mk cl (.slice A segs.length c) (.slice A2 prods.length d), .slice A3 n e] w fun ee w' =>
      ee = .returned (.bool true) ∧ Below w.heap.size w w' := by
  have hr : ∀ W, Below w.heap.size w W → Rd W W.heap.size A (segs.map (.int .i64)) ∧ Rd W W.heap.size A2 (prods.flatMap tri) ∧ Rd W W.heap.size A3 (bv bs) := fun W hb =>
    ⟨(hA.below hb).mono hb.size, (hA2.below hb).mono hb.size, (hA3.below hb).mono hb.size⟩
  have Hr := Lib.hid hr
  have hr2 : ∀ W, Below w.heap.size w W → Rd W (w.heap.size + 1) A (segs.map (.int .i64)) ∧ Rd W (w.heap.size + 1) A2 (prods.flatMap tri) := fun W hb =>
    ⟨(hA.below hb).mono (by omega), (hA2.below hb).mono (by omega)⟩
  have HrB := Lib.hid hr2
  have H0 := Lib.hid (And.intro (show Below w.heap.size w (w.alloc (.cells #[.int .i64 id, .int .i64 ns, .int .i64 nx, .int .i64 mk, .int .i64 cl, .slice A segs.length c, .slice A2 prods.length d] 25)) from (Below.refl _ _).alloc (Nat.le_refl _) _) (Box.new w 25 #[.int .i64 id, .int .i64 ns, .int .i64 nx, .int .i64 mk, .int .i64 cl, .slice A segs.length c, .slice A2 prods.length d]))
  have Hws := Lib.hid hws
  have Hn := Lib.hid hn
  have hms : segs.length < maxLen := by unfold maxLen; omega
  have hmp : prods.length < maxLen := by unfold maxLen; omega
  have Hm := Lib.hid (And.intro hms hmp)
  generalize hse : encM id ns nx mk cl segs prods = enc
  have hel := encM_small id ns nx mk cl segs prods
  rw [hse] at hel
  have HE := Lib.hid hse
  have Hel := Lib.hid hel
  generalize hye : manE id ns nx mk cl segs prods = ye
  have HY := Lib.hid hye
  generalize hnl : enc.length = nl
  have HNL := Lib.hid hnl
  clear hr hr2 hA hA2 hA3 hws hms hmp hse hel hye hnl
  obtain ⟨i0, n0, x0, m0, k0, S0, P0, er, hS0, hP0, hone⟩ := dman_one bs
  have H1 := Lib.hid hone
  generalize hs0 : S0.length = s0 at hone hS0
  generalize hp0 : P0.length = p0 at hone hP0
  have HS := Lib.hid (And.intro hs0 hp0)
  have HO := Lib.hid hone
  clear H1 hone hs0 hp0
  go_enter Try.func4, Try.ntmps4
  go_wp2_with (first
    | (go_at_call 7
       refine (copied_any id ns nx mk cl A A2 c d segs prods _ (Hr.out _ H0.out.1).1 (Hr.out _ H0.out.1).2.1 ha hb).mono ?_
       rintro e1 w1 ⟨g, h, c1, d1, rfl, hb1, hg1, hh1, hgh, hcc, hdd⟩
       have y2 := (H0.out.2.below hb1 (by simp <;> omega))
       have z2 := y2.cell
       have hs1 : w.heap.size + 1 ≤ w1.heap.size := by have := hb1.size; simp at this; omega
       have hs1a : w.heap.size < w1.heap.size := by omega
       have hgB := hg1.1
       have hhB := hh1.1
       simp only [World.size_alloc] at hgB hhB
       have T1 := Lib.hid (show CS w #[.int .i64 id, .int .i64 ns, .int .i64 nx, .int .i64 mk, .int .i64 cl, .slice A segs.length c, .slice A2 prods.length d] #[.int .i64 id, .int .i64 ns, .int .i64 nx, .int .i64 mk, .int .i64 cl, .slice (some ⟨g, 0, none⟩) segs.length c1, .slice (some ⟨h, 0, none⟩) prods.length d1] w1.heap.size g h segs prods (w1.alloc (.cells #[.int .i64 id, .int .i64 ns, .int .i64 nx, .int .i64 mk, .int .i64 cl, .slice (some ⟨g, 0, none⟩) segs.length c1, .slice (some ⟨h, 0, none⟩) prods.length d1] 25)) from
         ⟨y2.alloc _, Box.new _ _ _, (hg1.le (by simp)).alloc _, (hh1.le (by simp)).alloc _, (H0.out.1.trans (hb1.mono (by simp <;> omega))).alloc (by omega) _, hgh, by have := hg1.lt; omega, by have := hh1.lt; omega⟩)
       clear hb1 hg1 hh1 y2 hgh)
    | (go_at_call 10
       refine (moved_any id ns nx mk cl g h c1 d1 segs prods _ _ _ _ T1.out.og T1.out.oh T1.out.far.1 (Nat.le_of_lt Hm.out.1) (Nat.le_of_lt Hm.out.2) Hws.out).mono ?_
       rintro e3 w3 ⟨ss, ps, hls, hlp, hwss, rfl, og3, oh3, hc3⟩
       have S3 := T1.out.man hc3 og3 oh3
       have Hl3 := Lib.hid (And.intro hls (And.intro hlp hwss))
       clear hls hlp hwss og3 oh3 hc3
       have q31 := S3.m.cell
       have q33 := S3.n.cell
       have T3 := Lib.hid S3
       clear S3 T1 z2)
    | (go_at_call 21
       refine (octEncode_len id ns nx mk cl _ _ c1 d1 _ _ ss ps _ Hl3.out.1 Hl3.out.2.1 T3.out.og.rd_pre T3.out.oh.rd_pre Hl3.out.2.2).mono ?_
       rintro e4 w4 ⟨⟨r4, rfl⟩, hb4⟩
       have S4 := T3.out.next hb4
       have q41 := S4.m.cell
       have q43 := S4.n.cell
       have T4 := Lib.hid S4
       clear S4 T3 hb4 q31 q33)
    | (go_at_call 11
       refine (back_any id ns nx mk cl id ns nx mk cl g h c1 d1 A A2 c d segs ss prods ps _ _ _ _ (T4.out.og) (T4.out.oh) T4.out.far.1 ((HrB.out _ T4.out.below).1) ((HrB.out _ T4.out.below).2) (by have := T4.out.og.lt; have := T4.out.og.1; omega) Hl3.out.1.symm Hl3.out.2.1.symm (Nat.le_of_lt Hm.out.1) (Nat.le_of_lt Hm.out.2)).mono ?_
       rintro e5 w5 ⟨rfl, og5, oh5, hc5⟩
       have S5 := T4.out.man hc5 og5 oh5
       have q51 := S5.m.cell
       have q53 := S5.n.cell
       have T5 := Lib.hid S5
       clear S5 T4 hc5 og5 oh5 q41 q43)
    | (go_at_call 21
       refine (octEncode id ns nx mk cl _ _ c1 d1 segs prods _ T5.out.og.rd_pre T5.out.oh.rd_pre Hws.out).mono ?_
       rintro e6 w6 ⟨b6, cap6, rfl, hx6, hb6⟩
       rw [HE.out, HNL.out] at hx6
       rw [HE.out, HY.out, HNL.out]
       have S6 := T5.out.next hb6
       have q61 := S6.m.cell
       have q63 := S6.n.cell
       have X6 := Lib.hid (ownsRow_rd hx6)
       have T6 := Lib.hid S6
       clear S6 T5 hb6 hx6 q51 q53)
    | (go_at_call 21
       refine (octEncode id ns nx mk cl _ _ c1 d1 segs prods _ T6.out.og.rd_pre T6.out.oh.rd_pre Hws.out).mono ?_
       rintro e7 w7 ⟨b7, cap7, rfl, hx7, hb7⟩
       rw [HE.out, HNL.out] at hx7
       rw [HE.out, HY.out, HNL.out]
       have S7 := T6.out.next hb7
       have q71 := S7.m.cell
       have q73 := S7.n.cell
       have R7 := Lib.hid hx7
       have B7 := Lib.hid hb7
       clear S7 hb7 hx7 q61 q63)
    | (go_at_call 22
       refine (marked_any _ nl cap7 b7 enc _ R7.out HNL.out B7.out.size (by have := Hel.out; have := HNL.out; omega)).mono ?_
       rintro e8 w8 ⟨rfl, hc8⟩
       rw [show ((nl + 64 : Nat) : Int) = (nl : Int) + 64 by omega]
       have hnls : nl ≤ 2639 := by have := Hel.out; have := HNL.out; omega
       have hb8 := B7.out.trans (hc8.below B7.out.size fun k hk => (R7.out.lt k hk).1)
       have S8 := T6.out.next hb8
       have q81 := S8.m.cell
       have q83 := S8.n.cell
       have X8 := Lib.hid ((X6.out.below hb8).mono hb8.size)
       have T8 := Lib.hid S8
       clear S8 T6 X6 R7 B7 hb8 hc8 q71 q73)
    | (go_at_call 23
       refine (refEncode id ns nx mk cl A A2 c d segs prods _ (Hr.out _ T8.out.below).1 (Hr.out _ T8.out.below).2.1).mono ?_
       rintro e9 w9 ⟨b9, cap9, rfl, hx9, hb9⟩
       rw [HE.out, HNL.out] at hx9
       rw [HE.out, HY.out, HNL.out]
       have S9 := T8.out.next hb9
       have q91 := S9.m.cell
       have q93 := S9.n.cell
       have X9 := Lib.hid (And.intro ((X8.out.below hb9).mono hb9.size) (ownsRow_rd hx9))
       have T9 := Lib.hid S9
       clear S9 T8 X8 hb9 hx9 q81 q83)
    | (go_at_call 24
       refine (roomy_any A3 n e bs _ (Hr.out _ T9.out.below).2.2 Hn.out (by omega)).mono ?_
       rintro e10 w10 ⟨gf, cf, rfl, hcf, hcm, hof, hb10⟩
       clear hcm
       rw [bv_app] at hof
       have F10 := Lib.hid (And.intro hof hb10)
       clear hof hb10)
    | (go_at_call 26
       refine (flipped_any _ gf n _ bs (bv [165, 90, 167, 91]) _ F10.out.1 Hn.out (by omega)).mono ?_
       rintro e11 w11 ⟨rfl, ho11, hc11⟩
       have F11 := Lib.hid (And.intro ho11 (F10.out.2.trans (hc11.below F10.out.2.size (fun k hk => by rw [hk]; exact F10.out.1.1))))
       clear ho11 hc11 F10)
    | (go_at_call 25
       refine (manDecode _ n _ (bs.map flip1) _ F11.out.1.rd_pre (by rw [List.length_map]; exact Hn.out) (by omega) (by omega)).mono ?_
       rintro e12 w12 ⟨hdm, hb12⟩
       obtain ⟨v12, rfl⟩ := dman_ret hdm
       have F12 := Lib.hid (And.intro (F11.out.1.below hb12 F11.out.1.lt) (F11.out.2.trans (hb12.mono F11.out.2.size)))
       clear hdm hb12 F11)
    | (go_at_call 26
       refine (flipped_any _ gf n _ (bs.map flip1) (bv [165, 90, 167, 91]) _ F12.out.1 (by rw [List.length_map]; exact Hn.out) (by omega)).mono ?_
       rintro e13 w13 ⟨rfl, ho13, hc13⟩
       rw [flip_flip] at ho13
       have F13 := Lib.hid (And.intro ho13 (F12.out.2.trans (hc13.below F12.out.2.size (fun k hk => by rw [hk]; exact F12.out.1.1))))
       clear ho13 hc13 F12)
    | (go_at_call 25
       refine (manDecode _ n _ bs _ F13.out.1.rd_pre Hn.out (by omega) (by omega)).mono ?_
       rintro e14 w14 ⟨hdm, hb14⟩
       obtain ⟨pb1, pc1, pb2, pc2, rfl, pr1, pr2, _⟩ := HO.out _ _ _ hdm
       have F14 := Lib.hid (And.intro (F13.out.1.below hb14 F13.out.1.lt) (F13.out.2.trans (hb14.mono F13.out.2.size)))
       have P14 := Lib.hid (And.intro (ownsRow_rd pr1) (ownsRow_rd pr2))
       clear hdm hb14 F13 pr1 pr2)
    | (go_at_call 25
       refine (manDecode _ n _ bs _ (F14.out.1.alloc _).rd_pre Hn.out (by omega) (by omega)).mono ?_
       rintro e15 w15 ⟨hdm, hb15⟩
       obtain ⟨ob1, oc1, ob2, oc2, rfl, or1, or2, od⟩ := HO.out _ _ _ hdm
       have O15 := Lib.hid (And.intro or1 (And.intro or2 (And.intro od hb15)))
       clear hdm hb15 or1 or2 od)
    | (go_at_call 27
       refine (spoilt_any _ s0 oc1 p0 oc2 ob1 ob2 i0 n0 x0 m0 k0 _ _ _ (O15.out.1.alloc _) (O15.out.2.1.alloc _) O15.out.2.2.1 (by have := O15.out.2.2.2.size; simp at this ⊢; omega) (by omega) (by omega)).mono ?_
       rintro e16 w16 ⟨rfl, hc16⟩
       rw [show ((s0 + p0 + 128 : Nat) : Int) = (s0 : Int) + p0 + 128 by omega]
       have hb16 : Below (w14.alloc (.cells #[.int .i64 i0, .int .i64 n0, .int .i64 x0, .int .i64 m0, .int .i64 k0, .slice pb1 s0 pc1, .slice pb2 p0 pc2] 25)).heap.size (w14.alloc (.cells #[.int .i64 i0, .int .i64 n0, .int .i64 x0, .int .i64 m0, .int .i64 k0, .slice pb1 s0 pc1, .slice pb2 p0 pc2] 25)) w16 := (O15.out.2.2.2.alloc O15.out.2.2.2.size _).trans (hc16.below (by have := O15.out.2.2.2.size; simp at this ⊢; omega) (fun k hk => by
         rcases hk with hk | hk
         · exact (O15.out.1.lt k hk).1
         · exact (O15.out.2.1.lt k hk).1))
       have hp16 := (Box.new w14 25 #[.int .i64 i0, .int .i64 n0, .int .i64 x0, .int .i64 m0, .int .i64 k0, .slice pb1 s0 pc1, .slice pb2 p0 pc2]).below hb16 (by simp)
       have hbb := (Below.al' w14 (.cells #[.int .i64 i0, .int .i64 n0, .int .i64 x0, .int .i64 m0, .int .i64 k0, .slice pb1 s0 pc1, .slice pb2 p0 pc2] 25)).trans (hb16.mono (by simp))
       have F16 := Lib.hid (And.intro (F14.out.1.below hbb F14.out.1.lt) (And.intro (F14.out.2.trans (hbb.mono F14.out.2.size)) (And.intro hp16 (And.intro ((P14.out.1.below hbb).mono hbb.size) ((P14.out.2.below hbb).mono hbb.size)))))
       clear hc16 hb16 hp16 hbb F14 P14 O15)
    | (go_at_call 28
       refine (refDecodeM A3 n e bs _ (Hr.out _ (T9.out.next (F16.out.2.1)).below).2.2 Hn.out hne (by omega)).mono ?_
       rintro e17 w17 ⟨hdm, hb17⟩
       obtain ⟨qb1, qc1, qb2, qc2, rfl, qr1, qr2, _⟩ := HO.out _ _ _ hdm
       have ZN := Lib.hid (show ∀ W', Below (w17.alloc (.cells #[.int .i64 i0, .int .i64 n0, .int .i64 x0, .int .i64 m0, .int .i64 k0, .slice qb1 s0 qc1, .slice qb2 p0 qc2] 25)).heap.size (w17.alloc (.cells #[.int .i64 i0, .int .i64 n0, .int .i64 x0, .int .i64 m0, .int .i64 k0, .slice qb1 s0 qc1, .slice qb2 p0 qc2] 25)) W' →
           CS w #[.int .i64 id, .int .i64 ns, .int .i64 nx, .int .i64 mk, .int .i64 cl, .slice A segs.length c, .slice A2 prods.length d] #[.int .i64 id, .int .i64 ns, .int .i64 nx, .int .i64 mk, .int .i64 cl, .slice (some ⟨g, 0, none⟩) segs.length c1, .slice (some ⟨h, 0, none⟩) prods.length d1] w1.heap.size g h segs prods W' ∧ Rd W' W'.heap.size b6 (bv enc) ∧ Rd W' W'.heap.size b9 (bv enc) ∧ Rd W' W'.heap.size (some ⟨gf, 0, none⟩) (bv bs ++ bv [165, 90, 167, 91]) ∧
           Rd W' W'.heap.size pb1 (S0.map (.int .i64)) ∧ Rd W' W'.heap.size pb2 (P0.flatMap tri) ∧ Rd W' W'.heap.size qb1 (S0.map (.int .i64)) ∧ Rd W' W'.heap.size qb2 (P0.flatMap tri) ∧
           Box W' w14.heap.size 25 #[.int .i64 i0, .int .i64 n0, .int .i64 x0, .int .i64 m0, .int .i64 k0, .slice pb1 s0 pc1, .slice pb2 p0 pc2] ∧ Box W' w17.heap.size 25 #[.int .i64 i0, .int .i64 n0, .int .i64 x0, .int .i64 m0, .int .i64 k0, .slice qb1 s0 qc1, .slice qb2 p0 qc2] from fun W' hb => by
         have b17 := (Below.al' w17 (.cells #[.int .i64 i0, .int .i64 n0, .int .i64 x0, .int .i64 m0, .int .i64 k0, .slice qb1 s0 qc1, .slice qb2 p0 qc2] 25)).trans (hb.mono (by simp))
         have b16 := hb17.trans (b17.mono hb17.size)
         have b9 := F16.out.2.1.trans (b16.mono F16.out.2.1.size)
         refine ⟨T9.out.next b9, (X9.out.1.below b9).mono b9.size, (X9.out.2.below b9).mono b9.size, ?_, (F16.out.2.2.2.1.below b16).mono b16.size, (F16.out.2.2.2.2.below b16).mono b16.size, ((ownsRow_rd qr1).below b17).mono b17.size, ((ownsRow_rd qr2).below b17).mono b17.size, F16.out.2.2.1.below b16 F16.out.2.2.1.lt, (Box.new w17 25 #[.int .i64 i0, .int .i64 n0, .int .i64 x0, .int .i64 m0, .int .i64 k0, .slice qb1 s0 qc1, .slice qb2 p0 qc2]).below hb (by simp)⟩
         have := F16.out.1.below b16 F16.out.1.lt
         exact Own.rd_pre (ts := []) (by simpa using this))
       obtain ⟨y171, _, _, _, _, _, _, _, y172, y173⟩ := ZN.out _ (Below.refl _ _)
       have qa17 := y171.m.cell
       have qb17_ := y171.n.cell
       have qc17_ := y172.cell
       have qd17 := y173.cell
       have qe17 := y171.m.lt
       have qf17 := y171.n.lt
       have qg17 := y172.lt
       have qh17 := y173.lt
       clear hdm hb17 qr1 qr2 T9 X9 F16 y171 y172 y173 q91 q93)
    | (go_at_call 29
       obtain ⟨_, z2, z3, _⟩ := ZN.out _ (Below.refl _ _)
       (with_reducible refine (lawSame b6 b9 nl nl cap6 cap9 enc enc _ HNL.out HNL.out z2 z3 (by have := Hel.out; have := HNL.out; omega) (by have := Hel.out; have := HNL.out; omega)).mono ?_)
       rintro e18 w18 ⟨rfl, hb18⟩
       rw [decide_eq_true rfl]
       obtain ⟨y181, _, _, _, _, _, _, _, y182, y183⟩ := ZN.out _ hb18
       have qa18 := y181.m.cell
       have qb18_ := y181.n.cell
       have qc18_ := y182.cell
       have qd18 := y183.cell
       have qe18 := y181.m.lt
       have qf18 := y181.n.lt
       have qg18 := y182.lt
       have qh18 := y183.lt
       have B18 := Lib.hid hb18
       clear hb18 z2 z3 y181 y182 y183)
    | (go_at_call 19
       obtain ⟨z1, _⟩ := ZN.out _ B18.out
       refine (kept_any id ns nx mk cl g h c1 d1 A A2 c d segs prods _ _ _ z1.og z1.oh (Hr.out _ z1.below).1 (Hr.out _ z1.below).2.1 hcc hdd Hm.out.1 Hm.out.2).mono ?_
       rintro e19 w19 ⟨rfl, hb19⟩
       have hb19' := B18.out.trans (hb19.mono B18.out.size)
       obtain ⟨y191, _, _, _, _, _, _, _, y192, y193⟩ := ZN.out _ hb19'
       have qa19 := y191.m.cell
       have qb19_ := y191.n.cell
       have qc19_ := y192.cell
       have qd19 := y193.cell
       have qe19 := y191.m.lt
       have qf19 := y191.n.lt
       have qg19 := y192.lt
       have qh19 := y193.lt
       have B19 := Lib.hid hb19'
       clear hb19 hb19' z1 y191 y192 y193 B18)
    | (go_at_call 30
       obtain ⟨_, _, _, _, z4, z5, z6, z7, _⟩ := ZN.out _ B19.out
       rw [← HS.out.1, ← HS.out.2]
       refine (sameMan_eq i0 n0 x0 m0 k0 _ _ _ _ pc1 qc1 pc2 qc2 S0 P0 _ z4 z6 z5 z7 (by have := HS.out.1; unfold maxLen; omega) (by have := HS.out.2; unfold maxLen; omega)).mono ?_
       rintro e20 w20 ⟨rfl, hb20⟩
       have hb20' := B19.out.trans (hb20.mono B19.out.size)
       obtain ⟨y201, _, _, _, _, _, _, _, y202, y203⟩ := ZN.out _ hb20'
       have qa20 := y201.m.cell
       have qb20_ := y201.n.cell
       have qc20_ := y202.cell
       have qd20 := y203.cell
       have qe20 := y201.m.lt
       have qf20 := y201.n.lt
       have qg20 := y202.lt
       have qh20 := y203.lt
       have B20 := Lib.hid hb20'
       clear hb20 hb20' z4 z5 z6 z7 y201 y202 y203 B19)
    | (go_at_call 24
       obtain ⟨z1, _⟩ := ZN.out _ B20.out
       refine (roomy_any A3 n e bs _ (Hr.out _ z1.below).2.2 Hn.out (by omega)).mono ?_
       rintro e21 w21 ⟨gr, cr, rfl, hcr, _, hor, hb21⟩
       have hb21' := B20.out.trans (hb21.mono B20.out.size)
       obtain ⟨y211, _, _, _, _, _, _, _, y212, y213⟩ := ZN.out _ hb21'
       have qa21 := y211.m.cell
       have qb21_ := y211.n.cell
       have qc21_ := y212.cell
       have qd21 := y213.cell
       have qe21 := y211.m.lt
       have qf21 := y211.n.lt
       have qg21 := y212.lt
       have qh21 := y213.lt
       have B21 := Lib.hid (And.intro hb21' hor)
       clear hb21 hb21' z1 y211 y212 y213 B20 hor)
    | (go_at_call 29
       obtain ⟨_, _, _, z4, _⟩ := ZN.out _ B21.out.1
       rw [← bv_app] at z4
       (with_reducible refine (lawSame _ _ (n + 4) (n + 4) cf cr (bs ++ [165, 90, 167, 91]) (bs ++ [165, 90, 167, 91]) _ (by simp [Hn.out]) (by simp [Hn.out]) z4 (Own.rd_pre (ts := []) (by simpa using B21.out.2)) (by omega) (by omega)).mono ?_)
       rintro e22 w22 ⟨rfl, hb22⟩
       rw [decide_eq_true rfl]
       have hb22' := B21.out.1.trans (hb22.mono B21.out.1.size)
       obtain ⟨y221, _, _, _, _, _, _, _, y222, y223⟩ := ZN.out _ hb22'
       have qa22 := y221.m.cell
       have qb22_ := y221.n.cell
       have qc22_ := y222.cell
       have qd22 := y223.cell
       have qe22 := y221.m.lt
       have qf22 := y221.n.lt
       have qg22 := y222.lt
       have qh22 := y223.lt
       have B22 := Lib.hid hb22'
       clear hb22 hb22' z4 y221 y222 y223 B21))
  go_ret
  refine ⟨?_, (ZN.out _ B22.out).1.below⟩
  simp [HS.out.1, HS.out.2]
end Go.Proofs.Ytjgdjfmgkmegfaa
