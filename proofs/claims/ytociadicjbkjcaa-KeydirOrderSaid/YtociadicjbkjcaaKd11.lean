import Derived.Test.YtociadicjbkjcaaKd10
import Derived.Laws.EntriesVeiled
namespace Go.Proofs.Ytociadicjbkjcaa
open Go.RowKit Go.Maps Go.Shelf
attribute [local go_sem] Oper.semAt_some

/-- The dir that dp leads to has the root p; no dir has none. -/
def DTop (W : World) (dp p : Option Addr) : Prop := (dp = none ∧ p = none) ∨ (∃ d, dp = some ⟨d, 0, none⟩ ∧ Box W d 64 #[.pointer p])
theorem DTop.below {W W' : World} {dp p : Option Addr} (h : DTop W dp p) (hb : Below W.heap.size W W') : DTop W' dp p := by
  rcases h with h | ⟨d, h1, h2⟩
  · exact .inl h
  · exact .inr ⟨d, h1, h2.below hb h2.lt⟩
theorem top_dt {W : World} {dp p : Option Addr} (h : DTop W dp p) : Calls Try.prog 38 #[.pointer dp] W fun e w' => e = .returned (.pointer p) ∧ w' = W := by
  rcases h with ⟨rfl, rfl⟩ | ⟨d, rfl, h2⟩
  · exact (top_nil W).mono fun _ _ ⟨h1, h2⟩ => ⟨h1, h2.symm⟩
  · exact (top_any d p W h2).mono fun _ _ ⟨h1, h2⟩ => ⟨h1, h2.symm⟩

set_option maxRecDepth 100000 in
set_option maxHeartbeats 4000000 in
theorem all1_in (n l : Nat) (lo hi : ByteArray) (hlo : lo.size ≤ maxLen) (hhi : hi.size ≤ maxLen) (lob hib db : Nat) (dp p : Option Addr) (T : Tn) (J Jx : List KE → World → Prop) (W : World)
    (hJ : ∀ s W W', J s W → W.grownBy W' none → J s W')
    (hY : ∀ m pre x W, J pre W → pre.length < (sel lo hi T.flat).length → YieldAt Wf m Try.prog l (encK x) W fun e W' => (e = .returned (.bool true) ∧ J (pre ++ [x]) W' ∧ Kp W W') ∨ (e = .returned (.bool false) ∧ Jx (pre ++ [x]) W'))
    (hs : Sorted T.flat) (hk : KeysOk T.flat) (hT : Tr W W.heap.size T p) (hd : DTop W dp p) (h1 : Box W lob 9 #[.string lo]) (h2 : Box W hib 9 #[.string hi]) (h3 : Box W db 29 #[.pointer dp]) (h0 : J [] W) :
    CallsIn Wf n Try.prog 42 #[.func (.yield l) #[] #[], .pointer (some ⟨lob, 0, none⟩), .pointer (some ⟨hib, 0, none⟩), .pointer (some ⟨db, 0, none⟩)] W fun e W' => (∃ v, e = .returned v) ∧
      ((∃ ys, ys = sel lo hi T.flat ∧ J ys W') ∨ (∃ pre, pre <+: sel lo hi T.flat ∧ Jx pre W')) := by
  have hg : ∀ o o', W.grownBy ((W.alloc o).alloc o').drew none := fun o o' => ((World.grownBy_alloc W o none).trans (World.grownBy_alloc _ o' none)).trans (grown_drew1 _)
  obtain ⟨W2, hW2⟩ : ∃ W2, W2 = ((W.alloc (.cells #[.func (.yield l) #[] #[]] 85)).alloc (.cells #[.func (.func 43) #[] #[.pointer (some ⟨lob, 0, none⟩), .pointer (some ⟨hib, 0, none⟩), .pointer (some ⟨W.heap.size + 1, 0, none⟩), .pointer (some ⟨W.heap.size, 0, none⟩)]] 86)).drew := ⟨_, rfl⟩
  have g2 : W.grownBy W2 none := by rw [hW2]; exact hg _ _
  have hb2 := grown_below g2
  have hy2 : Box W2 W.heap.size 85 #[.func (.yield l) #[] #[]] := by rw [hW2]; exact ((Box.new W _ _).alloc _).drew
  have hw2 : Box W2 (W.heap.size + 1) 86 #[.func (.func 43) #[] #[.pointer (some ⟨lob, 0, none⟩), .pointer (some ⟨hib, 0, none⟩), .pointer (some ⟨W.heap.size + 1, 0, none⟩), .pointer (some ⟨W.heap.size, 0, none⟩)]] := by
    rw [hW2]
    have := Box.new (W.alloc (.cells #[.func (.yield l) #[] #[]] 85)) 86 #[.func (.func 43) #[] #[.pointer (some ⟨lob, 0, none⟩), .pointer (some ⟨hib, 0, none⟩), .pointer (some ⟨W.heap.size + 1, 0, none⟩), .pointer (some ⟨W.heap.size, 0, none⟩)]]
    rw [World.size_alloc] at this
    exact this.drew
  have hp := tree_in l lo hi hlo hhi lob hib (W.heap.size + 1) W.heap.size J Jx (sel lo hi T.flat).length hJ hY T (n - 1) p [] W2 (hT.below hb2) hs hk ⟨h1.below hb2 h1.lt, h2.below hb2 h2.lt, hw2, hy2⟩ (hJ _ _ _ h0 g2) (by simp)
  have HP := Lib.hid hp
  have htop := top_dt (hd.below hb2)
  have hc3 : W.cell? ⟨db, 0, none⟩ = some (.pointer dp) := h3.cell 0
  have hl3 := h3.lt
  rw [hW2] at htop
  have HTp := Lib.hid htop
  have HW2 := Lib.hid hW2
  clear hp htop hW2 hg g2 hb2 hy2 hw2 hY hJ
  refine callsIn_of_wp Try.func42 rfl trivial ?_ rfl
  simp only [Try.ntmps42, List.size_toArray, List.length_cons, List.length_nil, Nat.reduceAdd, Nat.reduceSub, Array.replicate_succ, Array.replicate_zero, List.push_toArray, List.append_toArray, List.nil_append, List.cons_append]
  gi_wp2
  refine wpIn_region_tail 3 (by kernel_rfl) (by kernel_rfl) ?_
  simp only [List.take_succ_cons, List.take_zero, List.drop_succ_cons, List.drop_zero]
  repeat still_step
  still_call HTp.out
  refine wpStill_nil ?_
  rw [← HW2.out]
  gi_wp2_with (first
    | (gi_at_call 43
       refine HP.out.mono ?_
       rintro e W5 ⟨bb, rfl, hw5⟩
       have HW5 := Lib.hid hw5
       clear hw5 HP))
  go_end0
  refine ⟨⟨_, rfl⟩, ?_⟩
  rcases HW5.out with ⟨_, h, _⟩ | ⟨_, q, h1, h2⟩
  · exact .inl ⟨_, rfl, h⟩
  · exact .inr ⟨q, h1, h2⟩

set_option maxRecDepth 100000 in
theorem all_any (dp : Option Addr) (lo hi : ByteArray) (w : World) :
    Calls Try.prog 27 #[.pointer dp, .string lo, .string hi] w fun e w' =>
      e = .returned (.func (.func 42) #[] #[.pointer (some ⟨w.heap.size + 1, 0, none⟩), .pointer (some ⟨w.heap.size + 2, 0, none⟩), .pointer (some ⟨w.heap.size, 0, none⟩)]) ∧
      w' = ((w.alloc (.cells #[.pointer dp] 29)).alloc (.cells #[.string lo] 9)).alloc (.cells #[.string hi] 9) := by
  go_enter Try.func27, Try.ntmps27
  go_wp2
  go_ret
  exact ⟨rfl, rfl⟩
end Go.Proofs.Ytociadicjbkjcaa
