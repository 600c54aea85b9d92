import Derived.Test.YtociadicjbkjcaaKd1
import Derived.StillTailTactics
import Derived.Deep.RegionHeld3
import Derived.IntWalk
namespace Go.Proofs.Ytociadicjbkjcaa
open Go.RowKit Go.Maps

/-! The tree in memory. -/
inductive Tn where
  | leaf
  | node (k : ByteArray) (e : En) (l r : Tn)
def Tn.flat : Tn → List KE
  | .leaf => []
  | .node k e l r => l.flat ++ (k, e) :: r.flat
def Tn.cnt (t : Tn) : Nat := t.flat.length
theorem Tn.cnt_node (k : ByteArray) (e : En) (l r : Tn) : (Tn.node k e l r).cnt = l.cnt + r.cnt + 1 := by simp [Tn.cnt, Tn.flat]; omega
def nodeC (k : ByteArray) (e : En) (n : Nat) (p q : Option Addr) : Array Value := #[.string k, .int .i64 e.seg, .int .i64 e.at_, .int .i64 e.size, .int .i64 e.off, .int .i64 e.time, .bool e.tomb, .int .i64 n, .pointer p, .pointer q]
/-- The tree t hangs on p, below block B. -/
def Tr (w : World) (B : Nat) : Tn → Option Addr → Prop
  | .leaf, p => p = none
  | .node k e l r, p => ∃ (b : Nat) (p1 p2 : Option Addr), p = some ⟨b, 0, none⟩ ∧ b < B ∧ Box w b 82 (nodeC k e (Tn.node k e l r).cnt p1 p2) ∧ Tr w B l p1 ∧ Tr w B r p2
theorem Tr.keep {w w' : World} {B B' : Nat} (hh : ∀ b : Nat, b < B → w'.heap[b]? = w.heap[b]?) (hB : B ≤ B') : ∀ {t : Tn} {p : Option Addr}, Tr w B t p → Tr w' B' t p
  | .leaf, _, h => h
  | .node _ _ _ _, _, ⟨b, p1, p2, h1, h2, h3, h4, h5⟩ => ⟨b, p1, p2, h1, by omega, (hh b h2).trans h3, Tr.keep hh hB h4, Tr.keep hh hB h5⟩
theorem Tr.below {w w' : World} {t : Tn} {p : Option Addr} (h : Tr w w.heap.size t p) (hb : Below w.heap.size w w') : Tr w' w'.heap.size t p := h.keep (fun b hlt => hb.block b hlt) hb.size
theorem Tr.mono {w : World} {B B' : Nat} {t : Tn} {p : Option Addr} (h : Tr w B t p) (hB : B ≤ B') : Tr w B' t p := h.keep (fun _ _ => rfl) hB
/-- A node that was just made. -/
theorem Tr.mk {w : World} {k : ByteArray} {e : En} {l r : Tn} {p q : Option Addr} (n : Nat) (hn : n = l.cnt + r.cnt + 1) (hl : Tr w w.heap.size l p) (hr : Tr w w.heap.size r q) :
    Tr (w.alloc (.cells (nodeC k e n p q) 82)) (w.alloc (.cells (nodeC k e n p q) 82)).heap.size (.node k e l r) (some ⟨w.heap.size, 0, none⟩) := by
  have hb : Below w.heap.size w (w.alloc (.cells (nodeC k e n p q) 82)) := (Below.refl _ _).alloc (Nat.le_refl _) _
  refine ⟨w.heap.size, p, q, rfl, by simp, ?_, hl.below hb, hr.below hb⟩
  rw [Tn.cnt_node, ← hn]
  exact Box.new w _ _
theorem Tr.mk' {w W : World} {k : ByteArray} {e : En} {l r : Tn} {p q : Option Addr} {n s : Nat} (hs : w.heap.size = s) (hn : n = l.cnt + r.cnt + 1) (hl : Tr w s l p) (hr : Tr w s r q) (hW : W.heap = (w.alloc (.cells (nodeC k e n p q) 82)).heap) :
    Tr W W.heap.size (.node k e l r) (some ⟨s, 0, none⟩) := by
  subst hs
  exact (Tr.mk n hn hl hr).keep (fun b _ => by rw [hW]) (by rw [hW]; exact Nat.le_refl _)

/-- The cells of a node, as the walk reads them. -/
theorem Tr.cells {w : World} {B : Nat} {k : ByteArray} {e : En} {l r : Tn} {p : Option Addr} (h : Tr w B (.node k e l r) p) : ∃ (b : Nat) (p1 p2 : Option Addr), p = some ⟨b, 0, none⟩ ∧ b < B ∧ Tr w B l p1 ∧ Tr w B r p2 ∧
    Box w b 82 (nodeC k e (l.cnt + r.cnt + 1) p1 p2) := by
  obtain ⟨b, p1, p2, h1, h2, h3, h4, h5⟩ := h
  rw [Tn.cnt_node] at h3
  exact ⟨b, p1, p2, h1, h2, h4, h5, h3⟩

set_option maxRecDepth 100000 in
theorem count_any (t : Tn) (p : Option Addr) (B : Nat) (w : World) (h : Tr w B t p) : Calls Try.prog 40 #[.pointer p] w fun e w' => e = .returned (.int .i64 t.cnt) ∧ w = w' := by
  cases t with
  | leaf =>
    obtain rfl : p = none := h
    go_enter Try.func40, Try.ntmps40
    go_wp2
    go_ret
    exact ⟨rfl, rfl⟩
  | node k e l r =>
    obtain ⟨b, p1, p2, rfl, _, _, _, hx⟩ := h.cells
    have h2 : w.cell? ⟨b, 7, none⟩ = some (.int .i64 ((l.cnt + r.cnt + 1 : Nat) : Int)) := hx.cell 7
    rw [Tn.cnt_node]
    generalize l.cnt + r.cnt + 1 = n at h2
    clear h hx
    go_enter Try.func40, Try.ntmps40
    go_wp2
    go_ret
    exact ⟨rfl, rfl⟩
set_option maxRecDepth 100000 in
theorem heavy_any (t u : Tn) (p q : Option Addr) (B : Nat) (w : World) (h : Tr w B t p) (k : Tr w B u q) (ht : t.cnt ≤ 1000000000000000) (hu : u.cnt ≤ 1000000000000000) :
    Calls Try.prog 68 #[.pointer p, .pointer q] w fun e w' => e = .returned (.bool (decide (3 * (u.cnt + 1) < t.cnt + 1))) ∧ w = w' := by
  have H := Lib.hid h
  have K := Lib.hid k
  clear h k
  go_enter Try.func68, Try.ntmps68
  go_wp2_with (first
    | (go_at_call 40; (with_reducible refine (count_any t p B _ H.out).mono ?_); rintro e w' ⟨rfl, rfl⟩)
    | (go_at_call 40; (with_reducible refine (count_any u q B _ K.out).mono ?_); rintro e w' ⟨rfl, rfl⟩))
  go_ret
  exact ⟨ret_bool (by rw [Bool.eq_iff_iff]; simp only [decide_eq_true_eq]; omega), rfl⟩
set_option maxRecDepth 100000 in
theorem inner_any (t u : Tn) (p q : Option Addr) (B : Nat) (w : World) (h : Tr w B t p) (k : Tr w B u q) (ht : t.cnt ≤ 1000000000000000) (hu : u.cnt ≤ 1000000000000000) :
    Calls Try.prog 69 #[.pointer p, .pointer q] w fun e w' => e = .returned (.bool (decide (2 * (u.cnt + 1) ≤ t.cnt + 1))) ∧ w = w' := by
  have H := Lib.hid h
  have K := Lib.hid k
  clear h k
  go_enter Try.func69, Try.ntmps69
  go_wp2_with (first
    | (go_at_call 40; (with_reducible refine (count_any t p B _ H.out).mono ?_); rintro e w' ⟨rfl, rfl⟩)
    | (go_at_call 40; (with_reducible refine (count_any u q B _ K.out).mono ?_); rintro e w' ⟨rfl, rfl⟩))
  go_ret
  exact ⟨ret_bool (by rw [Bool.eq_iff_iff]; simp only [decide_eq_true_eq]; omega), rfl⟩

/-- What a function that makes a tree answers. -/
def MT (xs : List KE) (w : World) (e : Ending) (w' : World) : Prop := ∃ (t : Tn) (p : Option Addr), e = .returned (.pointer p) ∧ t.flat = xs ∧ Tr w' w'.heap.size t p ∧ Below w.heap.size w w'

set_option maxRecDepth 100000 in
theorem join_any (k : ByteArray) (en : En) (l r : Tn) (p q : Option Addr) (w : World) (hl : Tr w w.heap.size l p) (hr : Tr w w.heap.size r q) (ht : l.cnt ≤ 1000000000000000) (hu : r.cnt ≤ 1000000000000000) :
    Calls Try.prog 64 #[.string k, en.v, .pointer p, .pointer q] w (MT (l.flat ++ (k, en) :: r.flat) w) := by
  have hb : Below w.heap.size w (w.alloc (.cells en.cells.toArray 26)) := (Below.refl _ _).alloc (Nat.le_refl _) _
  have hH : ∀ W' : World, W'.heap = (w.alloc (.cells en.cells.toArray 26)).heap → Tr W' (w.heap.size + 1) l p ∧ Tr W' (w.heap.size + 1) r q := fun W' h => by
    have h1 := hl.below hb
    have h2 := hr.below hb
    rw [World.size_alloc] at h1 h2
    exact ⟨h1.keep (fun b _ => by rw [h]) (Nat.le_refl _), h2.keep (fun b _ => by rw [h]) (Nat.le_refl _)⟩
  have H := Lib.hid hH
  have HB := Lib.hid hb
  have hB := Box.new w 26 en.cells.toArray
  have hc := hB.cell
  clear hl hr hb hB hH
  unfold En.cells at hc
  unfold En.v
  go_enter Try.func64, Try.ntmps64
  go_wp2
  go_region_held3 (fun w' => w'.cell? ⟨w.heap.size, 0, none⟩ = some (.int .i64 en.seg) ∧ w'.cell? ⟨w.heap.size, 1, none⟩ = some (.int .i64 en.at_) ∧ w'.cell? ⟨w.heap.size, 2, none⟩ = some (.int .i64 en.size) ∧ w'.cell? ⟨w.heap.size, 3, none⟩ = some (.int .i64 en.off) ∧ w'.cell? ⟨w.heap.size, 4, none⟩ = some (.int .i64 en.time) ∧ w'.cell? ⟨w.heap.size, 5, none⟩ = some (.bool en.tomb)) (go_keep)
    (first
      | (go_at_call 40; (with_reducible refine (count_any l p (w.heap.size + 1) _ ?_).mono ?_); (exact (H.out _ (by rfl)).1); rintro e w' ⟨rfl, rfl⟩)
      | (go_at_call 40; (with_reducible refine (count_any r q (w.heap.size + 1) _ ?_).mono ?_); (exact (H.out _ (by rfl)).2); rintro e w' ⟨rfl, rfl⟩))
  have hw : IntKind.i64.wrap (IntKind.i64.wrap ((l.cnt : Int) + r.cnt) + 1) = ((l.cnt + r.cnt + 1 : Nat) : Int) := by
    rw [IntWalk.i64_in ((l.cnt : Int) + r.cnt) ⟨by omega, by omega⟩, IntWalk.i64_in _ ⟨by omega, by omega⟩]; omega
  have HW := Lib.hid hw
  clear hw hc
  all_goals
    go_wp2
    go_ret
    rw [HW.out]
    refine ⟨.node k en l r, some ⟨w.heap.size + 1, 0, none⟩, rfl, rfl, Tr.mk' (w := w.alloc (.cells en.cells.toArray 26)) (n := l.cnt + r.cnt + 1) (by simp) rfl (H.out _ rfl).1 (H.out _ rfl).2 (by rfl), ?_⟩
    exact (HB.out.alloc HB.out.size _).drew
end Go.Proofs.Ytociadicjbkjcaa
