import Derived.Test.YtbmbgkgjlnookaaDoorOMan5
import Derived.Test.YtbmbgkgjlnookaaDoorOCmp
import Derived.Maps.RangeWalk
namespace Go.Proofs.YtbmbgkgjlnookaaDoor
open Go.RowKit Go.Maps

structure T4 where
  id : Int
  name : ByteArray
  limit : Int
  hor : Int
def quad (t : T4) : List Value := [.int .i64 t.id, .string t.name, .int .i64 t.limit, .int .i64 t.hor]
theorem quad_get (l : List T4) (i : Nat) (hi : i < l.length) :
    (l.flatMap quad)[i * 4]? = some (.int .i64 l[i].id) ∧ (l.flatMap quad)[i * 4 + 1]? = some (.string l[i].name) ∧ (l.flatMap quad)[i * 4 + 2]? = some (.int .i64 l[i].limit) ∧ (l.flatMap quad)[i * 4 + 3]? = some (.int .i64 l[i].hor) := by
  induction l generalizing i with
  | nil => simp at hi
  | cons p l ih =>
    cases i with
    | zero => simp [quad]
    | succ i =>
      have := ih i (by simpa using hi)
      have e : (i + 1) * 4 = 4 + i * 4 := by omega
      simp only [List.flatMap_cons, e, List.getElem_cons_succ]
      have hl : (quad p).length = 4 := rfl
      refine ⟨?_, ?_, ?_, ?_⟩
      · rw [List.getElem?_append_right (by omega), hl, show 4 + i * 4 - 4 = i * 4 by omega]; exact this.1
      · rw [List.getElem?_append_right (by omega), hl, show 4 + i * 4 + 1 - 4 = i * 4 + 1 by omega]; exact this.2.1
      · rw [List.getElem?_append_right (by omega), hl, show 4 + i * 4 + 2 - 4 = i * 4 + 2 by omega]; exact this.2.2.1
      · rw [List.getElem?_append_right (by omega), hl, show 4 + i * 4 + 3 - 4 = i * 4 + 3 by omega]; exact this.2.2.2
theorem quad_len (l : List T4) : (l.flatMap quad).length = l.length * 4 := by
  induction l with
  | nil => rfl
  | cons p l ih => simp only [List.flatMap_cons, List.length_append, ih, List.length_cons]; show 4 + _ = _; omega
theorem Rd.quad_ {w : World} {B : Nat} {A : Option Addr} {l : List T4} (h : Rd w B A (l.flatMap quad)) {i : Nat} (hi : i < l.length) :
    ∃ ad : Addr, A = some ad ∧ ad.block < B ∧ w.cell? (ad.add (i * 4)) = some (.int .i64 l[i].id) ∧
      w.cell? ⟨(ad.add (i * 4)).block, (ad.add (i * 4)).off + 1, none⟩ = some (.string l[i].name) ∧ w.cell? ⟨(ad.add (i * 4)).block, (ad.add (i * 4)).off + 2, none⟩ = some (.int .i64 l[i].limit) ∧
      w.cell? ⟨(ad.add (i * 4)).block, (ad.add (i * 4)).off + 3, none⟩ = some (.int .i64 l[i].hor) := by
  obtain ⟨h1, h2, h3, h4⟩ := quad_get l i hi
  obtain ⟨ad, rfl, hb, c1⟩ := h _ _ h1
  obtain ⟨a2, e2, _, c2⟩ := h _ _ h2
  obtain ⟨a3, e3, _, c3⟩ := h _ _ h3
  obtain ⟨a4, e4, _, c4⟩ := h _ _ h4
  cases e2; cases e3; cases e4
  rw [← add_add'] at c2 c3 c4
  exact ⟨ad, rfl, hb, c1, c2, c3, c4⟩

/-- May this topic stand behind those with the numbers 'seen', the last of them named 'prev'? -/
def oktP (nid : Int) (seen : List Int) (prev : Option ByteArray) (t : T4) : Prop :=
  (∀ p, prev = some p → cmpB p.data.toList t.name.data.toList < 0) ∧ nameE t.name = 0 ∧ (1 ≤ t.id ∧ t.id < nid) ∧ t.id ∉ seen ∧ (256 ≤ t.limit ∧ t.limit ≤ 65536) ∧ 0 ≤ t.hor ∧ t.hor ≤ 1099511627776
open Classical in
noncomputable def catGo (nid : Int) : List Int → Option ByteArray → List T4 → Bool
  | _, _, [] => true
  | seen, prev, t :: r => decide (oktP nid seen prev t) && catGo nid (seen ++ [t.id]) (some t.name) r
noncomputable def catR (nid : Int) (l : List T4) : Bool := decide (1 ≤ nid) && decide (nid ≤ 1073741824) && decide (l.length ≤ 16) && catGo nid [] none l
noncomputable def catE (nid : Int) (l : List T4) : Int := if catR nid l = true then 0 else 71
theorem catE_bad {nid : Int} {l : List T4} (h : catR nid l = false) : (71 : Int) = catE nid l := by unfold catE; rw [h]; rfl
theorem catE_good {nid : Int} {l : List T4} (h : catR nid l = true) : (0 : Int) = catE nid l := by unfold catE; rw [h]; rfl
theorem catGo_bad {nid : Int} {seen : List Int} {prev : Option ByteArray} {l : List T4} {k : Nat} (hk : k < l.length) (h : ¬ oktP nid seen prev l[k]) : catGo nid seen prev (l.drop k) = false := by
  rw [List.drop_eq_getElem_cons hk, catGo]; simp [h]
theorem catGo_good {nid : Int} {seen : List Int} {prev : Option ByteArray} {l : List T4} {k : Nat} (hk : k < l.length) (h : oktP nid seen prev l[k]) :
    catGo nid seen prev (l.drop k) = catGo nid (seen ++ [l[k].id]) (some l[k].name) (l.drop (k + 1)) := by
  rw [List.drop_eq_getElem_cons hk, catGo]; simp [h]

theorem IMap.below {P : Program} {K E : TypeId} {w w' : World} {b n : Nat} {f : Int → Int} (h : IMap P K E w b n f) (hb : Below w.heap.size w w') : IMap P K E w' b n f :=
  h.kept (row := none) ⟨hb.os, hb.tape, hb.output, hb.size, fun i hi _ => hb.block i hi⟩ (by simp)

/-- What a round of CheckCatalogue knows of the world: the entry's own variable (block e), the catalogue's (block b), the map of numbers (block b + 1). -/
structure CatW (nid : Int) (sl : Value) (p : T4) (B b e n : Nat) (f : Int → Int) (w0 W : World) : Prop where
  e0 : W.cell? ⟨e, 0, none⟩ = some (.int .i64 p.id)
  e1 : W.cell? ⟨e, 1, none⟩ = some (.string p.name)
  e2 : W.cell? ⟨e, 2, none⟩ = some (.int .i64 p.limit)
  e3 : W.cell? ⟨e, 3, none⟩ = some (.int .i64 p.hor)
  b0 : W.cell? ⟨b, 0, none⟩ = some (.int .i64 nid)
  b1 : W.cell? ⟨b, 1, none⟩ = some sl
  map : IMap Tryd.prog 3 3 W (b + 1) n f
  below : Below B w0 W
  size : e < W.heap.size ∧ b < W.heap.size
theorem CatW.next {nid : Int} {sl : Value} {p : T4} {B b e n : Nat} {f : Int → Int} {w0 W W' : World} (h : CatW nid sl p B b e n f w0 W) (hB : B ≤ W.heap.size) (hb : Below W.heap.size W W') : CatW nid sl p B b e n f w0 W' :=
  have c : ∀ {q : Addr} {u : Value}, W.cell? q = some u → W'.cell? q = some u := fun hq => (hb.cell (World.block_lt_of_cell? _ _ hq)).trans hq
  ⟨c h.e0, c h.e1, c h.e2, c h.e3, c h.b0, c h.b1, h.map.below hb, h.below.trans (hb.mono hB), Nat.lt_of_lt_of_le h.size.1 hb.size, Nat.lt_of_lt_of_le h.size.2 hb.size⟩
theorem CatW.drewN {nid : Int} {sl : Value} {p : T4} {B b e n : Nat} {f : Int → Int} {w0 W : World} (h : CatW nid sl p B b e n f w0 W) (m : Nat) : CatW nid sl p B b e n f w0 (W.drewN m) :=
  ⟨h.e0, h.e1, h.e2, h.e3, h.b0, h.b1, h.map, below_drewN h.below m, h.size⟩

end Go.Proofs.YtbmbgkgjlnookaaDoor
