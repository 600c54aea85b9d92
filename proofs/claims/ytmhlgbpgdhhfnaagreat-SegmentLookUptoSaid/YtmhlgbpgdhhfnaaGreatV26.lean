import Derived.Test.YtmhlgbpgdhhfnaaGreatV20
import Derived.Test.YtmhlgbpgdhhfnaaGreatV15
import Derived.Test.YtmhlgbpgdhhfnaaGreatV16
set_option linter.unusedVariables false
set_option linter.unusedSimpArgs false
namespace Go.Proofs.YtmhlgbpgdhhfnaaGreat
open Go.RowKit Go.Maps Sqz

/-! chronicleref4.read: words -/
theorem refTxD (p m : Nat) (l t : List UInt8) (s s' : RSt) (w : World) (h : RRd w p l s) (hu : txS m l s = (t, s')) (hmx : l.length ≤ 140737488355328) (hm : m ≤ 1000000) :
    Calls Tryz.prog 39 #[.pointer (some ⟨p, 0, none⟩), .int .i64 m] w fun e w' => e = .returned (.string ⟨t.toArray⟩) ∧ SAft p l s' w w' := by
  have := refTx p m l s w h hmx hm
  rw [hu] at this
  exact this
/-- While the document reads a body. -/
structure QB (w wr : World) (z p q : Nat) (l : List UInt8) (s : RSt) (cs : Array Value) : Prop where
  ord : RRd wr p l s
  bz : Box wr z 33 #[.int .i64 0, .int .i64 0, .int .i64 0, .int .i64 0, .int .i64 0, .string ⟨#[]⟩, .string ⟨#[]⟩]
  bq : Box wr q 33 cs
  bel : Below z w wr
  zz : z = w.heap.size
  hz : z < p
  hq : p < q
section
variable {w wr w' : World} {z p q : Nat} {l : List UInt8} {s s' : RSt} {cs : Array Value}
theorem QB.next (h : QB w wr z p q l s cs) (ha : SAft p l s' wr w') : QB w w' z p q l s' cs := by
  have h1 := h.hz
  have h2 := h.hq
  have h3 := h.bz.lt
  exact ⟨ha.1, h.bz.chg ha.2 (fun e => by have e' : z = p := e; omega), h.bq.chg ha.2 (fun e => by have e' : q = p := e; omega), h.bel.trans (ha.2.below (by omega) (fun k hk => by have hk' : k = p := hk; omega)), h.zz, h1, h2⟩
theorem QB.on (h : QB w wr z p q l s cs) (hb : Below wr.heap.size wr w') : QB w w' z p q l s cs :=
  ⟨h.ord.below hb, h.bz.below hb h.bz.lt, h.bq.below hb h.bq.lt, h.bel.trans (hb.mono (Nat.le_of_lt h.bz.lt)), h.zz, h.hz, h.hq⟩
theorem QB.set (h : QB w wr z p q l s cs) (i : Nat) (u : Value) : QB w (wr.setCell ⟨q, i, none⟩ u) z p q l s (cs.setIfInBounds i u) := by
  have h1 := h.hz
  have h2 := h.hq
  exact ⟨h.ord.chg ((Chg.refl (fun k => k = q) wr).set1 rfl i u) (fun k hk => by have hk' : k = q := hk; omega), h.bz.far (by show z ≠ q; omega) u, h.bq.set_ i u, h.bel.setCell (by show z ≤ q; omega) u, h.zz, h1, h2⟩
theorem QB.cell (h : QB w wr z p q l s cs) (i : Nat) : wr.cell? ⟨q, i, none⟩ = cs[i]? := h.bq.cell i
end
/-- What the document reads in a body: numbers as they turn into int64. -/
def i64 (u : Nat) : Int := wrap64 u
theorem i64_0 : i64 0 = 0 := by unfold i64 wrap64; decide
structure PartR where
  fl : Nat
  off : Nat
  time : Nat
  pid : Nat
  seq : Nat
  key : List UInt8
  val : List UInt8
def partsR (b : List UInt8) : PartR :=
  let f := byS b ⟨0, false⟩
  let o := uvS b f.2
  let t := uvS b o.2
  let p := if 4 ≤ f.1 then uvS b t.2 else (0, t.2)
  let q := if 4 ≤ f.1 then uvS b p.2 else (0, p.2)
  let k := txS 64 b q.2
  let v := rawS b k.2
  ⟨f.1, o.1, t.1, p.1, q.1, k.1, v.1⟩
def rdR (b : List UInt8) : Rc :=
  let x := partsR b
  ⟨if x.fl % 2 = 1 then 2 else 1, i64 x.off, i64 x.time, i64 x.pid, i64 x.seq, x.key, if x.fl / 2 % 2 = 1 then (decR x.val).getD [] else x.val⟩
end Go.Proofs.YtmhlgbpgdhhfnaaGreat
