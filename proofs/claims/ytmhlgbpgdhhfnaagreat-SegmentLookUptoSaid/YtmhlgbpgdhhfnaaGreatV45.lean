import Derived.Test.YtmhlgbpgdhhfnaaGreatV01
import Derived.ProofKit
import Derived.ShutString
import Derived.ChangeOld
import Derived.SizedLaws
import Derived.Deep.Slices
import Derived.Deep.Fields
import Derived.ChangeSame
import Derived.Test.YtmhlgbpgdhhfnaaGreatV02
import Derived.Test.YtmhlgbpgdhhfnaaGreatV44
import Derived.OpenShut
import Derived.JoinedCond
set_option linter.unusedVariables false
set_option linter.unusedSimpArgs false
/-
  An argument opened: structs of one-cell fields, slices of ints, slices of structs; the bound on a slice's length. No program in sight.
-/
namespace Go.Proofs.YtmhlgbpgdhhfnaaGreat
open Go.RowKit Go.ChangeShapes Go.WideShapes Go.ChangeAt Go.Deep

section
variable {H : Type} {enc : TypeId × Value → H} {P : Program} {w : World} {n : Nat} {t e : TypeId} {c : Value} {y : DataW H × List MemPlace}
abbrev TR (enc : TypeId × Value → H) (P : Program) (w : World) (n : Nat) (t : TypeId) (cs : List Value) (y : DataW H × List MemPlace) : Prop := DataW.trod enc P w 0 (fun _ => true) true n t cs = some y

end

end Go.Proofs.YtmhlgbpgdhhfnaaGreat
/-
  A slice of bytes that came in, opened; the bound of an '..UptoSaid' on its length.
-/
namespace Go.Proofs.YtmhlgbpgdhhfnaaGreat
open Go.RowKit Go.ChangeShapes Go.WideShapes Go.ChangeAt Go.Deep

theorem u8_wf {x : Int} (h : (Lit.int .u8 x).wf = true) : 0 ≤ x ∧ x < 256 := by
  simp [Lit.wf, IntKind.min, IntKind.max, IntKind.signed, IntKind.bits] at h; omega
theorem u8_back {x : Int} (h : (Lit.int .u8 x).wf = true) : ((UInt8.ofNat x.toNat).toNat : Int) = x := by
  have := u8_wf h
  simp
  omega
section
variable {H : Type} {enc : TypeId × Value → H} {P : Program} {w : World} {n : Nat} {t e : TypeId} {c : Value} {y : DataW H × List MemPlace}
theorem op_bytes (ht : P.underlying t = some (.slice e)) (he : P.underlying e = some (.int .u8)) (hc : P.cellsOf e = 1) (h : TR enc P w n t [c] y) :
    ∃ (A : Option Addr) (l : List UInt8) (cap : Nat), c = .slice A l.length cap ∧ Rd w w.heap.size A (bv l) ∧ l.length ≤ cap ∧ ((y.1 = .nil ∧ l = []) ∨ ∃ el sp, y.1 = .slice el sp ∧ el.length = l.length) := by
  rcases open_ints ht he hc h with ⟨hcs, hy⟩ | ⟨a, len, cap, zs, hcs, _, hl, hm, hz, hy, hcell, hw⟩
  · exact ⟨none, [], 0, by simpa using hcs, Rd.nil _ _ _, Nat.le_refl _, .inl ⟨by rw [hy], rfl⟩⟩
  have hz' : zs.length = cap := by simpa using hz
  have hlen : ((zs.take len).map fun x => UInt8.ofNat x.toNat).length = len := by simp; omega
  refine ⟨some a, (zs.take len).map fun x => UInt8.ofNat x.toNat, cap, by rw [hlen]; simpa using hcs, ?_, by rw [hlen]; exact hl, .inr ⟨lits .u8 (zs.take len), lits .u8 (zs.drop len), by rw [hy], by simp [lits]⟩⟩
  intro j u hj
  have hjl : j < len := by
    have := (List.getElem?_eq_some_iff.1 hj).1
    simp only [bv, List.length_map, List.length_take] at this
    omega
  have hjz : j < zs.length := by omega
  have hc := hcell j hjz
  refine ⟨a, rfl, ?_, ?_⟩
  · rw [← add_block a j]; exact World.block_lt_of_cell? _ _ hc
  rw [hc]
  simp only [bv, List.getElem?_map, List.getElem?_take_of_lt hjl, List.getElem?_eq_getElem hjz, Option.map_some, Option.some.injEq] at hj
  rw [← hj, u8_back (hw _ (List.getElem_mem hjz))]
  simp [List.getD_eq_getElem?_getD, List.getElem?_eq_getElem hjz]
end
theorem bulk_one {H : Type} (d : DataW H) : 1 ≤ Rows.uptoBulk d := by
  cases d with
  | lit l => cases l <;> simp [Rows.uptoBulk]
  | nil => simp [Rows.uptoBulk]
  | ptr d => simp [Rows.uptoBulk]
  | slice elems spare => simp [Rows.uptoBulk]
  | agg parts => simp [Rows.uptoBulk]
  | iface t d => simp [Rows.uptoBulk]
  | map entries => simp [Rows.uptoBulk]
  | held h => simp [Rows.uptoBulk]
theorem bulk_len {H : Type} (l : List (DataW H)) : l.length ≤ Rows.uptoBulkAll l := by
  induction l with
  | nil => simp
  | cons x r ih => have := bulk_one x; simp only [Rows.uptoBulkAll, List.length_cons]; omega
theorem bulk_slice {H : Type} (elems spare : List (DataW H)) : elems.length ≤ Rows.uptoBulk (.slice elems spare) := by
  have h1 := bulk_len elems
  simp only [Rows.uptoBulk]
  omega
theorem bulk_bound {H : Type} {l : List (DataW H)} (hk : Rows.uptoSmall H l = true) : Rows.uptoBulkAll l ≤ 1048576 := of_decide_eq_true hk
theorem bulk_to {H : Type} {d : DataW H} {n : Nat} {p : Prop} (h : (d = .nil ∧ p) ∨ ∃ el sp, d = .slice el sp ∧ el.length = n) (hp : p → n = 0) : n ≤ Rows.uptoBulk d := by
  rcases h with ⟨_, h⟩ | ⟨el, sp, rfl, h2⟩
  · rw [hp h]; omega
  have := bulk_slice el sp; omega
end Go.Proofs.YtmhlgbpgdhhfnaaGreat
/- SegmentLook, the '..Upto' form: the law returns true; what came in reads as it did. -/
namespace Go.Proofs.YtmhlgbpgdhhfnaaGreat
open Go.ChangeShapes Go.WideShapes Go.ChangeAt Go.RowKit Go.Deep

theorem ownK : ownKnob Tryz.prog.godebug = none := by kernel_rfl
theorem laidOut : laidOutB Tryz.prog = true := by kernel_rfl

set_option maxRecDepth 100000 in
theorem segmentLook_lifted (os : Os) (started : os.Started) (H : Type) (enc : TypeId × Value → H) (F : Stop.Interp) :
    ReturnsInHanded {} Tryz.checked os 3 .any ((Rows.OpenSpec.upto Rows.segmentLookSpec).pre6 enc Tryz.prog Tryz.f3 Rows.segmentLookUptoRow.domain false) (((Rows.OpenSpec.upto Rows.segmentLookSpec).at F).post enc Tryz.prog Tryz.f3 false true false false) := by
  refine returnsInHanded_of_cond (C := Tryz.checked) (s := Rows.OpenSpec.upto Rows.segmentLookSpec) (k := Rows.uptoSmall) rfl ownK started (by kernel_rfl) Tryz.func3
    (OpenSpec.witness (enc := enc) (C := Tryz.checked) (s := Rows.OpenSpec.upto Rows.segmentLookSpec) (k := Rows.uptoSmall) rfl false ⟨#[], #[.slice none 0 0], []⟩ 8 (by kernel_rfl) (by kernel_rfl) (by kernel_rfl)
      (x := ([.nil], [], [])) (by kernel_rfl) rfl (by kernel_rfl)) ?_
  intro W base args ds gs before hval hW _ hk _
  have hW' := hW
  obtain ⟨p, q, hA0, hV, rfl, hfz, hnd⟩ := hW
  have hA : DataW.TrodAll enc Tryz.prog W 0 (fun _ => true) true Tryz.f3.params.toList args.toList ds p := hA0
  rw [Tryz.params3] at hA hval
  obtain ⟨v0, vs0, d0, ds0, p0, q0, hargs, rfl, rfl, h0, r0⟩ := trodAll_cons hA
  obtain ⟨rfl, rfl, rfl⟩ := trodAll_nil r0
  obtain rfl : args = #[v0] := by cases args; simp_all
  obtain ⟨rfl, rfl⟩ := trodVars_none hV
  have k0 := h0
  have lt0 : ∀ x ∈ p0, x.block < W.heap.size := by obtain ⟨m, hm⟩ := k0; exact DataW.trod_lt m _ _ _ hm
  obtain ⟨a0, n0, c0, rfl⟩ := okWide_slice Tryz.underlying22 (hval 0 _ _ rfl rfl)
  obtain ⟨m0, h0'⟩ := h0
  have hb := bulk_bound hk
  simp only [List.append_nil, Rows.uptoBulkAll] at hb
  obtain ⟨A0, l0, e0, hv0, rp0, cp0, bp0⟩ := op_bytes (c := .slice a0 n0 c0) Tryz.underlying22 Tryz.underlying5 (by kernel_rfl) h0'
  injection hv0 with z1 z2 z3
  subst z1 z2 z3
  have bl0 := bulk_to bp0 (fun h => by rw [h]; rfl)
  dsimp only at bl0
  clear hA0
  refine (segLook_any _ _ _ l0 W rp0 rfl cp0 (by omega)).mono fun e W' ⟨he, bel⟩ => ?_
  subst he
  exact ⟨_, rfl, _, _, _, [], _, [], hW', trodAll_mk1 (shut_bool Tryz.underlying4 _),
    (trodAll_cons_mk (Below.trod laidOut (by kernel_rfl) (of_decide_eq_true (by kernel_rfl)) k0 bel lt0) trodAll_mk0), rfl, bel.frame _, fun h => by cases h⟩

theorem segmentLook_holds : Rows.SegmentLookUptoSaid :=
  OpenClaim.holds_of_cond 3 Tryz.f3 rfl rfl rfl rfl rfl rfl rfl ⟨rfl, rfl, rfl, rfl, rfl⟩ rfl rfl rfl rfl rfl (by kernel_rfl) Tryz.func3 (by kernel_rfl)
    (of_decide_eq_true (by kernel_rfl)) (by unfold Func.isWrapper; first | (rw [if_pos (by decide +kernel)]; kernel_rfl) | (rw [if_neg (by decide +kernel)]; exact ⟨rfl, rfl⟩))
    (fun os started H enc _ F => segmentLook_lifted os started H enc F)
end Go.Proofs.YtmhlgbpgdhhfnaaGreat
