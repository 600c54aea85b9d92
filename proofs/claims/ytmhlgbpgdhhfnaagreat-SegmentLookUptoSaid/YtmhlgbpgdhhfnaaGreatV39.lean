import Derived.Test.YtmhlgbpgdhhfnaaGreatV38
import Derived.Test.YtmhlgbpgdhhfnaaGreatV37
import Derived.RangeFuncNested
import Derived.RangeFuncBound
import Derived.RangeFuncCalls
import Derived.RangeFuncLeaves
import Derived.Shelf.Abstract
import Derived.Shelf.RegionOpen
import Derived.OwnWalkIn
import Derived.TacticsInMore
import Derived.LoopNIn
import Derived.LoopIn
import Derived.RangeFuncBox
import Derived.Stop.RegionWithIn
import Derived.Sort.QuietIn
import Derived.Sort.CutIn
import Derived.Laws.EntriesVeiled
import Derived.Deep.AppendLies
import Derived.Test.YtmhlgbpgdhhfnaaGreatV01
set_option linter.unusedVariables false
set_option linter.unusedSimpArgs false
/- A range over a function whose iterator writes memory of its own between two rounds: the caller says what of such writing its invariant bears (T). -/
namespace Go.Proofs.YtmhlgbpgdhhfnaaGreat
open Go.RowKit Go.Maps Go.Shelf

theorem keeps_up {B B' : Nat} {W W' : World} (h : KeepsFrom B W W') (hB : B ≤ B') : KeepsFrom B' W W' := ⟨h.size, fun k o hk h1 h2 => h.same k o (by omega) h1 h2⟩
/-- What an iterator promises: it goes from world to world as T lets. -/
def SeqW {α : Type} (F : Fence) (n : Nat) (P : Program) (g : Nat) (lb : Array Value) (encs : α → Array Value) (K T : World → World → Prop) (S Sp : List α → Prop) (N : Nat) (w : World) : Prop :=
  ∀ (l : Nat) (J Jx : List α → World → Prop) (W : World), Below w.heap.size w W → l < W.heap.size → (∀ s V V', J s V → T V V' → J s V') → (∀ s V V', Jx s V → T V V' → Jx s V') →
    (∀ pre x V, J pre V → pre.length < N → YieldAt F (n - 1) P l (encs x) V fun e V' => (e = .returned (.bool true) ∧ J (pre ++ [x]) V' ∧ K V V') ∨ (e = .returned (.bool false) ∧ Jx (pre ++ [x]) V')) →
    J [] W →
    CallsIn F n P g (#[.func (.yield l) #[] #[]] ++ lb) W fun e W' => (∃ v, e = .returned v) ∧ ((∃ xs, S xs ∧ J xs W') ∨ (∃ pre, Sp pre ∧ Jx pre W'))

/-- A loop's record at its block, and the block of its deferred calls ahead of it. -/
structure BK (B : Nat) (r : Loop) (W : World) : Prop where
  dfr : W.heap[B]? = some (.deferred (some []))
  rcd : W.heap[B + 1]? = some (.loop r)
section
variable {B : Nat} {r : Loop} {W W' : World}
theorem BK.lt (h : BK B r W) : B + 1 < W.heap.size := (Array.getElem?_eq_some_iff.1 h.rcd).1
theorem BK.keeps (h : BK B r W) (k : KeepsFrom B W W') : BK B r W' := ⟨k.same _ _ (Nat.le_refl _) h.dfr rfl, k.same _ _ (by omega) h.rcd rfl⟩
theorem BK.turn (h : BK B r W) (r' : Loop) : BK B r' (W.putObj (B + 1) (.loop r')) := ⟨(World.putObj_heap_other (by omega)).trans h.dfr, World.putObj_heap_same h.lt⟩
theorem BK.own {β : Type} (B : Nat) (r : Loop) : OwnFrom (B + 2) (fun (_ : β) W => BK B r W) := fun _ W W' row h hg hr => by
  have hb : ∀ k, k < B + 2 → W'.heap[k]? = W.heap[k]? := fun k hk => by
    refine hg.block k (by have := h.lt; omega) fun e => ?_
    have := (hr k e.symm).1
    omega
  exact ⟨(hb B (by omega)).trans h.dfr, (hb (B + 1) (by omega)).trans h.rcd⟩
theorem BK.keepsTurn (_ : BK B r W) (r' : Loop) : KeepsFrom (B + 2) W (W.putObj (B + 1) (.loop r')) := KeepsFrom.of_grownBy (grownBy_putObj' W (B + 1) (.loop r')) fun j e => by cases e; omega
end

set_option maxHeartbeats 1000000 in
theorem wpIn_rangeFunc_ownW {F : Fence} {n : Nat} {P : Program} {w : World} {α : Type} {g : Operand} {ps : Array Tmp} {assign body : Code} {Q : Exit → Act → World → Prop} {a : Act}
    (hro : F.round = none) (h1 : 1 ≤ n) {gf : Nat} {lb : Array Value} (hg : a.eval g = .func (.func gf) #[] lb) (hFg : F.fn gf) (eg : ∀ args w, (callFunc gf args).run P w = .ok (.enter gf args) w)
    {encs : α → Array Value} {K T : World → World → Prop} {S Sp : List α → Prop} {N : Nat} {w0 : World} (hseq : SeqW F (n - 1) P gf lb encs K T S Sp N w0)
    (hKt : ∀ {A B C : World}, K A B → K B C → K A C) (hKb : ∀ (W : World) (l : Nat) (o o' : Obj), w.heap.size ≤ l → W.heap[l]? = some o → o.isCells = false → o.isWalk = false → K W (W.putObj l o')) (hb0 : Below w0.heap.size w0 w) (hps : ∀ x, (encs x).size = ps.size)
    (I : List α → World → Prop) (Ix : Code → List α → World → Prop) (hI : OwnFrom w.heap.size I) (hIx : ∀ c, OwnFrom w.heap.size (Ix c)) (h0 : I [] w)
    (hIT : ∀ s V V', I s V → T V V' → I s V') (hIxT : ∀ c s V V', Ix c s V → T V V' → Ix c s V') (hBT : ∀ r V V', T V V' → BK w.heap.size r V → BK w.heap.size r V') (Ax : α → Act → World → Prop) (hAx : ∀ x a', OwnFrom w.heap.size (fun (_ : Unit) W => Ax x a' W))
    (hassign : ∀ (l : Nat) (pre : List α) (x : α) (W : World) (C : Act → World → Prop), I pre W → (∀ a' W', KeepsFrom w.heap.size W W' → K W W' → I pre W' → Ax x a' W' → C a' W') →
      assign.wpIn (F.inRound l) (n - 1 - 1) P (Exit.then C (fun _ _ _ => False)) { tmps := (ps.zip (encs x)).foldl (fun t (p, v) => t.setIfInBounds p v) a.tmps, defers := [] } W)
    (hbody : ∀ (l : Nat) (pre : List α) (x : α) (a' : Act) (W : World), w.heap.size ≤ l → (∃ r, W.heap[l]? = some (.loop r)) → I pre W → Ax x a' W → pre.length < N → body.wpIn (F.inRound l) (n - 1 - 1) P (ownPostG w.heap.size K I Ix (pre ++ [x]) W) a' W)
    (hdone : ∀ (D : Nat) (xs : List α) (W : World), w.heap.size ≤ D → S xs → I xs W → W.heap[D]? = some (.deferred (some [])) → Q .normal { a with defers := { target := .collected D, args := #[] } :: a.defers } W)
    (hstop : ∀ (D : Nat) (c : Code) (pre : List α) (W : World), w.heap.size ≤ D → Sp pre → Ix c pre W → W.heap[D]? = some (.deferred (some [])) → c.wpIn F n P Q { a with defers := { target := .collected D, args := #[] } :: a.defers } W) :
    (Code.rangeFunc g ps assign body).wpIn F n P Q a w := by
  refine wpIn_rangeFunc fun fn hfn => ?_
  rw [hro]
  obtain ⟨R, hR⟩ : ∃ R : LoopState → Option Code → Loop, R = fun st pe => { state := st, pending := pe, fn, tmps := a.tmps, params := ps, assign, body, defers := w.heap.size } := ⟨_, rfl⟩
  obtain ⟨W1, hW1⟩ : ∃ W1, (w.alloc (.deferred (some []))).alloc (.loop (R .ready none)) = W1 := ⟨_, rfl⟩
  have hz1 : W1.heap.size = w.heap.size + 2 := by rw [← hW1]; simp
  have hk1 : BK w.heap.size (R .ready none) W1 := by
    have q := World.alloc_heap_new (w.alloc (.deferred (some []))) (.loop (R .ready none))
    rw [World.size_alloc] at q
    rw [← hW1]
    exact ⟨(Below.heap_alloc _ _ _ (by simp)).trans (World.alloc_heap_new w _), q⟩
  have hi1 : I [] W1 := by rw [← hW1]; exact hI.alloc _ (hI.alloc _ h0)
  have hl1 : Below w0.heap.size w0 W1 := by
    rw [← hW1]
    have := hb0.size
    exact (hb0.alloc this _).alloc (by simp; omega) _
  refine ⟨w.heap.size + 1, [{ target := .collected w.heap.size, args := #[] }], W1, { target := .fn (.func gf) lb, args := #[.func (.yield (w.heap.size + 1)) #[] #[]] }, W1, gf,
    #[.func (.yield (w.heap.size + 1)) #[] #[]] ++ lb, W1, ?_, ?_, ?_, ?_, fun _ => h1, ?_⟩
  · rw [← hW1, hR]
    exact run_enterLoop_outer _ _ _ _ _
  · simp only [resolve, hg]
    simp [go_sem]
  · intro f' hf'
    simp [Target.leads] at hf'
    subst hf'
    exact hFg
  · simp [invoke, go_sem, eg]
  refine (hseq (w.heap.size + 1) (fun pre W => I pre W ∧ BK w.heap.size (R .ready none) W) (fun pre W => ∃ c, Ix c pre W ∧ BK w.heap.size (R .done (some c)) W) W1 hl1 (by omega)
    (fun s V V' h t => ⟨hIT s V V' h.1 t, hBT _ V V' t h.2⟩) (fun s V V' h t => by obtain ⟨c, hc, hk⟩ := h; exact ⟨c, hIxT c s V V' hc t, hBT _ V V' t hk⟩) ?_ ⟨hi1, hk1⟩).mono ?_
  · rintro pre x W ⟨hi, hk⟩ hlen
    have hy := run_yield (P := P) (args := encs x) hk.rcd (by rw [hR]; exact hps x)
    rw [hR] at hy
    refine ⟨fn, _, assign, body, hy, roundIn_of_wpIn hfn (hassign _ pre x W _ hi ?_)⟩
    intro a' Wa kf kp ia ax
    have ka := hk.keeps kf
    refine ⟨_, run_beginRound ka.rcd (by rw [hR]), ?_⟩
    have kb := ka.turn { R .ready none with state := .busy }
    refine wpIn_mono (hbody _ pre x a' _ (by omega) ⟨_, kb.rcd⟩ (hI.putObj _ ia (by omega) ka.rcd rfl) ((hAx x a').putObj (s := ()) _ ax (by omega) ka.rcd rfl) hlen) ?_
    have fin : ∀ (jump : Option Code) (W3 : World), KeepsFrom w.heap.size (Wa.putObj (w.heap.size + 1) (.loop { R .ready none with state := .busy })) W3 →
        (Instr.endRound (w.heap.size + 1) jump).run P W3 = .ok (.bool jump.isNone) (W3.putObj (w.heap.size + 1) (.loop (R (if jump.isNone then .ready else .done) jump))) ∧
        BK w.heap.size { R .ready none with state := .busy } W3 ∧ BK w.heap.size (R (if jump.isNone then .ready else .done) jump) (W3.putObj (w.heap.size + 1) (.loop (R (if jump.isNone then .ready else .done) jump))) ∧
        KeepsFrom W1.heap.size W (W3.putObj (w.heap.size + 1) (.loop (R (if jump.isNone then .ready else .done) jump))) := fun jump W3 k3 => by
      have k4 := kb.keeps k3
      have he := run_endRound (P := P) jump k4.rcd
      refine ⟨by rw [hR] at he ⊢; exact he, k4, k4.turn _, ?_⟩
      rw [hz1]
      exact (((keeps_up kf (by omega)).trans (ka.keepsTurn _)).trans (keeps_up k3 (by omega))).trans (k4.keepsTurn _)
    rintro e a3 W3 hp
    cases e with
    | normal =>
      obtain ⟨p1, p2, p3⟩ := hp
      obtain ⟨q1, q2, q3, q4⟩ := fin none W3 p1
      exact ⟨_, _, q1, .inl ⟨rfl, ⟨hI.putObj _ p3 (by omega) q2.rcd rfl, q3⟩, hKt kp (hKt (hKt (hKb _ _ _ _ (by omega) ka.rcd rfl rfl) p2) (hKb _ _ _ _ (by omega) q2.rcd rfl rfl))⟩⟩
    | ret =>
      obtain ⟨p1, p2⟩ := hp
      obtain ⟨q1, q2, q3, q4⟩ := fin (some .ret) W3 p1
      exact ⟨_, _, q1, .inr ⟨rfl, .ret, (hIx _).putObj _ p2 (by omega) q2.rcd rfl, q3⟩⟩
    | exit id =>
      obtain ⟨p1, p2⟩ := hp
      obtain ⟨q1, q2, q3, q4⟩ := fin (some (.exit id)) W3 p1
      exact ⟨_, _, q1, .inr ⟨rfl, .exit id, (hIx _).putObj _ p2 (by omega) q2.rcd rfl, q3⟩⟩
    | goto t =>
      obtain ⟨p1, p2⟩ := hp
      obtain ⟨q1, q2, q3, q4⟩ := fin (some (.goto t)) W3 p1
      exact ⟨_, _, q1, .inr ⟨rfl, .goto t, (hIx _).putObj _ p2 (by omega) q2.rcd rfl, q3⟩⟩
    | panic ch => exact hp.elim
    | outgrown => exact hp.elim
  rintro e W2 ⟨⟨v, rfl⟩, ⟨xs, hS, hi, hk⟩ | ⟨pre, hSp, c, hi, hk⟩⟩
  · have he := run_endLoop (P := P) hk.rcd (by rw [hR]; simp)
    exact ⟨none, _, by rw [hR] at he; exact he, hdone _ xs _ (Nat.le_refl _) hS (hI.putObj _ hi (by omega) hk.rcd rfl) (hk.turn _).dfr⟩
  have he := run_endLoop (P := P) hk.rcd (by rw [hR]; simp)
  exact ⟨some c, _, by rw [hR] at he; exact he, hstop _ c pre _ (Nat.le_refl _) hSp ((hIx c).putObj _ hi (by omega) hk.rcd rfl) (hk.turn _).dfr⟩
end Go.Proofs.YtmhlgbpgdhhfnaaGreat
namespace Go.Proofs.YtmhlgbpgdhhfnaaGreat
open Go.RowKit Go.Maps Go.Shelf Sqz
attribute [local go_sem] Oper.semAt_some

/-! segment.records -/
theorem room_none (k : Nat) : Wf.room k := fun d h => by cases h
theorem YieldAt.any {m m' : Nat} {P : Program} {l : Nat} {args : Array Value} {W : World} {R : Ending → World → Prop} (h : YieldAt Wf m P l args W R) : YieldAt Wf m' P l args W R := by
  obtain ⟨fn, tmps, assign, body, hy, hR⟩ := h
  exact ⟨fn, tmps, assign, body, hy, hR.1, fun c cs _ => hR.2 c cs (room_none _)⟩
/-- What a round that goes on keeps: all below B, and the iterator's own boxes. -/
def KpT (t : TypeId) : Prop := t = 22 ∨ t = 2 ∨ t = 33
structure KpR (B : Nat) (W W' : World) : Prop where
  bel : Below B W W'
  cells : ∀ (b : Nat) (cs : Array Value) (t : TypeId), KpT t → W.heap[b]? = some (.cells cs t (0, 0)) → W'.heap[b]? = some (.cells cs t (0, 0))
theorem KpR.trans {B : Nat} {W1 W2 W3 : World} (h : KpR B W1 W2) (k : KpR B W2 W3) : KpR B W1 W3 := ⟨h.bel.trans k.bel, fun b cs t ht hb => k.cells b cs t ht (h.cells b cs t ht hb)⟩
theorem KpR.box {B b : Nat} {W W' : World} {t : TypeId} {ar : Array Value} (h : KpR B W W') (ht : KpT t) (hb : Box W b t ar) : Box W' b t ar := h.cells b ar t ht hb
def encP (x : PL) : Array Value := #[.agg #[.int .i64 x.1.kind, .int .i64 x.1.off, .int .i64 x.1.time, .int .i64 x.1.pid, .int .i64 x.1.seq, .string ⟨x.1.key.toArray⟩, .string ⟨x.1.val.toArray⟩, .int .i64 x.2.1, .int .i64 x.2.2]]
/-- The iterator's world. -/
structure RcW (B b1 b2 len c : Nat) (A : Option Addr) (b : List UInt8) (R : Nat × Int × List PL) (W : World) (at_ : Nat) (lst : Int) (done : List PL) : Prop where
  bs : Rd W B A (bv b)
  hB : B ≤ W.heap.size
  x1 : Box W b1 22 #[.slice A len c]
  x2 : Box W b2 2 #[.int .i64 lst]
  sc : Sc b R at_ lst done
theorem RcW.on {B b1 b2 len c : Nat} {A : Option Addr} {b : List UInt8} {R : Nat × Int × List PL} {W W' : World} {at_ : Nat} {lst : Int} {done : List PL} (h : RcW B b1 b2 len c A b R W at_ lst done) (hb : Below W.heap.size W W') : RcW B b1 b2 len c A b R W' at_ lst done :=
  ⟨h.bs.below (hb.mono h.hB), Nat.le_trans h.hB hb.size, h.x1.below hb h.x1.lt, h.x2.below hb h.x2.lt, h.sc⟩
theorem RcW.next {B b1 b2 len c : Nat} {A : Option Addr} {b : List UInt8} {R : Nat × Int × List PL} {W W' : World} {at_ m : Nat} {lst : Int} {done done' : List PL} {x : Int} (h : RcW B b1 b2 len c A b R W at_ lst done) (k : KpR B W W') (hB2 : B ≤ b2) (hne : b1 ≠ b2) (hs : Sc b R m x done') :
    RcW B b1 b2 len c A b R (W'.setCell ⟨b2, 0, none⟩ (.int .i64 x)) m x done' := by
  have hx2 := k.box (.inr (.inl rfl)) h.x2
  refine ⟨(h.bs.below k.bel).below (Below.setCell (Below.refl _ _) hB2 _), Nat.le_trans h.hB (by simpa using k.bel.size), (k.box (.inl rfl) h.x1).far hne _, by simpa using hx2.set_ 0 (.int .i64 x), hs⟩

set_option maxRecDepth 100000 in
set_option maxHeartbeats 8000000 in
theorem rec_seq (n len c : Nat) (A : Option Addr) (b : List UInt8) (last : Int) (b1 b2 B : Nat) (w : World) (hA : Rd w B A (bv b)) (hn : b.length = len) (hc : len ≤ c) (hmx : len ≤ 1000000000) (h21 : 21 ≤ len)
    (h1 : Box w b1 22 #[.slice A len c]) (h2 : Box w b2 2 #[.int .i64 last]) (hB1 : B ≤ b1) (hB2 : B ≤ b2) (hne : b1 ≠ b2) :
    SeqW Wf n Tryz.prog 28 #[.pointer (some ⟨b1, 0, none⟩), .pointer (some ⟨b2, 0, none⟩)] encP (KpR B) (fun V V' => Chg (fun k => k = b2) V V') (fun xs => xs = (scanAll b last).2.2) (fun _ => True) (len + 1) w := by
  intro l J Jx W hW hl hJT hJxT hY h0
  have hBw : B ≤ w.heap.size := Nat.le_trans hB1 (Nat.le_of_lt h1.lt)
  obtain ⟨R, hR⟩ : ∃ R, scanAll b last = R := ⟨_, rfl⟩
  have hst := Sc.start b last (by omega)
  rw [hR] at hst ⊢
  have HW0 : Hid (RcW B b1 b2 len c A b R W 21 last []) := ⟨hA.below (hW.mono hBw), Nat.le_trans hBw hW.size, h1.below hW h1.lt, h2.below hW h2.lt, hst⟩
  have HJ0 := Lib.hid h0
  have HJT := Lib.hid (And.intro hJT hJxT)
  have HYY := Lib.hid hY
  have HL := Lib.hid hn
  clear h0 hJT hJxT hY hst hR hA h1 h2 hW hn
  refine callsIn_of_wp Tryz.func28 rfl trivial ?_ rfl
  simp only [Tryz.ntmps28, List.size_toArray, List.length_cons, List.length_nil, Nat.reduceAdd, Nat.reduceSub, Array.replicate_succ, Array.replicate_zero, List.push_toArray, List.append_toArray, List.nil_append, List.cons_append]
  gi_wp2
  gi_loopw [4] (fun v wr => ∃ (at_ : Nat) (lst : Int) (done : List PL), v = .int .i64 at_ ∧ J done wr ∧ RcW B b1 b2 len c A b R wr at_ lst done) (fun v _ => len + 1 - (intOf v).toNat)
  case atStart => exact ⟨21, last, [], rfl, HJ0.out, HW0.out⟩
  case round =>
    obtain ⟨at_, lst, done, rfl, hj, hk⟩ := hrel
    have hat : at_ ≤ len := by rw [← HL.out]; exact hk.sc.1
    have hdl : done.length ≤ len := Nat.le_trans hk.sc.2.1 hat
    have hpc := hk.x1.cell
    have hpl := hk.x1.lt
    have hqc := hk.x2.cell
    have hqf := hk.x2.free
    have hql := hk.x2.lt
    have hsl : ∀ W, (Instr.slice 22 (.slice A len c) (some (.int .i64 (at_ : Int))) none none).run Tryz.prog W = .ok (.slice (tailA A c at_) (len - at_) (c - at_)) W := fun W => run_tail W 22 Tryz.underlying22 sizeU8 A len c at_ hat
    have hdc := decRec_any (tailA A c at_) (len - at_) (c - at_) (b.drop at_) wr ((hk.bs.mono hk.hB).tail_ (cap := c) at_ (by rw [HL.out]; exact hc)) (by rw [List.length_drop, HL.out]) (by omega) (by omega)
    rw [decs_same] at hdc
    have HDC := Lib.hid hdc
    have HK := Lib.hid hk
    have HJ := Lib.hid hj
    clear hdc hk hj
    cases hd : dcd (b.drop at_) with
    | inl e =>
      have hee := dcd_err hd
      have HR : Hid (R = (at_, lst, done)) := HK.out.sc.err hd
      have he1 : (e != 0) = true := by rcases hee with rfl | rfl <;> rfl
      rw [show decRR csum rdR (b.drop at_) = .inl e from hd] at HDC
      clear hd hee
      gi_wp2_with (first
        | (gi_at_call 29
           refine (wfc HDC.out).mono ?_
           rintro e w5 ⟨rfl, hb5⟩
           dsimp only [DRv, recV]
           have hk5 := HK.out.on hb5
           have hpc5 := hk5.x1.cell
           have hpl5 := hk5.x1.lt
           have hqc5 := hk5.x2.cell
           have hqf5 := hk5.x2.free
           have hql5 := hk5.x2.lt
           have H5 := Lib.hid (And.intro hb5 hk5)
           clear hb5 hk5 HDC hpc hpl hqc hqf hql))
      refine bodyPost_ret (v := .tuple #[]) (by simp [results, Tryz.results28, go_sem]) rfl ?_
      refine ⟨⟨_, rfl⟩, .inl ⟨done, by rw [HR.out], ?_⟩⟩
      refine HJT.out.1 _ _ _ HJ.out ?_
      have hC := Chg.of_below H5.out.1 (fun k => k = b2)
      first | exact hC | exact hC.alloc _
    | inr rn =>
      obtain ⟨⟨kd, off, tm, pd, sq, kk, vv⟩, m⟩ := rn
      rw [show decRR csum rdR (b.drop at_) = .inr (⟨kd, off, tm, pd, sq, kk, vv⟩, m) from hd] at HDC
      by_cases hlo : off ≤ lst
      · have HR : Hid (R = (at_, lst, done)) := HK.out.sc.low hd hlo
        have hlo2 : decide (off ≤ lst) = true := decide_eq_true hlo
        clear hd
        gi_wp2_with (first
          | (gi_at_call 29
             refine (wfc HDC.out).mono ?_
             rintro e w5 ⟨rfl, hb5⟩
             dsimp only [DRv, recV]
             have hk5 := HK.out.on hb5
             have hpc5 := hk5.x1.cell
             have hpl5 := hk5.x1.lt
             have hqc5 := hk5.x2.cell
             have hqf5 := hk5.x2.free
             have hql5 := hk5.x2.lt
             have H5 := Lib.hid (And.intro hb5 hk5)
             clear hb5 hk5 HDC hpc hpl hqc hqf hql))
        refine bodyPost_ret (v := .tuple #[]) (by simp [results, Tryz.results28, go_sem]) rfl ?_
        refine ⟨⟨_, rfl⟩, .inl ⟨done, by rw [HR.out], ?_⟩⟩
        refine HJT.out.1 _ _ _ HJ.out ?_
        have hC := Chg.of_below H5.out.1 (fun k => k = b2)
        first | exact hC | exact hC.alloc _
      have HSN := Lib.hid (HK.out.sc.step hd hlo)
      obtain ⟨m1, m2, _⟩ := dcd_ok hd
      rw [List.length_drop, HL.out] at m2
      have hlo2 : decide (off ≤ lst) = false := decide_eq_false hlo
      clear hd
      gi_upto_region 2 with (first
        | (gi_at_call 29
           refine (wfc HDC.out).mono ?_
           rintro e w5 ⟨rfl, hb5⟩
           dsimp only [DRv, recV]
           have hk5 := HK.out.on hb5
           have hpc5 := hk5.x1.cell
           have hpl5 := hk5.x1.lt
           have hqc5 := hk5.x2.cell
           have hqf5 := hk5.x2.free
           have hql5 := hk5.x2.lt
           have H5 := Lib.hid (And.intro hb5 hk5)
           clear hb5 hk5 HDC hpc hpl hqc hqf hql))
      have hk6 := H5.out.2.on ((Below.refl w5.heap.size w5).alloc (Nat.le_refl _) (.cells #[.int .i64 kd, .int .i64 off, .int .i64 tm, .int .i64 pd, .int .i64 sq, .string ⟨kk.toArray⟩, .string ⟨vv.toArray⟩] 33))
      have hx6 := Box.new w5 33 #[.int .i64 kd, .int .i64 off, .int .i64 tm, .int .i64 pd, .int .i64 sq, .string ⟨kk.toArray⟩, .string ⟨vv.toArray⟩]
      have hj6 := HJT.out.1 _ _ _ HJ.out ((Chg.of_below H5.out.1 (fun k => k = b2)).alloc (.cells #[.int .i64 kd, .int .i64 off, .int .i64 tm, .int .i64 pd, .int .i64 sq, .string ⟨kk.toArray⟩, .string ⟨vv.toArray⟩] 33))
      generalize w5.alloc (.cells #[.int .i64 kd, .int .i64 off, .int .i64 tm, .int .i64 pd, .int .i64 sq, .string ⟨kk.toArray⟩, .string ⟨vv.toArray⟩] 33) = w6 at hk6 hx6 hj6 ⊢
      generalize w5.heap.size = q at hx6 ⊢
      have hqc6 := hk6.x2.cell
      have hql6 := hk6.x2.lt
      have hrc6 := hx6.cell
      have hrl6 := hx6.lt
      have hy0 := HYY.out done (⟨kd, off, tm, pd, sq, kk, vv⟩, at_, m) w6 hj6 (by omega)
      obtain ⟨fn, tmps, assign, body, hy, hR⟩ := YieldAt.any (m' := n - 1) hy0
      dsimp only [encP] at hy
      have hR2 := RoundIn.mono hR (R' := fun e W4 => ∃ b4, e = .returned (.bool b4) ∧ ((b4 = true ∧ J (done ++ [(⟨kd, off, tm, pd, sq, kk, vv⟩, at_, m)]) W4 ∧ KpR B w6 W4) ∨ (b4 = false ∧ Jx (done ++ [(⟨kd, off, tm, pd, sq, kk, vv⟩, at_, m)]) W4))) (fun e W4 h => by
        rcases h with ⟨h1, h2⟩ | ⟨h1, h2⟩
        · exact ⟨true, h1, .inl ⟨rfl, h2⟩⟩
        exact ⟨false, h1, .inr ⟨rfl, h2⟩⟩)
      have HRD := Lib.hid hR2
      have H6 := Lib.hid (And.intro hk6 hx6)
      have hm1 : IntKind.i64.wrap ((at_ : Int) + m) = (at_ : Int) + m := IntWalk.i64_in _ (by omega)
      clear hR hR2 hk6 hx6 hj6 hpc5 hpl5 hqc5 hqf5 hql5 H5 hsl
      gi_upto_if 32 with (first
        | ((try refine ⟨fun h => (by cases h), ?_⟩)
           (with_reducible refine RoundIn.mono HRD.out ?_)
           rintro e W4 ⟨b4, rfl, hw4⟩
           have HW4 := Lib.hid hw4
           clear hw4 HRD))
      clear hy hqc6 hql6 hrc6 hrl6
      cases b4 with
      | false =>
        gi_wp2
        refine bodyPost_ret (v := .tuple #[]) (by simp [results, Tryz.results28, go_sem]) rfl ?_
        rcases HW4.out with ⟨h, _⟩ | ⟨_, h⟩
        · cases h
        first | exact ⟨⟨_, rfl⟩, .inr ⟨_, trivial, h⟩⟩ | exact ⟨⟨_, rfl⟩, .inr ⟨_, h⟩⟩
      | true =>
        have hw4 : J (done ++ [(⟨kd, off, tm, pd, sq, kk, vv⟩, at_, m)]) W4 ∧ KpR B w6 W4 := by
          rcases HW4.out with ⟨_, h⟩ | ⟨h, _⟩
          · exact h
          cases h
        have hx7 := hw4.2.box (.inr (.inr rfl)) H6.out.2
        have hrc7 := hx7.cell
        have hrl7 := hx7.lt
        have hy7 := hw4.2.box (.inr (.inl rfl)) H6.out.1.x2
        have hqc7 := hy7.cell
        have hqf7 := hy7.free
        have hql7 := hy7.lt
        have H7 := Lib.hid hw4
        clear hw4 hx7 hy7
        gi_wp2
        go_roundw
        case rel =>
          refine ⟨at_ + m, off, _, by go_num, HJT.out.1 _ _ _ H7.out.1 (Chg.setCell (S := fun k => k = b2) (p := ⟨b2, 0, none⟩) (Chg.refl _ W4) (.inl rfl) _), H6.out.1.next H7.out.2 hB2 hne HSN.out⟩
        case measure => simp [intOf]; omega
set_option maxRecDepth 100000 in
theorem records_any (A : Option Addr) (n c : Nat) (last : Int) (w : World) :
    Calls Tryz.prog 13 #[.slice A n c, .int .i64 last] w fun e w' =>
      e = .returned (.func (.func 28) #[] #[.pointer (some ⟨w.heap.size, 0, none⟩), .pointer (some ⟨w.heap.size + 1, 0, none⟩)]) ∧
      w' = (w.alloc (.cells #[.slice A n c] 22)).alloc (.cells #[.int .i64 last] 2) := by
  go_enter Tryz.func13, Tryz.ntmps13
  go_wp2
  go_ret
  exact ⟨rfl, rfl⟩
end Go.Proofs.YtmhlgbpgdhhfnaaGreat
