import Derived.Test.YtociadicjbkjcaaKd12
/- A range over a function whose iterator goes through another one: what the caller keeps abides the turn of any block that holds no cells and was laid behind it (the iterator's own loop record is such a one). -/
namespace Go.Proofs.Ytociadicjbkjcaa
open Go.RowKit Go.Maps Go.Shelf

theorem keeps_up {B B' : Nat} {W W' : World} (h : KeepsFrom B W W') (hB : B ≤ B') : KeepsFrom B' W W' := ⟨h.size, fun k o hk h1 h2 => h.same k o (by omega) h1 h2⟩
theorem own_up {β : Type} {B B' : Nat} {I : β → World → Prop} (h : OwnFrom B I) (hB : B ≤ B') : OwnFrom B' I := fun s W W' row hs hg hr => h s W W' row hs hg fun r e => by obtain ⟨h1, h2⟩ := hr r e; exact ⟨by omega, h2⟩

/-- What an iterator promises to a body that keeps what is no cells behind the iterator's start. -/
def SeqM {α : Type} (F : Fence) (n : Nat) (P : Program) (g : Nat) (lb : Array Value) (encs : α → Array Value) (K : World → World → Prop) (S Sp : List α → Prop) (N : Nat) (w : World) : Prop :=
  ∀ (l : Nat) (J Jx : List α → World → Prop) (W : World), Below w.heap.size w W → l < W.heap.size → OwnFrom W.heap.size J → OwnFrom W.heap.size Jx →
    (∀ pre x V, J pre V → pre.length < N → YieldAt F (n - 1) P l (encs x) V fun e V' => ((e = .returned (.bool true) ∧ J (pre ++ [x]) V' ∧ K V V') ∨ (e = .returned (.bool false) ∧ Jx (pre ++ [x]) V')) ∧ KeepsFrom W.heap.size V V') →
    J [] W →
    CallsIn F n P g (#[.func (.yield l) #[] #[]] ++ lb) W fun e W' => (∃ v, e = .returned v) ∧ ((∃ xs, S xs ∧ J xs W') ∨ (∃ pre, Sp pre ∧ Jx pre W'))

theorem own_abides {β : Type} {B : Nat} {J : β → World → Prop} (h : OwnFrom B J) : AbidesFrom B J := fun s W W' row hs hg hr => h s W W' row hs hg fun r e => by
  obtain ⟨h1, o, h2, h3⟩ := hr r e
  exact ⟨h1, o, h2, Obj.not_cells_of_walk h3⟩
theorem yield_imp {F : Fence} {m : Nat} {P : Program} {l : Nat} {args : Array Value} {W : World} {R R' : Ending → World → Prop} (h : YieldAt F m P l args W R) (hr : ∀ e W', R e W' → R' e W') : YieldAt F m P l args W R' := by
  obtain ⟨fn, tmps, assign, body, hy, hR⟩ := h
  exact ⟨fn, tmps, assign, body, hy, hR.mono hr⟩
theorem SeqM.of_stops {α : Type} {F : Fence} {n : Nat} {P : Program} {g : Nat} {lb : Array Value} {encs : α → Array Value} {K : World → World → Prop} {S Sp : List α → Prop} {N : Nat} {w : World}
    (h : SeqStopsK F n P g lb encs K S Sp N w) : SeqM F n P g lb encs K S Sp N w := fun l J Jx W hb _ hJ hJx hY h0 =>
  h l J Jx W hb (own_abides hJ) (own_abides hJx) (fun pre x V hj hl => yield_imp (hY pre x V hj hl) fun _ _ h => h.1) h0

/-- A loop's record at its block, and the block of its deferred calls ahead of it. -/
structure BK (B : Nat) (r : Loop) (W : World) : Prop where
  dfr : W.heap[B]? = some (.deferred (some []))
  rcd : W.heap[B + 1]? = some (.loop r)
section
variable {B : Nat} {r : Loop} {W W' : World}
theorem BK.lt (h : BK B r W) : B + 1 < W.heap.size := (Array.getElem?_eq_some_iff.1 h.rcd).1
theorem BK.keeps (h : BK B r W) (k : KeepsFrom B W W') : BK B r W' := ⟨k.same _ _ (Nat.le_refl _) h.dfr rfl, k.same _ _ (by omega) h.rcd rfl⟩
theorem BK.turn (h : BK B r W) (r' : Loop) : BK B r' (W.putObj (B + 1) (.loop r')) := ⟨(World.putObj_heap_other (by omega)).trans h.dfr, World.putObj_heap_same h.lt⟩
theorem BK.own {β : Type} (B : Nat) (r : Loop) : OwnFrom (B + 2) (fun (_ : β) W => BK B r W) := fun _ W W' row h hg hr => by
  have hb : ∀ k, k < B + 2 → W'.heap[k]? = W.heap[k]? := fun k hk => by
    refine hg.block k (by have := h.lt; omega) fun e => ?_
    have := (hr k e.symm).1
    omega
  exact ⟨(hb B (by omega)).trans h.dfr, (hb (B + 1) (by omega)).trans h.rcd⟩
theorem BK.keepsTurn (_ : BK B r W) (r' : Loop) : KeepsFrom (B + 2) W (W.putObj (B + 1) (.loop r')) := KeepsFrom.of_grownBy (grownBy_putObj' W (B + 1) (.loop r')) fun j e => by cases e; omega
end

set_option maxHeartbeats 1000000 in
theorem wpIn_rangeFunc_ownM {F : Fence} {n : Nat} {P : Program} {w : World} {α : Type} {g : Operand} {ps : Array Tmp} {assign body : Code} {Q : Exit → Act → World → Prop} {a : Act}
    (hro : F.round = none) (h1 : 1 ≤ n) {gf : Nat} {lb : Array Value} (hg : a.eval g = .func (.func gf) #[] lb) (hFg : F.fn gf) (eg : ∀ args w, (callFunc gf args).run P w = .ok (.enter gf args) w)
    {encs : α → Array Value} {K : World → World → Prop} {S Sp : List α → Prop} {N : Nat} {w0 : World} (hseq : SeqM F (n - 1) P gf lb encs K S Sp N w0)
    (hKt : ∀ {A B C : World}, K A B → K B C → K A C) (hKb : ∀ (W : World) (l : Nat) (o o' : Obj), w.heap.size ≤ l → W.heap[l]? = some o → o.isCells = false → o.isWalk = false → K W (W.putObj l o')) (hb0 : Below w0.heap.size w0 w) (hps : ∀ x, (encs x).size = ps.size)
    (I : List α → World → Prop) (Ix : Code → List α → World → Prop) (hI : OwnFrom w.heap.size I) (hIx : ∀ c, OwnFrom w.heap.size (Ix c)) (h0 : I [] w) (Ax : α → Act → World → Prop) (hAx : ∀ x a', OwnFrom w.heap.size (fun (_ : Unit) W => Ax x a' W))
    (hassign : ∀ (l : Nat) (pre : List α) (x : α) (W : World) (C : Act → World → Prop), I pre W → (∀ a' W', KeepsFrom w.heap.size W W' → K W W' → I pre W' → Ax x a' W' → C a' W') →
      assign.wpIn (F.inRound l) (n - 1 - 1) P (Exit.then C (fun _ _ _ => False)) { tmps := (ps.zip (encs x)).foldl (fun t (p, v) => t.setIfInBounds p v) a.tmps, defers := [] } W)
    (hbody : ∀ (l : Nat) (pre : List α) (x : α) (a' : Act) (W : World), w.heap.size ≤ l → (∃ r, W.heap[l]? = some (.loop r)) → I pre W → Ax x a' W → pre.length < N → body.wpIn (F.inRound l) (n - 1 - 1) P (ownPostG w.heap.size K I Ix (pre ++ [x]) W) a' W)
    (hdone : ∀ (D : Nat) (xs : List α) (W : World), w.heap.size ≤ D → S xs → I xs W → W.heap[D]? = some (.deferred (some [])) → Q .normal { a with defers := { target := .collected D, args := #[] } :: a.defers } W)
    (hstop : ∀ (D : Nat) (c : Code) (pre : List α) (W : World), w.heap.size ≤ D → Sp pre → Ix c pre W → W.heap[D]? = some (.deferred (some [])) → c.wpIn F n P Q { a with defers := { target := .collected D, args := #[] } :: a.defers } W) :
    (Code.rangeFunc g ps assign body).wpIn F n P Q a w := by
  refine wpIn_rangeFunc fun fn hfn => ?_
  rw [hro]
  obtain ⟨R, hR⟩ : ∃ R : LoopState → Option Code → Loop, R = fun st pe => { state := st, pending := pe, fn, tmps := a.tmps, params := ps, assign, body, defers := w.heap.size } := ⟨_, rfl⟩
  obtain ⟨W1, hW1⟩ : ∃ W1, (w.alloc (.deferred (some []))).alloc (.loop (R .ready none)) = W1 := ⟨_, rfl⟩
  have hz1 : W1.heap.size = w.heap.size + 2 := by rw [← hW1]; simp
  have hk1 : BK w.heap.size (R .ready none) W1 := by
    have q := World.alloc_heap_new (w.alloc (.deferred (some []))) (.loop (R .ready none))
    rw [World.size_alloc] at q
    rw [← hW1]
    exact ⟨(Below.heap_alloc _ _ _ (by simp)).trans (World.alloc_heap_new w _), q⟩
  have hi1 : I [] W1 := by rw [← hW1]; exact hI.alloc _ (hI.alloc _ h0)
  have hl1 : Below w0.heap.size w0 W1 := by
    rw [← hW1]
    have := hb0.size
    exact (hb0.alloc this _).alloc (by simp; omega) _
  refine ⟨w.heap.size + 1, [{ target := .collected w.heap.size, args := #[] }], W1, { target := .fn (.func gf) lb, args := #[.func (.yield (w.heap.size + 1)) #[] #[]] }, W1, gf,
    #[.func (.yield (w.heap.size + 1)) #[] #[]] ++ lb, W1, ?_, ?_, ?_, ?_, fun _ => h1, ?_⟩
  · rw [← hW1, hR]
    exact run_enterLoop_outer _ _ _ _ _
  · simp only [resolve, hg]
    simp [go_sem]
  · intro f' hf'
    simp [Target.leads] at hf'
    subst hf'
    exact hFg
  · simp [invoke, go_sem, eg]
  · refine (hseq (w.heap.size + 1) (fun pre W => I pre W ∧ BK w.heap.size (R .ready none) W) (fun pre W => ∃ c, Ix c pre W ∧ BK w.heap.size (R .done (some c)) W) W1 hl1 (by omega)
      ((own_up hI (by omega)).and (by rw [hz1]; exact BK.own _ _)) ?_ ?_ ⟨hi1, hk1⟩).mono ?_
    · rintro s A B row ⟨c, hc, hk⟩ hgr hrw
      exact ⟨c, own_up (hIx c) (by omega) s A B row hc hgr hrw, BK.own (β := Unit) w.heap.size _ () A B row hk hgr (by rw [← hz1]; exact hrw)⟩
    · rintro pre x W ⟨hi, hk⟩ hlen
      have hy := run_yield (P := P) (args := encs x) hk.rcd (by rw [hR]; exact hps x)
      rw [hR] at hy
      refine ⟨fn, _, assign, body, hy, roundIn_of_wpIn hfn (hassign _ pre x W _ hi ?_)⟩
      intro a' Wa kf kp ia ax
      have ka := hk.keeps kf
      refine ⟨_, run_beginRound ka.rcd (by rw [hR]), ?_⟩
      have kb := ka.turn { R .ready none with state := .busy }
      refine wpIn_mono (hbody _ pre x a' _ (by omega) ⟨_, kb.rcd⟩ (hI.putObj _ ia (by omega) ka.rcd rfl) ((hAx x a').putObj (s := ()) _ ax (by omega) ka.rcd rfl) hlen) ?_
      have fin : ∀ (jump : Option Code) (W3 : World), KeepsFrom w.heap.size (Wa.putObj (w.heap.size + 1) (.loop { R .ready none with state := .busy })) W3 →
          (Instr.endRound (w.heap.size + 1) jump).run P W3 = .ok (.bool jump.isNone) (W3.putObj (w.heap.size + 1) (.loop (R (if jump.isNone then .ready else .done) jump))) ∧
          BK w.heap.size { R .ready none with state := .busy } W3 ∧ BK w.heap.size (R (if jump.isNone then .ready else .done) jump) (W3.putObj (w.heap.size + 1) (.loop (R (if jump.isNone then .ready else .done) jump))) ∧
          KeepsFrom W1.heap.size W (W3.putObj (w.heap.size + 1) (.loop (R (if jump.isNone then .ready else .done) jump))) := fun jump W3 k3 => by
        have k4 := kb.keeps k3
        have he := run_endRound (P := P) jump k4.rcd
        refine ⟨by rw [hR] at he ⊢; exact he, k4, k4.turn _, ?_⟩
        rw [hz1]
        exact (((keeps_up kf (by omega)).trans (ka.keepsTurn _)).trans (keeps_up k3 (by omega))).trans (k4.keepsTurn _)
      rintro e a3 W3 hp
      cases e with
      | normal =>
        obtain ⟨p1, p2, p3⟩ := hp
        obtain ⟨q1, q2, q3, q4⟩ := fin none W3 p1
        exact ⟨_, _, q1, .inl ⟨rfl, ⟨hI.putObj _ p3 (by omega) q2.rcd rfl, q3⟩, hKt kp (hKt (hKt (hKb _ _ _ _ (by omega) ka.rcd rfl rfl) p2) (hKb _ _ _ _ (by omega) q2.rcd rfl rfl))⟩, q4⟩
      | ret =>
        obtain ⟨p1, p2⟩ := hp
        obtain ⟨q1, q2, q3, q4⟩ := fin (some .ret) W3 p1
        exact ⟨_, _, q1, .inr ⟨rfl, .ret, (hIx _).putObj _ p2 (by omega) q2.rcd rfl, q3⟩, q4⟩
      | exit id =>
        obtain ⟨p1, p2⟩ := hp
        obtain ⟨q1, q2, q3, q4⟩ := fin (some (.exit id)) W3 p1
        exact ⟨_, _, q1, .inr ⟨rfl, .exit id, (hIx _).putObj _ p2 (by omega) q2.rcd rfl, q3⟩, q4⟩
      | goto t =>
        obtain ⟨p1, p2⟩ := hp
        obtain ⟨q1, q2, q3, q4⟩ := fin (some (.goto t)) W3 p1
        exact ⟨_, _, q1, .inr ⟨rfl, .goto t, (hIx _).putObj _ p2 (by omega) q2.rcd rfl, q3⟩, q4⟩
      | panic ch => exact hp.elim
      | outgrown => exact hp.elim
    · rintro e W2 ⟨⟨v, rfl⟩, ⟨xs, hS, hi, hk⟩ | ⟨pre, hSp, c, hi, hk⟩⟩
      · have he := run_endLoop (P := P) hk.rcd (by rw [hR]; simp)
        exact ⟨none, _, by rw [hR] at he; exact he, hdone _ xs _ (Nat.le_refl _) hS (hI.putObj _ hi (by omega) hk.rcd rfl) (hk.turn _).dfr⟩
      · have he := run_endLoop (P := P) hk.rcd (by rw [hR]; simp)
        exact ⟨some c, _, by rw [hR] at he; exact he, hstop _ c pre _ (Nat.le_refl _) hSp ((hIx c).putObj _ hi (by omega) hk.rcd rfl) (hk.turn _).dfr⟩
end Go.Proofs.Ytociadicjbkjcaa
