import Derived.Test.YtebeefkibbbkdaaUa
import Derived.OrdersHeld
import Derived.Deep.RegionHeld
/- manifest.Replace walked. -/
namespace Go.Proofs.Ytebeefkibbbkdaa
open Go.RowKit Go.Maps

/-- The five variables of a replacement. -/
structure FR (w : World) (B d : Nat) (nm : ByteArray) (A : Option Addr) (n c : Nat) (tm : ByteArray) (ev : Int) : Prop where
  b0 : Box w B 24 #[.pointer (some ⟨d, 0, none⟩)]
  b1 : Box w (B + 1) 9 #[.string nm]
  b2 : Box w (B + 1 + 1) 22 #[.slice A n c]
  b3 : Box w (B + 1 + 1 + 1) 29 #[.int .i64 ev]
  b4 : Box w (B + 1 + 1 + 1 + 1) 9 #[.string tm]
/-- Nothing of S lies there. -/
def Aw (S : Nat → Prop) (B E : Nat) : Prop := ∀ k, B ≤ k → k < E → ¬ S k
section
variable {W w w' : World} {S S' : Nat → Prop} {B E d n c N M : Nat} {nm tm : ByteArray} {A : Option Addr} {ev : Int} {s s' : Dk} {bs : List UInt8}
theorem FR.chg (h : FR w B d nm A n c tm ev) (hc : Chg S w w') (ha : Aw S B (B + 5)) : FR w' B d nm A n c tm ev :=
  ⟨h.b0.chg hc (ha _ (by omega) (by omega)), h.b1.chg hc (ha _ (by omega) (by omega)), h.b2.chg hc (ha _ (by omega) (by omega)), h.b3.chg hc (ha _ (by omega) (by omega)), h.b4.chg hc (ha _ (by omega) (by omega))⟩
theorem FR.next (h : FR w B d nm A n c tm ev) (hb : Below w.heap.size w w') : FR w' B d nm A n c tm ev :=
  ⟨h.b0.below hb h.b0.lt, h.b1.below hb h.b1.lt, h.b2.below hb h.b2.lt, h.b3.below hb h.b3.lt, h.b4.below hb h.b4.lt⟩
theorem FR.err (h : FR w B d nm A n c tm ev) (e : Int) : FR (w.setCell ⟨B + 1 + 1 + 1, 0, none⟩ (.int .i64 e)) B d nm A n c tm e :=
  ⟨h.b0.far (by show B ≠ B + 1 + 1 + 1; omega) _, h.b1.far (by show B + 1 ≠ B + 1 + 1 + 1; omega) _, h.b2.far (by show B + 1 + 1 ≠ B + 1 + 1 + 1; omega) _, by simpa using h.b3.set_ 0 (.int .i64 e), h.b4.far (by show B + 1 + 1 + 1 + 1 ≠ B + 1 + 1 + 1; omega) _⟩
theorem FR.lt (h : FR w B d nm A n c tm ev) : B + 5 ≤ w.heap.size := by have := h.b4.lt; omega
theorem Aw.then_ (h : Aw S B E) (hs : ∀ b, S' b → S b ∨ w.heap.size ≤ b) (hE : E ≤ w.heap.size) : Aw S' B E := fun k h1 h2 h3 => by
  rcases hs k h3 with h4 | h4
  · exact h k h1 h2 h4
  · omega
end
/-- All that a replacement carries; it began at w0, with S0. -/
structure RC (W w0 w : World) (S0 S : Nat → Prop) (d : Nat) (s : Dk) (N B : Nat) (nm : ByteArray) (A : Option Addr) (n c : Nat) (tm : ByteArray) (ev : Int) (bs : List UInt8) : Prop where
  lv : Lv W w S d s N
  fr : FR w B d nm A n c tm ev
  aw : Aw S B (B + 5)
  out : Out w S A bs
  bb : w0.heap.size = B
  ww : W.heap.size ≤ B
  al : ∀ ad, A = some ad → bs ≠ [] → ad.block < B
  ch : Chg S0 w0 w
  su : ∀ b, S b → S0 b ∨ B ≤ b
section
variable {W w0 w w' : World} {S0 S S' : Nat → Prop} {B E d n c N M : Nat} {nm tm : ByteArray} {A : Option Addr} {ev : Int} {s s' : Dk} {bs : List UInt8}
theorem RC.next (h : RC W w0 w S0 S d s N B nm A n c tm ev bs) (hb : Below w.heap.size w w') : RC W w0 w' S0 S d s N B nm A n c tm ev bs := ⟨h.lv.next hb, h.fr.next hb, h.aw, h.out.next hb, h.bb, h.ww, h.al, h.ch.next hb, h.su⟩
theorem RC.up (h : RC W w0 w S0 S d s N B nm A n c tm ev bs) (hM : N ≤ M) : RC W w0 w S0 S d s M B nm A n c tm ev bs := ⟨h.lv.up hM, h.fr, h.aw, h.out, h.bb, h.ww, h.al, h.ch, h.su⟩
theorem RC.then_ (h : RC W w0 w S0 S d s N B nm A n c tm ev bs) (hT : Lv.Then W w w' S d s' M) : ∃ S', RC W w0 w' S0 S' d s' M B nm A n c tm ev bs ∧ Chg S w w' ∧ ∀ b, S' b → S b ∨ w.heap.size ≤ b := by
  obtain ⟨S', h1, h2, h3⟩ := hT
  have hB : B ≤ w.heap.size := by have := h.fr.lt; omega
  refine ⟨S', ⟨h1, h.fr.chg h2 h.aw, h.aw.then_ h3 h.fr.lt, h.out.then_ h2 h3, h.bb, h.ww, h.al, ?_, fun b hb => ?_⟩, h2, h3⟩
  · refine h.ch.trans' h2 fun j hj hs => ?_
    rcases h.su j hs with h4 | h4
    · exact h4
    · have := h.bb; omega
  · rcases h3 b hb with h4 | h4
    · exact h.su b h4
    · exact .inr (by omega)
theorem RC.err (h : RC W w0 w S0 S d s N B nm A n c tm ev bs) (e : Int) : RC W w0 (w.setCell ⟨B + 1 + 1 + 1, 0, none⟩ (.int .i64 e)) S0 S d s N B nm A n c tm e bs := by
  have hc : Chg (fun b => b = B + 1 + 1 + 1) w (w.setCell ⟨B + 1 + 1 + 1, 0, none⟩ (.int .i64 e)) := Chg.setCell (S := fun b => b = B + 1 + 1 + 1) (Chg.refl _ w) (p := ⟨B + 1 + 1 + 1, 0, none⟩) (.inl rfl) _
  have hww := h.ww
  have hbb := h.bb
  refine ⟨h.lv.far hc (fun b hb e => h.aw (B + 1 + 1 + 1) (by omega) (by omega) (e ▸ hb)) (fun b e => by omega), h.fr.err e, h.aw, ⟨?_, h.out.2⟩, h.bb, h.ww, h.al, h.ch.setCell (p := ⟨B + 1 + 1 + 1, 0, none⟩) (.inr (by show w0.heap.size ≤ B + 1 + 1 + 1; omega)) _, h.su⟩
  intro j u hj
  obtain ⟨ad, e1, hb, hcl⟩ := h.out.1 j u hj
  have hne : bs ≠ [] := fun e => by subst e; simp [bv] at hj
  have := h.al ad e1 hne
  refine ⟨ad, e1, by simpa [World.setCell] using hb, ?_⟩
  rw [← hcl]
  exact cell_heap (Below.heap_setCell w _ _ _ (by rw [add_block]; show ad.block ≠ B + 1 + 1 + 1; omega))
theorem RC.put (h : RC W w0 w S0 S d s N B nm A n c tm ev bs) {q : Nat} (hq : B + 5 ≤ q) (hS : ¬ S q) (v : Value) : RC W w0 (w.setCell ⟨q, 0, none⟩ v) S0 S d s N B nm A n c tm ev bs := by
  have hc : Chg (fun b => b = q) w (w.setCell ⟨q, 0, none⟩ v) := Chg.setCell (S := fun b => b = q) (Chg.refl _ w) (p := ⟨q, 0, none⟩) (.inl rfl) _
  have hww := h.ww
  have hbb := h.bb
  refine ⟨h.lv.far hc (fun b hb e => hS (e ▸ hb)) (fun b e => by omega), h.fr.chg hc (fun k h1 h2 e => by omega), h.aw, ⟨?_, h.out.2⟩, h.bb, h.ww, h.al, h.ch.setCell (p := ⟨q, 0, none⟩) (.inr (by show w0.heap.size ≤ q; omega)) _, h.su⟩
  intro j u hj
  obtain ⟨ad, e1, hb, hcl⟩ := h.out.1 j u hj
  have hne : bs ≠ [] := fun e => by subst e; simp [bv] at hj
  have := h.al ad e1 hne
  refine ⟨ad, e1, by simpa [World.setCell] using hb, ?_⟩
  rw [← hcl]
  exact cell_heap (Below.heap_setCell w _ _ _ (by rw [add_block]; show ad.block ≠ q; omega))
/-- What has become of the disk. -/
theorem RC.done (h : RC W w0 w S0 S d s N B nm A n c tm ev bs) (hM : N ≤ M) : Lv.Then W w0 w S0 d s M := ⟨S, h.lv.up hM, h.ch, fun b hb => by rw [h.bb]; exact h.su b hb⟩
theorem runK_ok {f k : Nat} (h : opE nm tm bs k s = 0) : runK nm tm bs (f + 1) k s = runK nm tm bs f (k + 1) (opS nm tm bs k s) := if_pos h
theorem runK_err {f k : Nat} (h : opE nm tm bs k s ≠ 0) (h2 : k = 0 ∨ opE nm tm bs k s = 34) : runK nm tm bs (f + 1) k s = (opE nm tm bs k s, opS nm tm bs k s) :=
  (if_neg h).trans (if_neg fun ⟨h3, h4⟩ => by rcases h2 with h5 | h5; omega; exact h4 h5)
theorem runK_rem {f k : Nat} (h : opE nm tm bs k s ≠ 0) (h2 : 0 < k ∧ opE nm tm bs k s ≠ 34) : runK nm tm bs (f + 1) k s = (opE nm tm bs k s, removeS tm (opS nm tm bs k s)) :=
  (if_neg h).trans (if_pos h2)
theorem res_rep {tmps : Array Value} {b : Nat} (h : tmps[6]?.getD undef = .pointer (some ⟨b, 0, none⟩)) (hc : w.cell? ⟨b, 0, none⟩ = some (.int .i64 ev)) : (results Try.f9 tmps).run Try.prog w = .ok (.int .i64 ev) w := by
  simp [results, Try.results9, go_sem, h, hc]
end
set_option maxRecDepth 100000 in
set_option maxHeartbeats 8000000 in
theorem replace_any (W w : World) (S : Nat → Prop) (d : Nat) (s : Dk) (N : Nat) (nm : ByteArray) (A : Option Addr) (n c : Nat) (bs : List UInt8) (h : Lv W w S d s N) (hN : N ≤ 999999999990) (hz : nm.size ≤ 2000000) (hA : Out w S A bs) (hn : bs.length = n) (hm : n ≤ 140737488355328) :
    Calls Try.prog 9 #[.pointer (some ⟨d, 0, none⟩), .string nm, .slice A n c] w fun e w' => e = .returned (.int .i64 (replT nm (nm ++ ⟨#[46, 116, 109, 112]⟩) bs s).1) ∧ Lv.Then W w w' S d (replT nm (nm ++ ⟨#[46, 116, 109, 112]⟩) bs s).2 (N + 8) := by
  have hmf : ∀ (fn : Fn) (first cap : Array Value) (w : World), (Instr.makeFunc fn first cap).run Try.prog w = .ok (.func fn first cap) w := fun _ _ _ _ => rfl
  obtain ⟨tm, htm⟩ : ∃ tm, (nm ++ ⟨#[46, 116, 109, 112]⟩) = tm := ⟨_, rfl⟩
  have htz : tm.size ≤ maxLen := by rw [← htm, ByteArray.size_append]; show nm.size + 4 ≤ _; unfold maxLen; omega
  have hnz : nm.size ≤ maxLen := by unfold maxLen; omega
  obtain ⟨w5, hw5⟩ : ∃ w5, (((((w.alloc (.cells #[.pointer (some ⟨d, 0, none⟩)] 24)).alloc (.cells #[.string nm] 9)).alloc (.cells #[.slice A n c] 22)).alloc (.cells #[.int .i64 0] 29)).alloc (.cells #[.string tm] 9)) = w5 := ⟨_, rfl⟩
  have hb5 : Below w.heap.size w w5 := by
    rw [← hw5]
    exact (((((Below.refl _ w).alloc (Nat.le_refl _) _).alloc (by simp) _).alloc (by simp; omega) _).alloc (by simp; omega) _).alloc (by simp; omega) _
  have hF : FR w5 w.heap.size d nm A n c tm 0 := by
    rw [← hw5]
    refine ⟨((((Box.new w _ _).alloc _).alloc _).alloc _).alloc _, ?_, ?_, ?_, ?_⟩
    · have := Box.new (w.alloc (.cells #[.pointer (some ⟨d, 0, none⟩)] 24)) 9 #[.string nm]
      simp only [World.alloc, Array.size_push] at this ⊢
      exact ((this.alloc _).alloc _).alloc _
    · have := Box.new ((w.alloc (.cells #[.pointer (some ⟨d, 0, none⟩)] 24)).alloc (.cells #[.string nm] 9)) 22 #[.slice A n c]
      simp only [World.alloc, Array.size_push] at this ⊢
      exact (this.alloc _).alloc _
    · have := Box.new (((w.alloc (.cells #[.pointer (some ⟨d, 0, none⟩)] 24)).alloc (.cells #[.string nm] 9)).alloc (.cells #[.slice A n c] 22)) 29 #[.int .i64 0]
      simp only [World.alloc, Array.size_push] at this ⊢
      exact this.alloc _
    · have := Box.new ((((w.alloc (.cells #[.pointer (some ⟨d, 0, none⟩)] 24)).alloc (.cells #[.string nm] 9)).alloc (.cells #[.slice A n c] 22)).alloc (.cells #[.int .i64 0] 29)) 9 #[.string tm]
      simp only [World.alloc, Array.size_push] at this ⊢
      exact this
  have hAlt : ∀ ad, A = some ad → bs ≠ [] → ad.block < w.heap.size := fun ad e hne => by
    obtain ⟨x, r, rfl⟩ : ∃ x r, bs = x :: r := by cases bs; exact absurd rfl hne; exact ⟨_, _, rfl⟩
    obtain ⟨ad', e', hb, _⟩ := hA.1 0 _ rfl
    rw [e] at e'
    injection e' with e'
    subst e'
    exact hb
  have hR : RC W w w5 S S d s N w.heap.size nm A n c tm 0 bs := ⟨h.next hb5, hF, fun k h1 _ hS => by have := h.1.lt k hS; omega, hA.next hb5, rfl, h.2.2.1.size, hAlt, Chg.of_below hb5 S, fun b hb => .inl hb⟩
  have HR := Lib.hid (And.intro hR hn)
  clear hR hF hb5 hAlt hA hn h
  rw [htm]
  go_enter_defers Try.func9, Try.ntmps9
  go_upto_region 4 with fail
  try rw [hw5]
  clear hw5 htm
  obtain ⟨B, hB⟩ : ∃ B, w.heap.size = B := ⟨_, rfl⟩
  rw [hB] at HR ⊢
  have hc0 := HR.out.1.fr.b0.cell
  have hc1 := HR.out.1.fr.b1.cell
  have hc4 := HR.out.1.fr.b4.cell
  have T0 := Lib.hid True.intro
  obtain ⟨e1, he1⟩ : ∃ e1, atE nm s = e1 := ⟨_, rfl⟩
  by_cases hx : e1 ≠ 0 ∧ e1 ≠ 31
  · have hx0 : (e1 != 0) = true := by simpa using hx.1
    have hx1 : (e1 != 31) = true := by simpa using hx.2
    have hrep : replT nm tm bs s = (e1, s) := by unfold replT; rw [he1, if_pos hx]
    have HE := Lib.hid (And.intro he1 hrep)
    clear hrep he1 hx
    go_wp2_with (first
      | (go_at_call 25
         have z0 := T0
         clear z0
         refine (lv_size nm HR.out.1.lv hnz).mono ?_
         rintro e w6 ⟨rfl, hb6⟩
         rw [HE.out.1]
         have hR6 := HR.out.1.next hb6
         have hc0 := hR6.fr.b0.cell
         have hc4 := hR6.fr.b4.cell
         have hc3 := hR6.fr.b3.cell
         have hf3 := hR6.fr.b3.free
         have H6 := Lib.hid (And.intro hR6 hb6)
         clear hR6 hb6
         have T1 := Lib.hid True.intro
         clear T0))
    refine ⟨.int .i64 e1, res_rep rfl ((H6.out.1.err e1).fr.b3.cell 0), ?_⟩
    rw [HE.out.2]
    exact ⟨rfl, (H6.out.1.err e1).done (by omega)⟩
  · have hx01 : e1 = 0 ∨ e1 = 31 := by omega
    obtain ⟨e2, he2⟩ : ∃ e2, atE tm s = e2 := ⟨_, rfl⟩
    have hrp : replT nm tm bs s = if e2 = 0 then (if removeE tm s = 0 then runK nm tm bs 5 0 (removeS tm s) else (removeE tm s, removeS tm s)) else if e2 = 31 then runK nm tm bs 5 0 s else (e2, s) := by
      unfold replT
      rw [he1, if_neg hx, he2]
    have HE := Lib.hid (And.intro he1 hrp)
    have HE2 := Lib.hid he2
    clear he1 hx hrp he2
    rcases (show e2 = 0 ∨ e2 = 31 ∨ (e2 ≠ 0 ∧ e2 ≠ 31) by omega) with h0 | h31 | ⟨h0, h31⟩
    · obtain ⟨r, hr⟩ : ∃ r, removeE tm s = r := ⟨_, rfl⟩
      obtain ⟨s1, hs1⟩ : ∃ s1, removeS tm s = s1 := ⟨_, rfl⟩
      have hrep : replT nm tm bs s = if r = 0 then runK nm tm bs 5 0 s1 else (r, s1) := by rw [HE.out.2, if_pos h0, hr, hs1]
      have HQ := Lib.hid (And.intro hr (And.intro hs1 hrep))
      clear hr hs1 hrep
      subst h0
      by_cases hr0 : r = 0
      · have HQ0 := Lib.hid hr0
        subst hr0
        rcases hx01 with rfl | rfl
        all_goals
        go_upto_region 15 with (first
          | (go_at_call 25
             have z0 := T0
             clear z0
             refine (lv_size nm HR.out.1.lv hnz).mono ?_
             rintro e w6 ⟨rfl, hb6⟩
             rw [HE.out.1]
             have hR6 := HR.out.1.next hb6
             have hc0 := hR6.fr.b0.cell
             have hc4 := hR6.fr.b4.cell
             have hc3 := hR6.fr.b3.cell
             have hf3 := hR6.fr.b3.free
             have H6 := Lib.hid (And.intro hR6 hb6)
             clear hR6 hb6
             have T1 := Lib.hid True.intro
             clear T0)
          | (go_at_call 25
             have z0 := T1
             clear z0
             refine (lv_size tm H6.out.1.lv htz).mono ?_
             rintro e w7 ⟨rfl, hb7⟩
             rw [HE2.out]
             have hR7 := H6.out.1.next hb7
             have hc0 := hR7.fr.b0.cell
             have hc4 := hR7.fr.b4.cell
             have hc3 := hR7.fr.b3.cell
             have hf3 := hR7.fr.b3.free
             have H7 := Lib.hid hR7
             clear hR7 hb7
             have T2 := Lib.hid True.intro
             clear T1)
          | (go_at_call 26
             refine (lv_remove tm H7.out.lv (by omega) htz).mono ?_
             rintro e w8 ⟨rfl, hT⟩
             obtain ⟨S8, hR8, _, _⟩ := H7.out.then_ hT
             rw [HQ.out.1]
             rw [HQ.out.2.1] at hR8
             have hc0 := hR8.fr.b0.cell
             have hc4 := hR8.fr.b4.cell
             have hc3 := hR8.fr.b3.cell
             have hf3 := hR8.fr.b3.free
             have H8 := Lib.hid hR8
             clear hR8 hT))
        have HC := Lib.hid (And.intro ((H8.out).up (show (N + 1) ≤ N + 1 by omega)) (show replT nm tm bs s = runK nm tm bs 5 0 s1 from by have := HQ.out.2.2; simpa using this))
        have hl0 := HC.out.1.fr.b0.lt
        go_upto_region 18 with fail
        obtain ⟨M, hM⟩ : ∃ M, w8.heap.size = M := ⟨_, rfl⟩
        have hbm : Box ((w8.alloc (.cells #[.bool false] 4)).alloc (.cells #[.func (.func 28) #[] #[.pointer (some ⟨B, 0, none⟩), .pointer (some ⟨B + 1 + 1 + 1 + 1, 0, none⟩)], .func (.func 30) #[] #[.pointer (some ⟨B, 0, none⟩), .pointer (some ⟨B + 1 + 1 + 1 + 1, 0, none⟩), .pointer (some ⟨B + 1 + 1, 0, none⟩)], .func (.func 32) #[] #[.pointer (some ⟨B, 0, none⟩), .pointer (some ⟨B + 1 + 1 + 1 + 1, 0, none⟩)], .func (.func 34) #[] #[.pointer (some ⟨B, 0, none⟩), .pointer (some ⟨B + 1 + 1 + 1 + 1, 0, none⟩), .pointer (some ⟨B + 1, 0, none⟩)], .func (.func 36) #[.pointer (some ⟨d, 0, none⟩)] #[]] 76)) M 4 #[.bool false] := hM ▸ (Box.new w8 _ _).alloc _
        have hbs : Box ((w8.alloc (.cells #[.bool false] 4)).alloc (.cells #[.func (.func 28) #[] #[.pointer (some ⟨B, 0, none⟩), .pointer (some ⟨B + 1 + 1 + 1 + 1, 0, none⟩)], .func (.func 30) #[] #[.pointer (some ⟨B, 0, none⟩), .pointer (some ⟨B + 1 + 1 + 1 + 1, 0, none⟩), .pointer (some ⟨B + 1 + 1, 0, none⟩)], .func (.func 32) #[] #[.pointer (some ⟨B, 0, none⟩), .pointer (some ⟨B + 1 + 1 + 1 + 1, 0, none⟩)], .func (.func 34) #[] #[.pointer (some ⟨B, 0, none⟩), .pointer (some ⟨B + 1 + 1 + 1 + 1, 0, none⟩), .pointer (some ⟨B + 1, 0, none⟩)], .func (.func 36) #[.pointer (some ⟨d, 0, none⟩)] #[]] 76)) (M + 1) 76 #[.func (.func 28) #[] #[.pointer (some ⟨B, 0, none⟩), .pointer (some ⟨B + 1 + 1 + 1 + 1, 0, none⟩)], .func (.func 30) #[] #[.pointer (some ⟨B, 0, none⟩), .pointer (some ⟨B + 1 + 1 + 1 + 1, 0, none⟩), .pointer (some ⟨B + 1 + 1, 0, none⟩)], .func (.func 32) #[] #[.pointer (some ⟨B, 0, none⟩), .pointer (some ⟨B + 1 + 1 + 1 + 1, 0, none⟩)], .func (.func 34) #[] #[.pointer (some ⟨B, 0, none⟩), .pointer (some ⟨B + 1 + 1 + 1 + 1, 0, none⟩), .pointer (some ⟨B + 1, 0, none⟩)], .func (.func 36) #[.pointer (some ⟨d, 0, none⟩)] #[]] := by
          have := Box.new (w8.alloc (.cells #[.bool false] 4)) 76 #[.func (.func 28) #[] #[.pointer (some ⟨B, 0, none⟩), .pointer (some ⟨B + 1 + 1 + 1 + 1, 0, none⟩)], .func (.func 30) #[] #[.pointer (some ⟨B, 0, none⟩), .pointer (some ⟨B + 1 + 1 + 1 + 1, 0, none⟩), .pointer (some ⟨B + 1 + 1, 0, none⟩)], .func (.func 32) #[] #[.pointer (some ⟨B, 0, none⟩), .pointer (some ⟨B + 1 + 1 + 1 + 1, 0, none⟩)], .func (.func 34) #[] #[.pointer (some ⟨B, 0, none⟩), .pointer (some ⟨B + 1 + 1 + 1 + 1, 0, none⟩), .pointer (some ⟨B + 1, 0, none⟩)], .func (.func 36) #[.pointer (some ⟨d, 0, none⟩)] #[]]
          simp only [World.alloc, Array.size_push] at this ⊢
          rw [hM] at this
          exact this
        have hrc := HC.out.1.next ((Below.al w8 (.cells #[.bool false] 4)).trans ((Below.al (w8.alloc (.cells #[.bool false] 4)) (.cells #[.func (.func 28) #[] #[.pointer (some ⟨B, 0, none⟩), .pointer (some ⟨B + 1 + 1 + 1 + 1, 0, none⟩)], .func (.func 30) #[] #[.pointer (some ⟨B, 0, none⟩), .pointer (some ⟨B + 1 + 1 + 1 + 1, 0, none⟩), .pointer (some ⟨B + 1 + 1, 0, none⟩)], .func (.func 32) #[] #[.pointer (some ⟨B, 0, none⟩), .pointer (some ⟨B + 1 + 1 + 1 + 1, 0, none⟩)], .func (.func 34) #[] #[.pointer (some ⟨B, 0, none⟩), .pointer (some ⟨B + 1 + 1 + 1 + 1, 0, none⟩), .pointer (some ⟨B + 1, 0, none⟩)], .func (.func 36) #[.pointer (some ⟨d, 0, none⟩)] #[]] 76)).mono (by simp)))
        have haw : Aw S8 M (M + 2) := fun k h1 _ h3 => by have := HC.out.1.lv.1.lt k h3; omega
        have hBM : B + 5 ≤ M := hM ▸ HC.out.1.fr.lt
        rw [hM]
        generalize hwv : ((w8.alloc (.cells #[.bool false] 4)).alloc (.cells #[.func (.func 28) #[] #[.pointer (some ⟨B, 0, none⟩), .pointer (some ⟨B + 1 + 1 + 1 + 1, 0, none⟩)], .func (.func 30) #[] #[.pointer (some ⟨B, 0, none⟩), .pointer (some ⟨B + 1 + 1 + 1 + 1, 0, none⟩), .pointer (some ⟨B + 1 + 1, 0, none⟩)], .func (.func 32) #[] #[.pointer (some ⟨B, 0, none⟩), .pointer (some ⟨B + 1 + 1 + 1 + 1, 0, none⟩)], .func (.func 34) #[] #[.pointer (some ⟨B, 0, none⟩), .pointer (some ⟨B + 1 + 1 + 1 + 1, 0, none⟩), .pointer (some ⟨B + 1, 0, none⟩)], .func (.func 36) #[.pointer (some ⟨d, 0, none⟩)] #[]] 76)) = wv at hbm hbs hrc ⊢
        have HV := Lib.hid (And.intro hrc (And.intro hbm (And.intro hbs (And.intro haw hBM))))
        clear hwv hbm hbs hrc haw hl0 hM hc0 hc4 hc3 hf3
        go_wp2
        go_loopw [63] (fun v63 wr => ∃ (k : Nat) (sk : Dk) (Sk : Nat → Prop), k ≤ 5 ∧ v63 = .int .i64 k ∧ RC W w wr S Sk d sk (N + 1 + k) B nm A n c tm 0 bs ∧ Box wr M 4 #[.bool (decide (0 < k))] ∧ Box wr (M + 1) 76 #[.func (.func 28) #[] #[.pointer (some ⟨B, 0, none⟩), .pointer (some ⟨B + 1 + 1 + 1 + 1, 0, none⟩)], .func (.func 30) #[] #[.pointer (some ⟨B, 0, none⟩), .pointer (some ⟨B + 1 + 1 + 1 + 1, 0, none⟩), .pointer (some ⟨B + 1 + 1, 0, none⟩)], .func (.func 32) #[] #[.pointer (some ⟨B, 0, none⟩), .pointer (some ⟨B + 1 + 1 + 1 + 1, 0, none⟩)], .func (.func 34) #[] #[.pointer (some ⟨B, 0, none⟩), .pointer (some ⟨B + 1 + 1 + 1 + 1, 0, none⟩), .pointer (some ⟨B + 1, 0, none⟩)], .func (.func 36) #[.pointer (some ⟨d, 0, none⟩)] #[]] ∧ Aw Sk M (M + 2) ∧ runK nm tm bs 5 0 s1 = runK nm tm bs (5 - k) k sk) (fun v63 _ => 5 - (intOf v63).toNat)
        case atStart => exact ⟨0, s1, S8, by omega, rfl, HV.out.1, HV.out.2.1, HV.out.2.2.1, HV.out.2.2.2.1, rfl⟩
        case round =>
          obtain ⟨k, sk, Sk, hk, rfl, hR, hbm, hbs, haw, hrun⟩ := hrel
          have hcs := hbs.cell
          have H := Lib.hid (And.intro hR (And.intro hbm (And.intro hbs (And.intro haw hrun))))
          clear hR hbm hbs haw hrun
          rcases (show k = 0 ∨ k = 1 ∨ k = 2 ∨ k = 3 ∨ k = 4 ∨ k = 5 by omega) with rfl | rfl | rfl | rfl | rfl | rfl
          · obtain ⟨ev, hev⟩ : ∃ ev, opE nm tm bs 0 sk = ev := ⟨_, rfl⟩
            obtain ⟨s2, hs2⟩ : ∃ s2, opS nm tm bs 0 sk = s2 := ⟨_, rfl⟩
            have HO := Lib.hid (And.intro hev hs2)
            clear hev hs2
            by_cases he : ev = 0
            · subst he
              go_wp2_with (first
                | (go_at_call 28
                   refine (cl2 H.out.1.lv (by omega) htz (H.out.1.fr.b0.cell 0) (H.out.1.fr.b4.cell 0)).mono ?_
                   rintro e w9 ⟨rfl, hT⟩
                   rw [show createE tm sk = 0 from HO.out.1]
                   rw [show createS tm sk = s2 from HO.out.2] at hT
                   obtain ⟨S9, hR9, hch, hsu⟩ := H.out.1.then_ hT
                   have hbm9 := H.out.2.1.chg hch (H.out.2.2.2.1 M (Nat.le_refl _) (by omega))
                   have hbs9 := H.out.2.2.1.chg hch (H.out.2.2.2.1 (M + 1) (by omega) (by omega))
                   have haw9 := H.out.2.2.2.1.then_ hsu (by have := H.out.2.2.1.lt; omega)
                   have hcm := hbm9.cell
                   have hfm := hbm9.free
                   have hc3 := hR9.fr.b3.cell
                   have hf3 := hR9.fr.b3.free
                   have H9 := Lib.hid (And.intro hR9 (And.intro hbm9 (And.intro hbs9 haw9)))
                   clear hT hR9 hch hsu hbm9 hbs9 haw9 hcs))
              go_roundw
              case rel =>
                have hp := H9.out.1.put (q := M) (by have := HV.out.2.2.2.2; omega) (H9.out.2.2.2 M (Nat.le_refl _) (by omega)) (.bool true)
                refine ⟨1, s2, S9, by omega, by go_num, hp.up (by omega), by simpa using H9.out.2.1.set_ 0 (.bool true), H9.out.2.2.1.far (by show M + 1 ≠ M; omega) _, H9.out.2.2.2, ?_⟩
                rw [H.out.2.2.2.2, runK_ok HO.out.1, HO.out.2]
              case measure => simp [intOf]
            · have heb : (ev != 0) = true := by simpa using he
              have HE0 := Lib.hid he
              clear he
              go_wp2_with (first
                | (go_at_call 28
                   refine (cl2 H.out.1.lv (by omega) htz (H.out.1.fr.b0.cell 0) (H.out.1.fr.b4.cell 0)).mono ?_
                   rintro e w9 ⟨rfl, hT⟩
                   rw [show createE tm sk = ev from HO.out.1]
                   rw [show createS tm sk = s2 from HO.out.2] at hT
                   obtain ⟨S9, hR9, hch, hsu⟩ := H.out.1.then_ hT
                   have hbm9 := H.out.2.1.chg hch (H.out.2.2.2.1 M (Nat.le_refl _) (by omega))
                   have hbs9 := H.out.2.2.1.chg hch (H.out.2.2.2.1 (M + 1) (by omega) (by omega))
                   have haw9 := H.out.2.2.2.1.then_ hsu (by have := H.out.2.2.1.lt; omega)
                   have hcm := hbm9.cell
                   have hfm := hbm9.free
                   have hc3 := hR9.fr.b3.cell
                   have hf3 := hR9.fr.b3.free
                   have H9 := Lib.hid (And.intro hR9 (And.intro hbm9 (And.intro hbs9 haw9)))
                   clear hT hR9 hch hsu hbm9 hbs9 haw9 hcs))
              refine leaves_cons (f := 27) (args := #[.pointer (some ⟨M, 0, none⟩), .pointer (some ⟨B + 1 + 1 + 1, 0, none⟩), .pointer (some ⟨B, 0, none⟩), .pointer (some ⟨B + 1 + 1 + 1 + 1, 0, none⟩)]) (by simp) (by simp [go_sem]) ?_
              refine (cl1_no false ev (.inl rfl) ((H9.out.2.1.far (by show M ≠ B + 1 + 1 + 1; have := HV.out.2.2.2.2; omega) _).cell 0) ((H9.out.1.err ev).fr.b3.cell 0)).mono ?_
              rintro e u' w'' ⟨rfl, rfl, rfl⟩
              refine ⟨.int .i64 ev, res_rep rfl ((H9.out.1.err ev).fr.b3.cell 0), ?_⟩
              rw [HC.out.2, H.out.2.2.2.2, runK_err (by rw [HO.out.1]; exact HE0.out) (.inl rfl), HO.out.1, HO.out.2]
              exact ⟨rfl, (H9.out.1.err ev).done (by omega)⟩
          · obtain ⟨ev, hev⟩ : ∃ ev, opE nm tm bs 1 sk = ev := ⟨_, rfl⟩
            obtain ⟨s2, hs2⟩ : ∃ s2, opS nm tm bs 1 sk = s2 := ⟨_, rfl⟩
            have HO := Lib.hid (And.intro hev hs2)
            clear hev hs2
            by_cases he : ev = 0
            · subst he
              go_wp2_with (first
                | (go_at_call 30
                   refine (cl3 H.out.1.lv (by omega) htz H.out.1.out HR.out.2 hm (H.out.1.fr.b0.cell 0) (H.out.1.fr.b4.cell 0) (H.out.1.fr.b2.cell 0)).mono ?_
                   rintro e w9 ⟨rfl, hT⟩
                   rw [show appendE tm bs sk = 0 from HO.out.1]
                   rw [show appendS tm bs sk = s2 from HO.out.2] at hT
                   obtain ⟨S9, hR9, hch, hsu⟩ := H.out.1.then_ hT
                   have hbm9 := H.out.2.1.chg hch (H.out.2.2.2.1 M (Nat.le_refl _) (by omega))
                   have hbs9 := H.out.2.2.1.chg hch (H.out.2.2.2.1 (M + 1) (by omega) (by omega))
                   have haw9 := H.out.2.2.2.1.then_ hsu (by have := H.out.2.2.1.lt; omega)
                   have hcm := hbm9.cell
                   have hfm := hbm9.free
                   have hc3 := hR9.fr.b3.cell
                   have hf3 := hR9.fr.b3.free
                   have H9 := Lib.hid (And.intro hR9 (And.intro hbm9 (And.intro hbs9 haw9)))
                   clear hT hR9 hch hsu hbm9 hbs9 haw9 hcs))
              go_roundw
              case rel =>
                have hp := H9.out.1.put (q := M) (by have := HV.out.2.2.2.2; omega) (H9.out.2.2.2 M (Nat.le_refl _) (by omega)) (.bool true)
                refine ⟨2, s2, S9, by omega, by go_num, hp.up (by omega), by simpa using H9.out.2.1.set_ 0 (.bool true), H9.out.2.2.1.far (by show M + 1 ≠ M; omega) _, H9.out.2.2.2, ?_⟩
                rw [H.out.2.2.2.2, runK_ok HO.out.1, HO.out.2]
              case measure => simp [intOf]
            · have heb : (ev != 0) = true := by simpa using he
              have HE0 := Lib.hid he
              clear he
              go_wp2_with (first
                | (go_at_call 30
                   refine (cl3 H.out.1.lv (by omega) htz H.out.1.out HR.out.2 hm (H.out.1.fr.b0.cell 0) (H.out.1.fr.b4.cell 0) (H.out.1.fr.b2.cell 0)).mono ?_
                   rintro e w9 ⟨rfl, hT⟩
                   rw [show appendE tm bs sk = ev from HO.out.1]
                   rw [show appendS tm bs sk = s2 from HO.out.2] at hT
                   obtain ⟨S9, hR9, hch, hsu⟩ := H.out.1.then_ hT
                   have hbm9 := H.out.2.1.chg hch (H.out.2.2.2.1 M (Nat.le_refl _) (by omega))
                   have hbs9 := H.out.2.2.1.chg hch (H.out.2.2.2.1 (M + 1) (by omega) (by omega))
                   have haw9 := H.out.2.2.2.1.then_ hsu (by have := H.out.2.2.1.lt; omega)
                   have hcm := hbm9.cell
                   have hfm := hbm9.free
                   have hc3 := hR9.fr.b3.cell
                   have hf3 := hR9.fr.b3.free
                   have H9 := Lib.hid (And.intro hR9 (And.intro hbm9 (And.intro hbs9 haw9)))
                   clear hT hR9 hch hsu hbm9 hbs9 haw9 hcs))
              by_cases h34 : ev = 34
              · 
                refine leaves_cons (f := 27) (args := #[.pointer (some ⟨M, 0, none⟩), .pointer (some ⟨B + 1 + 1 + 1, 0, none⟩), .pointer (some ⟨B, 0, none⟩), .pointer (some ⟨B + 1 + 1 + 1 + 1, 0, none⟩)]) (by simp) (by simp [go_sem]) ?_
                refine (cl1_no true ev (.inr (.inr h34)) ((H9.out.2.1.far (by show M ≠ B + 1 + 1 + 1; have := HV.out.2.2.2.2; omega) _).cell 0) ((H9.out.1.err ev).fr.b3.cell 0)).mono ?_
                rintro e u' w'' ⟨rfl, rfl, rfl⟩
                refine ⟨.int .i64 ev, res_rep rfl ((H9.out.1.err ev).fr.b3.cell 0), ?_⟩
                rw [HC.out.2, H.out.2.2.2.2, runK_err (by rw [HO.out.1]; exact HE0.out) (.inr (by rw [HO.out.1]; exact h34)), HO.out.1, HO.out.2]
                exact ⟨rfl, (H9.out.1.err ev).done (by omega)⟩
              · refine leaves_cons (f := 27) (args := #[.pointer (some ⟨M, 0, none⟩), .pointer (some ⟨B + 1 + 1 + 1, 0, none⟩), .pointer (some ⟨B, 0, none⟩), .pointer (some ⟨B + 1 + 1 + 1 + 1, 0, none⟩)]) (by simp) (by simp [go_sem]) ?_
                refine (cl1_yes (W := W) ev ⟨HE0.out, h34⟩ (H9.out.1.err ev).lv (by omega) htz ((H9.out.2.1.far (by show M ≠ B + 1 + 1 + 1; have := HV.out.2.2.2.2; omega) _).cell 0) ((H9.out.1.err ev).fr.b3.cell 0) ((H9.out.1.err ev).fr.b0.cell 0) ((H9.out.1.err ev).fr.b4.cell 0)).mono ?_
                rintro e u' w'' ⟨rfl, rfl, hT⟩
                obtain ⟨S10, hR10, _, _⟩ := (H9.out.1.err ev).then_ hT
                refine ⟨.int .i64 ev, res_rep rfl (hR10.fr.b3.cell 0), ?_⟩
                rw [HC.out.2, H.out.2.2.2.2, runK_rem (by rw [HO.out.1]; exact HE0.out) ⟨by decide, by rw [HO.out.1]; exact h34⟩, HO.out.1, HO.out.2]
                exact ⟨rfl, hR10.done (by omega)⟩
          · obtain ⟨ev, hev⟩ : ∃ ev, opE nm tm bs 2 sk = ev := ⟨_, rfl⟩
            obtain ⟨s2, hs2⟩ : ∃ s2, opS nm tm bs 2 sk = s2 := ⟨_, rfl⟩
            have HO := Lib.hid (And.intro hev hs2)
            clear hev hs2
            by_cases he : ev = 0
            · subst he
              go_wp2_with (first
                | (go_at_call 32
                   refine (cl4 H.out.1.lv (by omega) htz (H.out.1.fr.b0.cell 0) (H.out.1.fr.b4.cell 0)).mono ?_
                   rintro e w9 ⟨rfl, hT⟩
                   rw [show syncE tm sk = 0 from HO.out.1]
                   rw [show syncS tm sk = s2 from HO.out.2] at hT
                   obtain ⟨S9, hR9, hch, hsu⟩ := H.out.1.then_ hT
                   have hbm9 := H.out.2.1.chg hch (H.out.2.2.2.1 M (Nat.le_refl _) (by omega))
                   have hbs9 := H.out.2.2.1.chg hch (H.out.2.2.2.1 (M + 1) (by omega) (by omega))
                   have haw9 := H.out.2.2.2.1.then_ hsu (by have := H.out.2.2.1.lt; omega)
                   have hcm := hbm9.cell
                   have hfm := hbm9.free
                   have hc3 := hR9.fr.b3.cell
                   have hf3 := hR9.fr.b3.free
                   have H9 := Lib.hid (And.intro hR9 (And.intro hbm9 (And.intro hbs9 haw9)))
                   clear hT hR9 hch hsu hbm9 hbs9 haw9 hcs))
              go_roundw
              case rel =>
                have hp := H9.out.1.put (q := M) (by have := HV.out.2.2.2.2; omega) (H9.out.2.2.2 M (Nat.le_refl _) (by omega)) (.bool true)
                refine ⟨3, s2, S9, by omega, by go_num, hp.up (by omega), by simpa using H9.out.2.1.set_ 0 (.bool true), H9.out.2.2.1.far (by show M + 1 ≠ M; omega) _, H9.out.2.2.2, ?_⟩
                rw [H.out.2.2.2.2, runK_ok HO.out.1, HO.out.2]
              case measure => simp [intOf]
            · have heb : (ev != 0) = true := by simpa using he
              have HE0 := Lib.hid he
              clear he
              go_wp2_with (first
                | (go_at_call 32
                   refine (cl4 H.out.1.lv (by omega) htz (H.out.1.fr.b0.cell 0) (H.out.1.fr.b4.cell 0)).mono ?_
                   rintro e w9 ⟨rfl, hT⟩
                   rw [show syncE tm sk = ev from HO.out.1]
                   rw [show syncS tm sk = s2 from HO.out.2] at hT
                   obtain ⟨S9, hR9, hch, hsu⟩ := H.out.1.then_ hT
                   have hbm9 := H.out.2.1.chg hch (H.out.2.2.2.1 M (Nat.le_refl _) (by omega))
                   have hbs9 := H.out.2.2.1.chg hch (H.out.2.2.2.1 (M + 1) (by omega) (by omega))
                   have haw9 := H.out.2.2.2.1.then_ hsu (by have := H.out.2.2.1.lt; omega)
                   have hcm := hbm9.cell
                   have hfm := hbm9.free
                   have hc3 := hR9.fr.b3.cell
                   have hf3 := hR9.fr.b3.free
                   have H9 := Lib.hid (And.intro hR9 (And.intro hbm9 (And.intro hbs9 haw9)))
                   clear hT hR9 hch hsu hbm9 hbs9 haw9 hcs))
              by_cases h34 : ev = 34
              · 
                refine leaves_cons (f := 27) (args := #[.pointer (some ⟨M, 0, none⟩), .pointer (some ⟨B + 1 + 1 + 1, 0, none⟩), .pointer (some ⟨B, 0, none⟩), .pointer (some ⟨B + 1 + 1 + 1 + 1, 0, none⟩)]) (by simp) (by simp [go_sem]) ?_
                refine (cl1_no true ev (.inr (.inr h34)) ((H9.out.2.1.far (by show M ≠ B + 1 + 1 + 1; have := HV.out.2.2.2.2; omega) _).cell 0) ((H9.out.1.err ev).fr.b3.cell 0)).mono ?_
                rintro e u' w'' ⟨rfl, rfl, rfl⟩
                refine ⟨.int .i64 ev, res_rep rfl ((H9.out.1.err ev).fr.b3.cell 0), ?_⟩
                rw [HC.out.2, H.out.2.2.2.2, runK_err (by rw [HO.out.1]; exact HE0.out) (.inr (by rw [HO.out.1]; exact h34)), HO.out.1, HO.out.2]
                exact ⟨rfl, (H9.out.1.err ev).done (by omega)⟩
              · refine leaves_cons (f := 27) (args := #[.pointer (some ⟨M, 0, none⟩), .pointer (some ⟨B + 1 + 1 + 1, 0, none⟩), .pointer (some ⟨B, 0, none⟩), .pointer (some ⟨B + 1 + 1 + 1 + 1, 0, none⟩)]) (by simp) (by simp [go_sem]) ?_
                refine (cl1_yes (W := W) ev ⟨HE0.out, h34⟩ (H9.out.1.err ev).lv (by omega) htz ((H9.out.2.1.far (by show M ≠ B + 1 + 1 + 1; have := HV.out.2.2.2.2; omega) _).cell 0) ((H9.out.1.err ev).fr.b3.cell 0) ((H9.out.1.err ev).fr.b0.cell 0) ((H9.out.1.err ev).fr.b4.cell 0)).mono ?_
                rintro e u' w'' ⟨rfl, rfl, hT⟩
                obtain ⟨S10, hR10, _, _⟩ := (H9.out.1.err ev).then_ hT
                refine ⟨.int .i64 ev, res_rep rfl (hR10.fr.b3.cell 0), ?_⟩
                rw [HC.out.2, H.out.2.2.2.2, runK_rem (by rw [HO.out.1]; exact HE0.out) ⟨by decide, by rw [HO.out.1]; exact h34⟩, HO.out.1, HO.out.2]
                exact ⟨rfl, hR10.done (by omega)⟩
          · obtain ⟨ev, hev⟩ : ∃ ev, opE nm tm bs 3 sk = ev := ⟨_, rfl⟩
            obtain ⟨s2, hs2⟩ : ∃ s2, opS nm tm bs 3 sk = s2 := ⟨_, rfl⟩
            have HO := Lib.hid (And.intro hev hs2)
            clear hev hs2
            by_cases he : ev = 0
            · subst he
              go_wp2_with (first
                | (go_at_call 34
                   refine (cl5 H.out.1.lv (by omega) htz hnz (H.out.1.fr.b0.cell 0) (H.out.1.fr.b4.cell 0) (H.out.1.fr.b1.cell 0)).mono ?_
                   rintro e w9 ⟨rfl, hT⟩
                   rw [show renameE tm nm sk = 0 from HO.out.1]
                   rw [show renameS tm nm sk = s2 from HO.out.2] at hT
                   obtain ⟨S9, hR9, hch, hsu⟩ := H.out.1.then_ hT
                   have hbm9 := H.out.2.1.chg hch (H.out.2.2.2.1 M (Nat.le_refl _) (by omega))
                   have hbs9 := H.out.2.2.1.chg hch (H.out.2.2.2.1 (M + 1) (by omega) (by omega))
                   have haw9 := H.out.2.2.2.1.then_ hsu (by have := H.out.2.2.1.lt; omega)
                   have hcm := hbm9.cell
                   have hfm := hbm9.free
                   have hc3 := hR9.fr.b3.cell
                   have hf3 := hR9.fr.b3.free
                   have H9 := Lib.hid (And.intro hR9 (And.intro hbm9 (And.intro hbs9 haw9)))
                   clear hT hR9 hch hsu hbm9 hbs9 haw9 hcs))
              go_roundw
              case rel =>
                have hp := H9.out.1.put (q := M) (by have := HV.out.2.2.2.2; omega) (H9.out.2.2.2 M (Nat.le_refl _) (by omega)) (.bool true)
                refine ⟨4, s2, S9, by omega, by go_num, hp.up (by omega), by simpa using H9.out.2.1.set_ 0 (.bool true), H9.out.2.2.1.far (by show M + 1 ≠ M; omega) _, H9.out.2.2.2, ?_⟩
                rw [H.out.2.2.2.2, runK_ok HO.out.1, HO.out.2]
              case measure => simp [intOf]
            · have heb : (ev != 0) = true := by simpa using he
              have HE0 := Lib.hid he
              clear he
              go_wp2_with (first
                | (go_at_call 34
                   refine (cl5 H.out.1.lv (by omega) htz hnz (H.out.1.fr.b0.cell 0) (H.out.1.fr.b4.cell 0) (H.out.1.fr.b1.cell 0)).mono ?_
                   rintro e w9 ⟨rfl, hT⟩
                   rw [show renameE tm nm sk = ev from HO.out.1]
                   rw [show renameS tm nm sk = s2 from HO.out.2] at hT
                   obtain ⟨S9, hR9, hch, hsu⟩ := H.out.1.then_ hT
                   have hbm9 := H.out.2.1.chg hch (H.out.2.2.2.1 M (Nat.le_refl _) (by omega))
                   have hbs9 := H.out.2.2.1.chg hch (H.out.2.2.2.1 (M + 1) (by omega) (by omega))
                   have haw9 := H.out.2.2.2.1.then_ hsu (by have := H.out.2.2.1.lt; omega)
                   have hcm := hbm9.cell
                   have hfm := hbm9.free
                   have hc3 := hR9.fr.b3.cell
                   have hf3 := hR9.fr.b3.free
                   have H9 := Lib.hid (And.intro hR9 (And.intro hbm9 (And.intro hbs9 haw9)))
                   clear hT hR9 hch hsu hbm9 hbs9 haw9 hcs))
              by_cases h34 : ev = 34
              · 
                refine leaves_cons (f := 27) (args := #[.pointer (some ⟨M, 0, none⟩), .pointer (some ⟨B + 1 + 1 + 1, 0, none⟩), .pointer (some ⟨B, 0, none⟩), .pointer (some ⟨B + 1 + 1 + 1 + 1, 0, none⟩)]) (by simp) (by simp [go_sem]) ?_
                refine (cl1_no true ev (.inr (.inr h34)) ((H9.out.2.1.far (by show M ≠ B + 1 + 1 + 1; have := HV.out.2.2.2.2; omega) _).cell 0) ((H9.out.1.err ev).fr.b3.cell 0)).mono ?_
                rintro e u' w'' ⟨rfl, rfl, rfl⟩
                refine ⟨.int .i64 ev, res_rep rfl ((H9.out.1.err ev).fr.b3.cell 0), ?_⟩
                rw [HC.out.2, H.out.2.2.2.2, runK_err (by rw [HO.out.1]; exact HE0.out) (.inr (by rw [HO.out.1]; exact h34)), HO.out.1, HO.out.2]
                exact ⟨rfl, (H9.out.1.err ev).done (by omega)⟩
              · refine leaves_cons (f := 27) (args := #[.pointer (some ⟨M, 0, none⟩), .pointer (some ⟨B + 1 + 1 + 1, 0, none⟩), .pointer (some ⟨B, 0, none⟩), .pointer (some ⟨B + 1 + 1 + 1 + 1, 0, none⟩)]) (by simp) (by simp [go_sem]) ?_
                refine (cl1_yes (W := W) ev ⟨HE0.out, h34⟩ (H9.out.1.err ev).lv (by omega) htz ((H9.out.2.1.far (by show M ≠ B + 1 + 1 + 1; have := HV.out.2.2.2.2; omega) _).cell 0) ((H9.out.1.err ev).fr.b3.cell 0) ((H9.out.1.err ev).fr.b0.cell 0) ((H9.out.1.err ev).fr.b4.cell 0)).mono ?_
                rintro e u' w'' ⟨rfl, rfl, hT⟩
                obtain ⟨S10, hR10, _, _⟩ := (H9.out.1.err ev).then_ hT
                refine ⟨.int .i64 ev, res_rep rfl (hR10.fr.b3.cell 0), ?_⟩
                rw [HC.out.2, H.out.2.2.2.2, runK_rem (by rw [HO.out.1]; exact HE0.out) ⟨by decide, by rw [HO.out.1]; exact h34⟩, HO.out.1, HO.out.2]
                exact ⟨rfl, hR10.done (by omega)⟩
          · obtain ⟨ev, hev⟩ : ∃ ev, opE nm tm bs 4 sk = ev := ⟨_, rfl⟩
            obtain ⟨s2, hs2⟩ : ∃ s2, opS nm tm bs 4 sk = s2 := ⟨_, rfl⟩
            have HO := Lib.hid (And.intro hev hs2)
            clear hev hs2
            by_cases he : ev = 0
            · subst he
              go_wp2_with (first
                | (go_at_call 36
                   refine (lv_syncDir H.out.1.lv (by omega)).mono ?_
                   rintro e w9 ⟨rfl, hT⟩
                   rw [show syncDirE sk = 0 from HO.out.1]
                   rw [show syncDirS sk = s2 from HO.out.2] at hT
                   obtain ⟨S9, hR9, hch, hsu⟩ := H.out.1.then_ hT
                   have hbm9 := H.out.2.1.chg hch (H.out.2.2.2.1 M (Nat.le_refl _) (by omega))
                   have hbs9 := H.out.2.2.1.chg hch (H.out.2.2.2.1 (M + 1) (by omega) (by omega))
                   have haw9 := H.out.2.2.2.1.then_ hsu (by have := H.out.2.2.1.lt; omega)
                   have hcm := hbm9.cell
                   have hfm := hbm9.free
                   have hc3 := hR9.fr.b3.cell
                   have hf3 := hR9.fr.b3.free
                   have H9 := Lib.hid (And.intro hR9 (And.intro hbm9 (And.intro hbs9 haw9)))
                   clear hT hR9 hch hsu hbm9 hbs9 haw9 hcs))
              go_roundw
              case rel =>
                have hp := H9.out.1.put (q := M) (by have := HV.out.2.2.2.2; omega) (H9.out.2.2.2 M (Nat.le_refl _) (by omega)) (.bool true)
                refine ⟨5, s2, S9, by omega, by go_num, hp.up (by omega), by simpa using H9.out.2.1.set_ 0 (.bool true), H9.out.2.2.1.far (by show M + 1 ≠ M; omega) _, H9.out.2.2.2, ?_⟩
                rw [H.out.2.2.2.2, runK_ok HO.out.1, HO.out.2]
              case measure => simp [intOf]
            · have heb : (ev != 0) = true := by simpa using he
              have HE0 := Lib.hid he
              clear he
              go_wp2_with (first
                | (go_at_call 36
                   refine (lv_syncDir H.out.1.lv (by omega)).mono ?_
                   rintro e w9 ⟨rfl, hT⟩
                   rw [show syncDirE sk = ev from HO.out.1]
                   rw [show syncDirS sk = s2 from HO.out.2] at hT
                   obtain ⟨S9, hR9, hch, hsu⟩ := H.out.1.then_ hT
                   have hbm9 := H.out.2.1.chg hch (H.out.2.2.2.1 M (Nat.le_refl _) (by omega))
                   have hbs9 := H.out.2.2.1.chg hch (H.out.2.2.2.1 (M + 1) (by omega) (by omega))
                   have haw9 := H.out.2.2.2.1.then_ hsu (by have := H.out.2.2.1.lt; omega)
                   have hcm := hbm9.cell
                   have hfm := hbm9.free
                   have hc3 := hR9.fr.b3.cell
                   have hf3 := hR9.fr.b3.free
                   have H9 := Lib.hid (And.intro hR9 (And.intro hbm9 (And.intro hbs9 haw9)))
                   clear hT hR9 hch hsu hbm9 hbs9 haw9 hcs))
              by_cases h34 : ev = 34
              · 
                refine leaves_cons (f := 27) (args := #[.pointer (some ⟨M, 0, none⟩), .pointer (some ⟨B + 1 + 1 + 1, 0, none⟩), .pointer (some ⟨B, 0, none⟩), .pointer (some ⟨B + 1 + 1 + 1 + 1, 0, none⟩)]) (by simp) (by simp [go_sem]) ?_
                refine (cl1_no true ev (.inr (.inr h34)) ((H9.out.2.1.far (by show M ≠ B + 1 + 1 + 1; have := HV.out.2.2.2.2; omega) _).cell 0) ((H9.out.1.err ev).fr.b3.cell 0)).mono ?_
                rintro e u' w'' ⟨rfl, rfl, rfl⟩
                refine ⟨.int .i64 ev, res_rep rfl ((H9.out.1.err ev).fr.b3.cell 0), ?_⟩
                rw [HC.out.2, H.out.2.2.2.2, runK_err (by rw [HO.out.1]; exact HE0.out) (.inr (by rw [HO.out.1]; exact h34)), HO.out.1, HO.out.2]
                exact ⟨rfl, (H9.out.1.err ev).done (by omega)⟩
              · refine leaves_cons (f := 27) (args := #[.pointer (some ⟨M, 0, none⟩), .pointer (some ⟨B + 1 + 1 + 1, 0, none⟩), .pointer (some ⟨B, 0, none⟩), .pointer (some ⟨B + 1 + 1 + 1 + 1, 0, none⟩)]) (by simp) (by simp [go_sem]) ?_
                refine (cl1_yes (W := W) ev ⟨HE0.out, h34⟩ (H9.out.1.err ev).lv (by omega) htz ((H9.out.2.1.far (by show M ≠ B + 1 + 1 + 1; have := HV.out.2.2.2.2; omega) _).cell 0) ((H9.out.1.err ev).fr.b3.cell 0) ((H9.out.1.err ev).fr.b0.cell 0) ((H9.out.1.err ev).fr.b4.cell 0)).mono ?_
                rintro e u' w'' ⟨rfl, rfl, hT⟩
                obtain ⟨S10, hR10, _, _⟩ := (H9.out.1.err ev).then_ hT
                refine ⟨.int .i64 ev, res_rep rfl (hR10.fr.b3.cell 0), ?_⟩
                rw [HC.out.2, H.out.2.2.2.2, runK_rem (by rw [HO.out.1]; exact HE0.out) ⟨by decide, by rw [HO.out.1]; exact h34⟩, HO.out.1, HO.out.2]
                exact ⟨rfl, hR10.done (by omega)⟩
          · have hc3 := H.out.1.fr.b3.cell
            have hf3 := H.out.1.fr.b3.free
            clear hcs
            go_wp2
            refine leaves_cons (f := 27) (args := #[.pointer (some ⟨M, 0, none⟩), .pointer (some ⟨B + 1 + 1 + 1, 0, none⟩), .pointer (some ⟨B, 0, none⟩), .pointer (some ⟨B + 1 + 1 + 1 + 1, 0, none⟩)]) (by simp) (by simp [go_sem]) ?_
            refine (cl1_no true 0 (.inr (.inl rfl)) ((H.out.2.1.far (by show M ≠ B + 1 + 1 + 1; have := HV.out.2.2.2.2; omega) _).cell 0) ((H.out.1.err 0).fr.b3.cell 0)).mono ?_
            rintro e u' w'' ⟨rfl, rfl, rfl⟩
            refine ⟨.int .i64 0, res_rep rfl ((H.out.1.err 0).fr.b3.cell 0), ?_⟩
            rw [HC.out.2, H.out.2.2.2.2]
            exact ⟨rfl, (H.out.1.err 0).done (by omega)⟩
      · have hrb : (r != 0) = true := by simpa using hr0
        have HQ0 := Lib.hid hr0
        clear hr0
        rcases hx01 with rfl | rfl
        all_goals
        go_wp2_with (first
          | (go_at_call 25
             have z0 := T0
             clear z0
             refine (lv_size nm HR.out.1.lv hnz).mono ?_
             rintro e w6 ⟨rfl, hb6⟩
             rw [HE.out.1]
             have hR6 := HR.out.1.next hb6
             have hc0 := hR6.fr.b0.cell
             have hc4 := hR6.fr.b4.cell
             have hc3 := hR6.fr.b3.cell
             have hf3 := hR6.fr.b3.free
             have H6 := Lib.hid (And.intro hR6 hb6)
             clear hR6 hb6
             have T1 := Lib.hid True.intro
             clear T0)
          | (go_at_call 25
             have z0 := T1
             clear z0
             refine (lv_size tm H6.out.1.lv htz).mono ?_
             rintro e w7 ⟨rfl, hb7⟩
             rw [HE2.out]
             have hR7 := H6.out.1.next hb7
             have hc0 := hR7.fr.b0.cell
             have hc4 := hR7.fr.b4.cell
             have hc3 := hR7.fr.b3.cell
             have hf3 := hR7.fr.b3.free
             have H7 := Lib.hid hR7
             clear hR7 hb7
             have T2 := Lib.hid True.intro
             clear T1)
          | (go_at_call 26
             refine (lv_remove tm H7.out.lv (by omega) htz).mono ?_
             rintro e w8 ⟨rfl, hT⟩
             obtain ⟨S8, hR8, _, _⟩ := H7.out.then_ hT
             rw [HQ.out.1]
             rw [HQ.out.2.1] at hR8
             have hc0 := hR8.fr.b0.cell
             have hc4 := hR8.fr.b4.cell
             have hc3 := hR8.fr.b3.cell
             have hf3 := hR8.fr.b3.free
             have H8 := Lib.hid hR8
             clear hR8 hT))
        refine ⟨.int .i64 r, res_rep rfl ((H8.out.err r).fr.b3.cell 0), ?_⟩
        rw [HQ.out.2.2, if_neg HQ0.out]
        exact ⟨rfl, (H8.out.err r).done (by omega)⟩
    · subst h31
      rcases hx01 with rfl | rfl
      all_goals
      go_upto_region 15 with (first
        | (go_at_call 25
           have z0 := T0
           clear z0
           refine (lv_size nm HR.out.1.lv hnz).mono ?_
           rintro e w6 ⟨rfl, hb6⟩
           rw [HE.out.1]
           have hR6 := HR.out.1.next hb6
           have hc0 := hR6.fr.b0.cell
           have hc4 := hR6.fr.b4.cell
           have hc3 := hR6.fr.b3.cell
           have hf3 := hR6.fr.b3.free
           have H6 := Lib.hid (And.intro hR6 hb6)
           clear hR6 hb6
           have T1 := Lib.hid True.intro
           clear T0)
        | (go_at_call 25
           have z0 := T1
           clear z0
           refine (lv_size tm H6.out.1.lv htz).mono ?_
           rintro e w7 ⟨rfl, hb7⟩
           rw [HE2.out]
           have hR7 := H6.out.1.next hb7
           have hc0 := hR7.fr.b0.cell
           have hc4 := hR7.fr.b4.cell
           have hc3 := hR7.fr.b3.cell
           have hf3 := hR7.fr.b3.free
           have H7 := Lib.hid hR7
           clear hR7 hb7
           have T2 := Lib.hid True.intro
           clear T1))
      have HC := Lib.hid (And.intro ((H7.out).up (show N ≤ N + 1 by omega)) (show replT nm tm bs s = runK nm tm bs 5 0 s from by have := HE.out.2; simpa using this))
      have hl0 := HC.out.1.fr.b0.lt
      go_upto_region 18 with fail
      obtain ⟨M, hM⟩ : ∃ M, w7.heap.size = M := ⟨_, rfl⟩
      have hbm : Box ((w7.alloc (.cells #[.bool false] 4)).alloc (.cells #[.func (.func 28) #[] #[.pointer (some ⟨B, 0, none⟩), .pointer (some ⟨B + 1 + 1 + 1 + 1, 0, none⟩)], .func (.func 30) #[] #[.pointer (some ⟨B, 0, none⟩), .pointer (some ⟨B + 1 + 1 + 1 + 1, 0, none⟩), .pointer (some ⟨B + 1 + 1, 0, none⟩)], .func (.func 32) #[] #[.pointer (some ⟨B, 0, none⟩), .pointer (some ⟨B + 1 + 1 + 1 + 1, 0, none⟩)], .func (.func 34) #[] #[.pointer (some ⟨B, 0, none⟩), .pointer (some ⟨B + 1 + 1 + 1 + 1, 0, none⟩), .pointer (some ⟨B + 1, 0, none⟩)], .func (.func 36) #[.pointer (some ⟨d, 0, none⟩)] #[]] 76)) M 4 #[.bool false] := hM ▸ (Box.new w7 _ _).alloc _
      have hbs : Box ((w7.alloc (.cells #[.bool false] 4)).alloc (.cells #[.func (.func 28) #[] #[.pointer (some ⟨B, 0, none⟩), .pointer (some ⟨B + 1 + 1 + 1 + 1, 0, none⟩)], .func (.func 30) #[] #[.pointer (some ⟨B, 0, none⟩), .pointer (some ⟨B + 1 + 1 + 1 + 1, 0, none⟩), .pointer (some ⟨B + 1 + 1, 0, none⟩)], .func (.func 32) #[] #[.pointer (some ⟨B, 0, none⟩), .pointer (some ⟨B + 1 + 1 + 1 + 1, 0, none⟩)], .func (.func 34) #[] #[.pointer (some ⟨B, 0, none⟩), .pointer (some ⟨B + 1 + 1 + 1 + 1, 0, none⟩), .pointer (some ⟨B + 1, 0, none⟩)], .func (.func 36) #[.pointer (some ⟨d, 0, none⟩)] #[]] 76)) (M + 1) 76 #[.func (.func 28) #[] #[.pointer (some ⟨B, 0, none⟩), .pointer (some ⟨B + 1 + 1 + 1 + 1, 0, none⟩)], .func (.func 30) #[] #[.pointer (some ⟨B, 0, none⟩), .pointer (some ⟨B + 1 + 1 + 1 + 1, 0, none⟩), .pointer (some ⟨B + 1 + 1, 0, none⟩)], .func (.func 32) #[] #[.pointer (some ⟨B, 0, none⟩), .pointer (some ⟨B + 1 + 1 + 1 + 1, 0, none⟩)], .func (.func 34) #[] #[.pointer (some ⟨B, 0, none⟩), .pointer (some ⟨B + 1 + 1 + 1 + 1, 0, none⟩), .pointer (some ⟨B + 1, 0, none⟩)], .func (.func 36) #[.pointer (some ⟨d, 0, none⟩)] #[]] := by
        have := Box.new (w7.alloc (.cells #[.bool false] 4)) 76 #[.func (.func 28) #[] #[.pointer (some ⟨B, 0, none⟩), .pointer (some ⟨B + 1 + 1 + 1 + 1, 0, none⟩)], .func (.func 30) #[] #[.pointer (some ⟨B, 0, none⟩), .pointer (some ⟨B + 1 + 1 + 1 + 1, 0, none⟩), .pointer (some ⟨B + 1 + 1, 0, none⟩)], .func (.func 32) #[] #[.pointer (some ⟨B, 0, none⟩), .pointer (some ⟨B + 1 + 1 + 1 + 1, 0, none⟩)], .func (.func 34) #[] #[.pointer (some ⟨B, 0, none⟩), .pointer (some ⟨B + 1 + 1 + 1 + 1, 0, none⟩), .pointer (some ⟨B + 1, 0, none⟩)], .func (.func 36) #[.pointer (some ⟨d, 0, none⟩)] #[]]
        simp only [World.alloc, Array.size_push] at this ⊢
        rw [hM] at this
        exact this
      have hrc := HC.out.1.next ((Below.al w7 (.cells #[.bool false] 4)).trans ((Below.al (w7.alloc (.cells #[.bool false] 4)) (.cells #[.func (.func 28) #[] #[.pointer (some ⟨B, 0, none⟩), .pointer (some ⟨B + 1 + 1 + 1 + 1, 0, none⟩)], .func (.func 30) #[] #[.pointer (some ⟨B, 0, none⟩), .pointer (some ⟨B + 1 + 1 + 1 + 1, 0, none⟩), .pointer (some ⟨B + 1 + 1, 0, none⟩)], .func (.func 32) #[] #[.pointer (some ⟨B, 0, none⟩), .pointer (some ⟨B + 1 + 1 + 1 + 1, 0, none⟩)], .func (.func 34) #[] #[.pointer (some ⟨B, 0, none⟩), .pointer (some ⟨B + 1 + 1 + 1 + 1, 0, none⟩), .pointer (some ⟨B + 1, 0, none⟩)], .func (.func 36) #[.pointer (some ⟨d, 0, none⟩)] #[]] 76)).mono (by simp)))
      have haw : Aw S M (M + 2) := fun k h1 _ h3 => by have := HC.out.1.lv.1.lt k h3; omega
      have hBM : B + 5 ≤ M := hM ▸ HC.out.1.fr.lt
      rw [hM]
      generalize hwv : ((w7.alloc (.cells #[.bool false] 4)).alloc (.cells #[.func (.func 28) #[] #[.pointer (some ⟨B, 0, none⟩), .pointer (some ⟨B + 1 + 1 + 1 + 1, 0, none⟩)], .func (.func 30) #[] #[.pointer (some ⟨B, 0, none⟩), .pointer (some ⟨B + 1 + 1 + 1 + 1, 0, none⟩), .pointer (some ⟨B + 1 + 1, 0, none⟩)], .func (.func 32) #[] #[.pointer (some ⟨B, 0, none⟩), .pointer (some ⟨B + 1 + 1 + 1 + 1, 0, none⟩)], .func (.func 34) #[] #[.pointer (some ⟨B, 0, none⟩), .pointer (some ⟨B + 1 + 1 + 1 + 1, 0, none⟩), .pointer (some ⟨B + 1, 0, none⟩)], .func (.func 36) #[.pointer (some ⟨d, 0, none⟩)] #[]] 76)) = wv at hbm hbs hrc ⊢
      have HV := Lib.hid (And.intro hrc (And.intro hbm (And.intro hbs (And.intro haw hBM))))
      clear hwv hbm hbs hrc haw hl0 hM hc0 hc4 hc3 hf3
      go_wp2
      go_loopw [63] (fun v63 wr => ∃ (k : Nat) (sk : Dk) (Sk : Nat → Prop), k ≤ 5 ∧ v63 = .int .i64 k ∧ RC W w wr S Sk d sk (N + 1 + k) B nm A n c tm 0 bs ∧ Box wr M 4 #[.bool (decide (0 < k))] ∧ Box wr (M + 1) 76 #[.func (.func 28) #[] #[.pointer (some ⟨B, 0, none⟩), .pointer (some ⟨B + 1 + 1 + 1 + 1, 0, none⟩)], .func (.func 30) #[] #[.pointer (some ⟨B, 0, none⟩), .pointer (some ⟨B + 1 + 1 + 1 + 1, 0, none⟩), .pointer (some ⟨B + 1 + 1, 0, none⟩)], .func (.func 32) #[] #[.pointer (some ⟨B, 0, none⟩), .pointer (some ⟨B + 1 + 1 + 1 + 1, 0, none⟩)], .func (.func 34) #[] #[.pointer (some ⟨B, 0, none⟩), .pointer (some ⟨B + 1 + 1 + 1 + 1, 0, none⟩), .pointer (some ⟨B + 1, 0, none⟩)], .func (.func 36) #[.pointer (some ⟨d, 0, none⟩)] #[]] ∧ Aw Sk M (M + 2) ∧ runK nm tm bs 5 0 s = runK nm tm bs (5 - k) k sk) (fun v63 _ => 5 - (intOf v63).toNat)
      case atStart => exact ⟨0, s, S, by omega, rfl, HV.out.1, HV.out.2.1, HV.out.2.2.1, HV.out.2.2.2.1, rfl⟩
      case round =>
        obtain ⟨k, sk, Sk, hk, rfl, hR, hbm, hbs, haw, hrun⟩ := hrel
        have hcs := hbs.cell
        have H := Lib.hid (And.intro hR (And.intro hbm (And.intro hbs (And.intro haw hrun))))
        clear hR hbm hbs haw hrun
        rcases (show k = 0 ∨ k = 1 ∨ k = 2 ∨ k = 3 ∨ k = 4 ∨ k = 5 by omega) with rfl | rfl | rfl | rfl | rfl | rfl
        · obtain ⟨ev, hev⟩ : ∃ ev, opE nm tm bs 0 sk = ev := ⟨_, rfl⟩
          obtain ⟨s2, hs2⟩ : ∃ s2, opS nm tm bs 0 sk = s2 := ⟨_, rfl⟩
          have HO := Lib.hid (And.intro hev hs2)
          clear hev hs2
          by_cases he : ev = 0
          · subst he
            go_wp2_with (first
              | (go_at_call 28
                 refine (cl2 H.out.1.lv (by omega) htz (H.out.1.fr.b0.cell 0) (H.out.1.fr.b4.cell 0)).mono ?_
                 rintro e w9 ⟨rfl, hT⟩
                 rw [show createE tm sk = 0 from HO.out.1]
                 rw [show createS tm sk = s2 from HO.out.2] at hT
                 obtain ⟨S9, hR9, hch, hsu⟩ := H.out.1.then_ hT
                 have hbm9 := H.out.2.1.chg hch (H.out.2.2.2.1 M (Nat.le_refl _) (by omega))
                 have hbs9 := H.out.2.2.1.chg hch (H.out.2.2.2.1 (M + 1) (by omega) (by omega))
                 have haw9 := H.out.2.2.2.1.then_ hsu (by have := H.out.2.2.1.lt; omega)
                 have hcm := hbm9.cell
                 have hfm := hbm9.free
                 have hc3 := hR9.fr.b3.cell
                 have hf3 := hR9.fr.b3.free
                 have H9 := Lib.hid (And.intro hR9 (And.intro hbm9 (And.intro hbs9 haw9)))
                 clear hT hR9 hch hsu hbm9 hbs9 haw9 hcs))
            go_roundw
            case rel =>
              have hp := H9.out.1.put (q := M) (by have := HV.out.2.2.2.2; omega) (H9.out.2.2.2 M (Nat.le_refl _) (by omega)) (.bool true)
              refine ⟨1, s2, S9, by omega, by go_num, hp.up (by omega), by simpa using H9.out.2.1.set_ 0 (.bool true), H9.out.2.2.1.far (by show M + 1 ≠ M; omega) _, H9.out.2.2.2, ?_⟩
              rw [H.out.2.2.2.2, runK_ok HO.out.1, HO.out.2]
            case measure => simp [intOf]
          · have heb : (ev != 0) = true := by simpa using he
            have HE0 := Lib.hid he
            clear he
            go_wp2_with (first
              | (go_at_call 28
                 refine (cl2 H.out.1.lv (by omega) htz (H.out.1.fr.b0.cell 0) (H.out.1.fr.b4.cell 0)).mono ?_
                 rintro e w9 ⟨rfl, hT⟩
                 rw [show createE tm sk = ev from HO.out.1]
                 rw [show createS tm sk = s2 from HO.out.2] at hT
                 obtain ⟨S9, hR9, hch, hsu⟩ := H.out.1.then_ hT
                 have hbm9 := H.out.2.1.chg hch (H.out.2.2.2.1 M (Nat.le_refl _) (by omega))
                 have hbs9 := H.out.2.2.1.chg hch (H.out.2.2.2.1 (M + 1) (by omega) (by omega))
                 have haw9 := H.out.2.2.2.1.then_ hsu (by have := H.out.2.2.1.lt; omega)
                 have hcm := hbm9.cell
                 have hfm := hbm9.free
                 have hc3 := hR9.fr.b3.cell
                 have hf3 := hR9.fr.b3.free
                 have H9 := Lib.hid (And.intro hR9 (And.intro hbm9 (And.intro hbs9 haw9)))
                 clear hT hR9 hch hsu hbm9 hbs9 haw9 hcs))
            refine leaves_cons (f := 27) (args := #[.pointer (some ⟨M, 0, none⟩), .pointer (some ⟨B + 1 + 1 + 1, 0, none⟩), .pointer (some ⟨B, 0, none⟩), .pointer (some ⟨B + 1 + 1 + 1 + 1, 0, none⟩)]) (by simp) (by simp [go_sem]) ?_
            refine (cl1_no false ev (.inl rfl) ((H9.out.2.1.far (by show M ≠ B + 1 + 1 + 1; have := HV.out.2.2.2.2; omega) _).cell 0) ((H9.out.1.err ev).fr.b3.cell 0)).mono ?_
            rintro e u' w'' ⟨rfl, rfl, rfl⟩
            refine ⟨.int .i64 ev, res_rep rfl ((H9.out.1.err ev).fr.b3.cell 0), ?_⟩
            rw [HC.out.2, H.out.2.2.2.2, runK_err (by rw [HO.out.1]; exact HE0.out) (.inl rfl), HO.out.1, HO.out.2]
            exact ⟨rfl, (H9.out.1.err ev).done (by omega)⟩
        · obtain ⟨ev, hev⟩ : ∃ ev, opE nm tm bs 1 sk = ev := ⟨_, rfl⟩
          obtain ⟨s2, hs2⟩ : ∃ s2, opS nm tm bs 1 sk = s2 := ⟨_, rfl⟩
          have HO := Lib.hid (And.intro hev hs2)
          clear hev hs2
          by_cases he : ev = 0
          · subst he
            go_wp2_with (first
              | (go_at_call 30
                 refine (cl3 H.out.1.lv (by omega) htz H.out.1.out HR.out.2 hm (H.out.1.fr.b0.cell 0) (H.out.1.fr.b4.cell 0) (H.out.1.fr.b2.cell 0)).mono ?_
                 rintro e w9 ⟨rfl, hT⟩
                 rw [show appendE tm bs sk = 0 from HO.out.1]
                 rw [show appendS tm bs sk = s2 from HO.out.2] at hT
                 obtain ⟨S9, hR9, hch, hsu⟩ := H.out.1.then_ hT
                 have hbm9 := H.out.2.1.chg hch (H.out.2.2.2.1 M (Nat.le_refl _) (by omega))
                 have hbs9 := H.out.2.2.1.chg hch (H.out.2.2.2.1 (M + 1) (by omega) (by omega))
                 have haw9 := H.out.2.2.2.1.then_ hsu (by have := H.out.2.2.1.lt; omega)
                 have hcm := hbm9.cell
                 have hfm := hbm9.free
                 have hc3 := hR9.fr.b3.cell
                 have hf3 := hR9.fr.b3.free
                 have H9 := Lib.hid (And.intro hR9 (And.intro hbm9 (And.intro hbs9 haw9)))
                 clear hT hR9 hch hsu hbm9 hbs9 haw9 hcs))
            go_roundw
            case rel =>
              have hp := H9.out.1.put (q := M) (by have := HV.out.2.2.2.2; omega) (H9.out.2.2.2 M (Nat.le_refl _) (by omega)) (.bool true)
              refine ⟨2, s2, S9, by omega, by go_num, hp.up (by omega), by simpa using H9.out.2.1.set_ 0 (.bool true), H9.out.2.2.1.far (by show M + 1 ≠ M; omega) _, H9.out.2.2.2, ?_⟩
              rw [H.out.2.2.2.2, runK_ok HO.out.1, HO.out.2]
            case measure => simp [intOf]
          · have heb : (ev != 0) = true := by simpa using he
            have HE0 := Lib.hid he
            clear he
            go_wp2_with (first
              | (go_at_call 30
                 refine (cl3 H.out.1.lv (by omega) htz H.out.1.out HR.out.2 hm (H.out.1.fr.b0.cell 0) (H.out.1.fr.b4.cell 0) (H.out.1.fr.b2.cell 0)).mono ?_
                 rintro e w9 ⟨rfl, hT⟩
                 rw [show appendE tm bs sk = ev from HO.out.1]
                 rw [show appendS tm bs sk = s2 from HO.out.2] at hT
                 obtain ⟨S9, hR9, hch, hsu⟩ := H.out.1.then_ hT
                 have hbm9 := H.out.2.1.chg hch (H.out.2.2.2.1 M (Nat.le_refl _) (by omega))
                 have hbs9 := H.out.2.2.1.chg hch (H.out.2.2.2.1 (M + 1) (by omega) (by omega))
                 have haw9 := H.out.2.2.2.1.then_ hsu (by have := H.out.2.2.1.lt; omega)
                 have hcm := hbm9.cell
                 have hfm := hbm9.free
                 have hc3 := hR9.fr.b3.cell
                 have hf3 := hR9.fr.b3.free
                 have H9 := Lib.hid (And.intro hR9 (And.intro hbm9 (And.intro hbs9 haw9)))
                 clear hT hR9 hch hsu hbm9 hbs9 haw9 hcs))
            by_cases h34 : ev = 34
            · 
              refine leaves_cons (f := 27) (args := #[.pointer (some ⟨M, 0, none⟩), .pointer (some ⟨B + 1 + 1 + 1, 0, none⟩), .pointer (some ⟨B, 0, none⟩), .pointer (some ⟨B + 1 + 1 + 1 + 1, 0, none⟩)]) (by simp) (by simp [go_sem]) ?_
              refine (cl1_no true ev (.inr (.inr h34)) ((H9.out.2.1.far (by show M ≠ B + 1 + 1 + 1; have := HV.out.2.2.2.2; omega) _).cell 0) ((H9.out.1.err ev).fr.b3.cell 0)).mono ?_
              rintro e u' w'' ⟨rfl, rfl, rfl⟩
              refine ⟨.int .i64 ev, res_rep rfl ((H9.out.1.err ev).fr.b3.cell 0), ?_⟩
              rw [HC.out.2, H.out.2.2.2.2, runK_err (by rw [HO.out.1]; exact HE0.out) (.inr (by rw [HO.out.1]; exact h34)), HO.out.1, HO.out.2]
              exact ⟨rfl, (H9.out.1.err ev).done (by omega)⟩
            · refine leaves_cons (f := 27) (args := #[.pointer (some ⟨M, 0, none⟩), .pointer (some ⟨B + 1 + 1 + 1, 0, none⟩), .pointer (some ⟨B, 0, none⟩), .pointer (some ⟨B + 1 + 1 + 1 + 1, 0, none⟩)]) (by simp) (by simp [go_sem]) ?_
              refine (cl1_yes (W := W) ev ⟨HE0.out, h34⟩ (H9.out.1.err ev).lv (by omega) htz ((H9.out.2.1.far (by show M ≠ B + 1 + 1 + 1; have := HV.out.2.2.2.2; omega) _).cell 0) ((H9.out.1.err ev).fr.b3.cell 0) ((H9.out.1.err ev).fr.b0.cell 0) ((H9.out.1.err ev).fr.b4.cell 0)).mono ?_
              rintro e u' w'' ⟨rfl, rfl, hT⟩
              obtain ⟨S10, hR10, _, _⟩ := (H9.out.1.err ev).then_ hT
              refine ⟨.int .i64 ev, res_rep rfl (hR10.fr.b3.cell 0), ?_⟩
              rw [HC.out.2, H.out.2.2.2.2, runK_rem (by rw [HO.out.1]; exact HE0.out) ⟨by decide, by rw [HO.out.1]; exact h34⟩, HO.out.1, HO.out.2]
              exact ⟨rfl, hR10.done (by omega)⟩
        · obtain ⟨ev, hev⟩ : ∃ ev, opE nm tm bs 2 sk = ev := ⟨_, rfl⟩
          obtain ⟨s2, hs2⟩ : ∃ s2, opS nm tm bs 2 sk = s2 := ⟨_, rfl⟩
          have HO := Lib.hid (And.intro hev hs2)
          clear hev hs2
          by_cases he : ev = 0
          · subst he
            go_wp2_with (first
              | (go_at_call 32
                 refine (cl4 H.out.1.lv (by omega) htz (H.out.1.fr.b0.cell 0) (H.out.1.fr.b4.cell 0)).mono ?_
                 rintro e w9 ⟨rfl, hT⟩
                 rw [show syncE tm sk = 0 from HO.out.1]
                 rw [show syncS tm sk = s2 from HO.out.2] at hT
                 obtain ⟨S9, hR9, hch, hsu⟩ := H.out.1.then_ hT
                 have hbm9 := H.out.2.1.chg hch (H.out.2.2.2.1 M (Nat.le_refl _) (by omega))
                 have hbs9 := H.out.2.2.1.chg hch (H.out.2.2.2.1 (M + 1) (by omega) (by omega))
                 have haw9 := H.out.2.2.2.1.then_ hsu (by have := H.out.2.2.1.lt; omega)
                 have hcm := hbm9.cell
                 have hfm := hbm9.free
                 have hc3 := hR9.fr.b3.cell
                 have hf3 := hR9.fr.b3.free
                 have H9 := Lib.hid (And.intro hR9 (And.intro hbm9 (And.intro hbs9 haw9)))
                 clear hT hR9 hch hsu hbm9 hbs9 haw9 hcs))
            go_roundw
            case rel =>
              have hp := H9.out.1.put (q := M) (by have := HV.out.2.2.2.2; omega) (H9.out.2.2.2 M (Nat.le_refl _) (by omega)) (.bool true)
              refine ⟨3, s2, S9, by omega, by go_num, hp.up (by omega), by simpa using H9.out.2.1.set_ 0 (.bool true), H9.out.2.2.1.far (by show M + 1 ≠ M; omega) _, H9.out.2.2.2, ?_⟩
              rw [H.out.2.2.2.2, runK_ok HO.out.1, HO.out.2]
            case measure => simp [intOf]
          · have heb : (ev != 0) = true := by simpa using he
            have HE0 := Lib.hid he
            clear he
            go_wp2_with (first
              | (go_at_call 32
                 refine (cl4 H.out.1.lv (by omega) htz (H.out.1.fr.b0.cell 0) (H.out.1.fr.b4.cell 0)).mono ?_
                 rintro e w9 ⟨rfl, hT⟩
                 rw [show syncE tm sk = ev from HO.out.1]
                 rw [show syncS tm sk = s2 from HO.out.2] at hT
                 obtain ⟨S9, hR9, hch, hsu⟩ := H.out.1.then_ hT
                 have hbm9 := H.out.2.1.chg hch (H.out.2.2.2.1 M (Nat.le_refl _) (by omega))
                 have hbs9 := H.out.2.2.1.chg hch (H.out.2.2.2.1 (M + 1) (by omega) (by omega))
                 have haw9 := H.out.2.2.2.1.then_ hsu (by have := H.out.2.2.1.lt; omega)
                 have hcm := hbm9.cell
                 have hfm := hbm9.free
                 have hc3 := hR9.fr.b3.cell
                 have hf3 := hR9.fr.b3.free
                 have H9 := Lib.hid (And.intro hR9 (And.intro hbm9 (And.intro hbs9 haw9)))
                 clear hT hR9 hch hsu hbm9 hbs9 haw9 hcs))
            by_cases h34 : ev = 34
            · 
              refine leaves_cons (f := 27) (args := #[.pointer (some ⟨M, 0, none⟩), .pointer (some ⟨B + 1 + 1 + 1, 0, none⟩), .pointer (some ⟨B, 0, none⟩), .pointer (some ⟨B + 1 + 1 + 1 + 1, 0, none⟩)]) (by simp) (by simp [go_sem]) ?_
              refine (cl1_no true ev (.inr (.inr h34)) ((H9.out.2.1.far (by show M ≠ B + 1 + 1 + 1; have := HV.out.2.2.2.2; omega) _).cell 0) ((H9.out.1.err ev).fr.b3.cell 0)).mono ?_
              rintro e u' w'' ⟨rfl, rfl, rfl⟩
              refine ⟨.int .i64 ev, res_rep rfl ((H9.out.1.err ev).fr.b3.cell 0), ?_⟩
              rw [HC.out.2, H.out.2.2.2.2, runK_err (by rw [HO.out.1]; exact HE0.out) (.inr (by rw [HO.out.1]; exact h34)), HO.out.1, HO.out.2]
              exact ⟨rfl, (H9.out.1.err ev).done (by omega)⟩
            · refine leaves_cons (f := 27) (args := #[.pointer (some ⟨M, 0, none⟩), .pointer (some ⟨B + 1 + 1 + 1, 0, none⟩), .pointer (some ⟨B, 0, none⟩), .pointer (some ⟨B + 1 + 1 + 1 + 1, 0, none⟩)]) (by simp) (by simp [go_sem]) ?_
              refine (cl1_yes (W := W) ev ⟨HE0.out, h34⟩ (H9.out.1.err ev).lv (by omega) htz ((H9.out.2.1.far (by show M ≠ B + 1 + 1 + 1; have := HV.out.2.2.2.2; omega) _).cell 0) ((H9.out.1.err ev).fr.b3.cell 0) ((H9.out.1.err ev).fr.b0.cell 0) ((H9.out.1.err ev).fr.b4.cell 0)).mono ?_
              rintro e u' w'' ⟨rfl, rfl, hT⟩
              obtain ⟨S10, hR10, _, _⟩ := (H9.out.1.err ev).then_ hT
              refine ⟨.int .i64 ev, res_rep rfl (hR10.fr.b3.cell 0), ?_⟩
              rw [HC.out.2, H.out.2.2.2.2, runK_rem (by rw [HO.out.1]; exact HE0.out) ⟨by decide, by rw [HO.out.1]; exact h34⟩, HO.out.1, HO.out.2]
              exact ⟨rfl, hR10.done (by omega)⟩
        · obtain ⟨ev, hev⟩ : ∃ ev, opE nm tm bs 3 sk = ev := ⟨_, rfl⟩
          obtain ⟨s2, hs2⟩ : ∃ s2, opS nm tm bs 3 sk = s2 := ⟨_, rfl⟩
          have HO := Lib.hid (And.intro hev hs2)
          clear hev hs2
          by_cases he : ev = 0
          · subst he
            go_wp2_with (first
              | (go_at_call 34
                 refine (cl5 H.out.1.lv (by omega) htz hnz (H.out.1.fr.b0.cell 0) (H.out.1.fr.b4.cell 0) (H.out.1.fr.b1.cell 0)).mono ?_
                 rintro e w9 ⟨rfl, hT⟩
                 rw [show renameE tm nm sk = 0 from HO.out.1]
                 rw [show renameS tm nm sk = s2 from HO.out.2] at hT
                 obtain ⟨S9, hR9, hch, hsu⟩ := H.out.1.then_ hT
                 have hbm9 := H.out.2.1.chg hch (H.out.2.2.2.1 M (Nat.le_refl _) (by omega))
                 have hbs9 := H.out.2.2.1.chg hch (H.out.2.2.2.1 (M + 1) (by omega) (by omega))
                 have haw9 := H.out.2.2.2.1.then_ hsu (by have := H.out.2.2.1.lt; omega)
                 have hcm := hbm9.cell
                 have hfm := hbm9.free
                 have hc3 := hR9.fr.b3.cell
                 have hf3 := hR9.fr.b3.free
                 have H9 := Lib.hid (And.intro hR9 (And.intro hbm9 (And.intro hbs9 haw9)))
                 clear hT hR9 hch hsu hbm9 hbs9 haw9 hcs))
            go_roundw
            case rel =>
              have hp := H9.out.1.put (q := M) (by have := HV.out.2.2.2.2; omega) (H9.out.2.2.2 M (Nat.le_refl _) (by omega)) (.bool true)
              refine ⟨4, s2, S9, by omega, by go_num, hp.up (by omega), by simpa using H9.out.2.1.set_ 0 (.bool true), H9.out.2.2.1.far (by show M + 1 ≠ M; omega) _, H9.out.2.2.2, ?_⟩
              rw [H.out.2.2.2.2, runK_ok HO.out.1, HO.out.2]
            case measure => simp [intOf]
          · have heb : (ev != 0) = true := by simpa using he
            have HE0 := Lib.hid he
            clear he
            go_wp2_with (first
              | (go_at_call 34
                 refine (cl5 H.out.1.lv (by omega) htz hnz (H.out.1.fr.b0.cell 0) (H.out.1.fr.b4.cell 0) (H.out.1.fr.b1.cell 0)).mono ?_
                 rintro e w9 ⟨rfl, hT⟩
                 rw [show renameE tm nm sk = ev from HO.out.1]
                 rw [show renameS tm nm sk = s2 from HO.out.2] at hT
                 obtain ⟨S9, hR9, hch, hsu⟩ := H.out.1.then_ hT
                 have hbm9 := H.out.2.1.chg hch (H.out.2.2.2.1 M (Nat.le_refl _) (by omega))
                 have hbs9 := H.out.2.2.1.chg hch (H.out.2.2.2.1 (M + 1) (by omega) (by omega))
                 have haw9 := H.out.2.2.2.1.then_ hsu (by have := H.out.2.2.1.lt; omega)
                 have hcm := hbm9.cell
                 have hfm := hbm9.free
                 have hc3 := hR9.fr.b3.cell
                 have hf3 := hR9.fr.b3.free
                 have H9 := Lib.hid (And.intro hR9 (And.intro hbm9 (And.intro hbs9 haw9)))
                 clear hT hR9 hch hsu hbm9 hbs9 haw9 hcs))
            by_cases h34 : ev = 34
            · 
              refine leaves_cons (f := 27) (args := #[.pointer (some ⟨M, 0, none⟩), .pointer (some ⟨B + 1 + 1 + 1, 0, none⟩), .pointer (some ⟨B, 0, none⟩), .pointer (some ⟨B + 1 + 1 + 1 + 1, 0, none⟩)]) (by simp) (by simp [go_sem]) ?_
              refine (cl1_no true ev (.inr (.inr h34)) ((H9.out.2.1.far (by show M ≠ B + 1 + 1 + 1; have := HV.out.2.2.2.2; omega) _).cell 0) ((H9.out.1.err ev).fr.b3.cell 0)).mono ?_
              rintro e u' w'' ⟨rfl, rfl, rfl⟩
              refine ⟨.int .i64 ev, res_rep rfl ((H9.out.1.err ev).fr.b3.cell 0), ?_⟩
              rw [HC.out.2, H.out.2.2.2.2, runK_err (by rw [HO.out.1]; exact HE0.out) (.inr (by rw [HO.out.1]; exact h34)), HO.out.1, HO.out.2]
              exact ⟨rfl, (H9.out.1.err ev).done (by omega)⟩
            · refine leaves_cons (f := 27) (args := #[.pointer (some ⟨M, 0, none⟩), .pointer (some ⟨B + 1 + 1 + 1, 0, none⟩), .pointer (some ⟨B, 0, none⟩), .pointer (some ⟨B + 1 + 1 + 1 + 1, 0, none⟩)]) (by simp) (by simp [go_sem]) ?_
              refine (cl1_yes (W := W) ev ⟨HE0.out, h34⟩ (H9.out.1.err ev).lv (by omega) htz ((H9.out.2.1.far (by show M ≠ B + 1 + 1 + 1; have := HV.out.2.2.2.2; omega) _).cell 0) ((H9.out.1.err ev).fr.b3.cell 0) ((H9.out.1.err ev).fr.b0.cell 0) ((H9.out.1.err ev).fr.b4.cell 0)).mono ?_
              rintro e u' w'' ⟨rfl, rfl, hT⟩
              obtain ⟨S10, hR10, _, _⟩ := (H9.out.1.err ev).then_ hT
              refine ⟨.int .i64 ev, res_rep rfl (hR10.fr.b3.cell 0), ?_⟩
              rw [HC.out.2, H.out.2.2.2.2, runK_rem (by rw [HO.out.1]; exact HE0.out) ⟨by decide, by rw [HO.out.1]; exact h34⟩, HO.out.1, HO.out.2]
              exact ⟨rfl, hR10.done (by omega)⟩
        · obtain ⟨ev, hev⟩ : ∃ ev, opE nm tm bs 4 sk = ev := ⟨_, rfl⟩
          obtain ⟨s2, hs2⟩ : ∃ s2, opS nm tm bs 4 sk = s2 := ⟨_, rfl⟩
          have HO := Lib.hid (And.intro hev hs2)
          clear hev hs2
          by_cases he : ev = 0
          · subst he
            go_wp2_with (first
              | (go_at_call 36
                 refine (lv_syncDir H.out.1.lv (by omega)).mono ?_
                 rintro e w9 ⟨rfl, hT⟩
                 rw [show syncDirE sk = 0 from HO.out.1]
                 rw [show syncDirS sk = s2 from HO.out.2] at hT
                 obtain ⟨S9, hR9, hch, hsu⟩ := H.out.1.then_ hT
                 have hbm9 := H.out.2.1.chg hch (H.out.2.2.2.1 M (Nat.le_refl _) (by omega))
                 have hbs9 := H.out.2.2.1.chg hch (H.out.2.2.2.1 (M + 1) (by omega) (by omega))
                 have haw9 := H.out.2.2.2.1.then_ hsu (by have := H.out.2.2.1.lt; omega)
                 have hcm := hbm9.cell
                 have hfm := hbm9.free
                 have hc3 := hR9.fr.b3.cell
                 have hf3 := hR9.fr.b3.free
                 have H9 := Lib.hid (And.intro hR9 (And.intro hbm9 (And.intro hbs9 haw9)))
                 clear hT hR9 hch hsu hbm9 hbs9 haw9 hcs))
            go_roundw
            case rel =>
              have hp := H9.out.1.put (q := M) (by have := HV.out.2.2.2.2; omega) (H9.out.2.2.2 M (Nat.le_refl _) (by omega)) (.bool true)
              refine ⟨5, s2, S9, by omega, by go_num, hp.up (by omega), by simpa using H9.out.2.1.set_ 0 (.bool true), H9.out.2.2.1.far (by show M + 1 ≠ M; omega) _, H9.out.2.2.2, ?_⟩
              rw [H.out.2.2.2.2, runK_ok HO.out.1, HO.out.2]
            case measure => simp [intOf]
          · have heb : (ev != 0) = true := by simpa using he
            have HE0 := Lib.hid he
            clear he
            go_wp2_with (first
              | (go_at_call 36
                 refine (lv_syncDir H.out.1.lv (by omega)).mono ?_
                 rintro e w9 ⟨rfl, hT⟩
                 rw [show syncDirE sk = ev from HO.out.1]
                 rw [show syncDirS sk = s2 from HO.out.2] at hT
                 obtain ⟨S9, hR9, hch, hsu⟩ := H.out.1.then_ hT
                 have hbm9 := H.out.2.1.chg hch (H.out.2.2.2.1 M (Nat.le_refl _) (by omega))
                 have hbs9 := H.out.2.2.1.chg hch (H.out.2.2.2.1 (M + 1) (by omega) (by omega))
                 have haw9 := H.out.2.2.2.1.then_ hsu (by have := H.out.2.2.1.lt; omega)
                 have hcm := hbm9.cell
                 have hfm := hbm9.free
                 have hc3 := hR9.fr.b3.cell
                 have hf3 := hR9.fr.b3.free
                 have H9 := Lib.hid (And.intro hR9 (And.intro hbm9 (And.intro hbs9 haw9)))
                 clear hT hR9 hch hsu hbm9 hbs9 haw9 hcs))
            by_cases h34 : ev = 34
            · 
              refine leaves_cons (f := 27) (args := #[.pointer (some ⟨M, 0, none⟩), .pointer (some ⟨B + 1 + 1 + 1, 0, none⟩), .pointer (some ⟨B, 0, none⟩), .pointer (some ⟨B + 1 + 1 + 1 + 1, 0, none⟩)]) (by simp) (by simp [go_sem]) ?_
              refine (cl1_no true ev (.inr (.inr h34)) ((H9.out.2.1.far (by show M ≠ B + 1 + 1 + 1; have := HV.out.2.2.2.2; omega) _).cell 0) ((H9.out.1.err ev).fr.b3.cell 0)).mono ?_
              rintro e u' w'' ⟨rfl, rfl, rfl⟩
              refine ⟨.int .i64 ev, res_rep rfl ((H9.out.1.err ev).fr.b3.cell 0), ?_⟩
              rw [HC.out.2, H.out.2.2.2.2, runK_err (by rw [HO.out.1]; exact HE0.out) (.inr (by rw [HO.out.1]; exact h34)), HO.out.1, HO.out.2]
              exact ⟨rfl, (H9.out.1.err ev).done (by omega)⟩
            · refine leaves_cons (f := 27) (args := #[.pointer (some ⟨M, 0, none⟩), .pointer (some ⟨B + 1 + 1 + 1, 0, none⟩), .pointer (some ⟨B, 0, none⟩), .pointer (some ⟨B + 1 + 1 + 1 + 1, 0, none⟩)]) (by simp) (by simp [go_sem]) ?_
              refine (cl1_yes (W := W) ev ⟨HE0.out, h34⟩ (H9.out.1.err ev).lv (by omega) htz ((H9.out.2.1.far (by show M ≠ B + 1 + 1 + 1; have := HV.out.2.2.2.2; omega) _).cell 0) ((H9.out.1.err ev).fr.b3.cell 0) ((H9.out.1.err ev).fr.b0.cell 0) ((H9.out.1.err ev).fr.b4.cell 0)).mono ?_
              rintro e u' w'' ⟨rfl, rfl, hT⟩
              obtain ⟨S10, hR10, _, _⟩ := (H9.out.1.err ev).then_ hT
              refine ⟨.int .i64 ev, res_rep rfl (hR10.fr.b3.cell 0), ?_⟩
              rw [HC.out.2, H.out.2.2.2.2, runK_rem (by rw [HO.out.1]; exact HE0.out) ⟨by decide, by rw [HO.out.1]; exact h34⟩, HO.out.1, HO.out.2]
              exact ⟨rfl, hR10.done (by omega)⟩
        · have hc3 := H.out.1.fr.b3.cell
          have hf3 := H.out.1.fr.b3.free
          clear hcs
          go_wp2
          refine leaves_cons (f := 27) (args := #[.pointer (some ⟨M, 0, none⟩), .pointer (some ⟨B + 1 + 1 + 1, 0, none⟩), .pointer (some ⟨B, 0, none⟩), .pointer (some ⟨B + 1 + 1 + 1 + 1, 0, none⟩)]) (by simp) (by simp [go_sem]) ?_
          refine (cl1_no true 0 (.inr (.inl rfl)) ((H.out.2.1.far (by show M ≠ B + 1 + 1 + 1; have := HV.out.2.2.2.2; omega) _).cell 0) ((H.out.1.err 0).fr.b3.cell 0)).mono ?_
          rintro e u' w'' ⟨rfl, rfl, rfl⟩
          refine ⟨.int .i64 0, res_rep rfl ((H.out.1.err 0).fr.b3.cell 0), ?_⟩
          rw [HC.out.2, H.out.2.2.2.2]
          exact ⟨rfl, (H.out.1.err 0).done (by omega)⟩
    · have hz0 : (e2 == 0) = false := by simpa using h0
      have hz31 : (e2 == 31) = false := by simpa using h31
      have hrep : replT nm tm bs s = (e2, s) := by rw [HE.out.2, if_neg h0, if_neg h31]
      have HQ := Lib.hid hrep
      clear hrep h0 h31
      rcases hx01 with rfl | rfl
      all_goals
      go_wp2_with (first
        | (go_at_call 25
           have z0 := T0
           clear z0
           refine (lv_size nm HR.out.1.lv hnz).mono ?_
           rintro e w6 ⟨rfl, hb6⟩
           rw [HE.out.1]
           have hR6 := HR.out.1.next hb6
           have hc0 := hR6.fr.b0.cell
           have hc4 := hR6.fr.b4.cell
           have hc3 := hR6.fr.b3.cell
           have hf3 := hR6.fr.b3.free
           have H6 := Lib.hid (And.intro hR6 hb6)
           clear hR6 hb6
           have T1 := Lib.hid True.intro
           clear T0)
        | (go_at_call 25
           have z0 := T1
           clear z0
           refine (lv_size tm H6.out.1.lv htz).mono ?_
           rintro e w7 ⟨rfl, hb7⟩
           rw [HE2.out]
           have hR7 := H6.out.1.next hb7
           have hc0 := hR7.fr.b0.cell
           have hc4 := hR7.fr.b4.cell
           have hc3 := hR7.fr.b3.cell
           have hf3 := hR7.fr.b3.free
           have H7 := Lib.hid hR7
           clear hR7 hb7
           have T2 := Lib.hid True.intro
           clear T1))
      refine ⟨.int .i64 e2, res_rep rfl ((H7.out.err e2).fr.b3.cell 0), ?_⟩
      rw [HQ.out]
      exact ⟨rfl, (H7.out.err e2).done (by omega)⟩
end Go.Proofs.Ytebeefkibbbkdaa
/- Load of an image that may be. -/
namespace Go.Proofs.Ytebeefkibbbkdaa
open Go.RowKit Go.Maps

theorem LdOk.take {q : Int} {fs : List FE} (h : LdOk q fs) (j : Nat) : LdOk q (fs.take j) :=
  ⟨h.q, asc_take h.asc j, fun p hp => h.names p (List.mem_of_mem_take hp), by rw [List.length_take]; have := h.few; omega, Nat.le_trans (sumL_take fs j) h.sum⟩
section
variable {P : Program} {ops : Array Oper} {Q : Exit → Act → World → Prop} {md : Region.Mode} {S : World → Prop}
theorem hold_take (i : Nat) {oi : Oper} {v : Value} {fuel : Nat} {listed : Array Bool} {a : Act} {w : World} (hi : ops.toList[i]? = some oi)
    (hs : Region.noSelect ops = true) (hf : Region.free md ops listed i = true) (hr : (Region.ready md ops listed).contains i = true)
    (hQ : ∀ c a w, Q (.panic c) (a.put oi.dst v) w → Q (.panic c) a w) (hy : YieldsIf P ops S oi v a) (hS : S w)
    (h : wpAnyH P md ops Q S fuel (listed.setIfInBounds i true) (a.put oi.dst v) w) : wpAnyH P md ops Q S (fuel + 1) listed a w :=
  wpAnyH_take (by rw [← hi, Array.getElem?_toList]) hs hf hr hQ hy hS h
theorem hold_step (i : Nat) {o : Oper} {fuel : Nat} {listed : Array Bool} {a : Act} {w : World} (hi : ops.toList[i]? = some o) (hr : Region.ready md ops listed = [i])
    (h : ∀ K' : Act → World → Prop, Hid (∀ a w, S w → wpAnyH P md ops Q S fuel (listed.setIfInBounds i true) a w → K' a w) → if Region.wanted o (yielded ops a.tmps) = true then Oper.wp P o a w K' Q else K' (a.put o.dst undef) w) : wpAnyH P md ops Q S (fuel + 1) listed a w :=
  wpAnyH_ready hr (by simp) (AllReadyH.cons (by rw [← hi, Array.getElem?_toList]) (fun K' hK => h K' (Lib.hid fun a w h1 h2 => hK.out a w h1 fun _ => h2)) AllReadyH.nil)
end
set_option maxRecDepth 100000 in
set_option maxHeartbeats 16000000 in
theorem load_ok (q : Int) (fs : List FE) (A : Option Addr) (n c : Nat) (w : World) (h : LdOk q fs) (hn : fs.length = n) (hI : IM w w.heap.size A fs) :
    Calls Try.prog 14 #[.slice A n c, .int .i64 q] w fun e w' => ∃ d S, e = .returned (.tuple #[.pointer (some ⟨d, 0, none⟩), .int .i64 0]) ∧ Disk w' S d (ldS q fs) ∧ (∀ b, S b → w.heap.size ≤ b) ∧ Below w.heap.size w w' := by
  have hnm : n ≤ 65536 := by rw [← hn]; exact h.few
  have hqd := Lib.hid (show qOk q = true from decide_eq_true h.q)
  have H := Lib.hid (And.intro h (And.intro hn hI))
  clear h hn hI
  go_enter Try.func14, Try.ntmps14
  go_wp2_with (first
    | (go_at_call 42
       refine (goodQuota_any q _).mono ?_
       rintro e w1 ⟨rfl, hw⟩
       have hw1 := hw.symm
       subst hw1
       rw [hqd.out])
    | (go_at_call 43
       refine (fresh_any q _).mono ?_
       rintro e w1 ⟨d, S0, rfl, h0, h1, h2⟩
       have H1 := Lib.hid (And.intro h0 (And.intro h1 h2))
       clear h0 h1 h2))
  obtain ⟨L0, fb0, ms, mf, vc, hD0, hS0⟩ := H1.out.1
  have HD0 := Lib.hid (And.intro hD0 hS0)
  clear hD0 hS0
  go_loopw [20] (fun i wr => ∃ (j : Nat) (L : Nat → Nat) (fb : List Nat), j ≤ n ∧ i = .int .i64 j ∧ DM wr L d fb (ldS q (fs.take j)) ms mf vc ∧ (∀ b, L b ≠ 0 → w.heap.size ≤ b) ∧ Below w.heap.size w wr) (fun i _ => n - (intOf i).toNat)
  case atStart => exact ⟨0, L0, fb0, Nat.zero_le _, rfl, HD0.out.1, fun b hb => H1.out.2.1 b ((HD0.out.2 b).2 hb), H1.out.2.2⟩
  case round =>
    obtain ⟨j, L, fb, hj, rfl, hD, hL, hB⟩ := hrel
    by_cases hlt : j < n
    · have hj0 : (0 : Int) ≤ j := by omega
      have hj1 : (j : Int) < n := by omega
      obtain ⟨p, hp⟩ : ∃ p, fs[j]? = some p := ⟨_, List.getElem?_eq_getElem (by rw [H.out.2.1]; exact hlt)⟩
      have hIw := H.out.2.2.below hB
      obtain ⟨ad, x, cx, rfl, had, c0, c1, hrx⟩ := hIw j p hp
      have hpm := List.mem_of_getElem? hp
      have hgn := H.out.1.names p hpm
      have hst : fs.take (j + 1) = fs.take j ++ [p] := by
        obtain ⟨hl, e⟩ := List.getElem?_eq_some_iff.1 hp
        rw [← e]
        exact List.take_succ_eq_append_getElem hl
      obtain ⟨nm, bs⟩ := p
      obtain ⟨m, hm⟩ : ∃ m, bs.length = m := ⟨_, rfl⟩
      have hmx : m ≤ 1073741824 := by have h1 := sumL_mem hpm; have h2 := H.out.1.sum; simp only at h1; omega
      simp only at c0 c1 hrx hgn
      rw [hm] at c1
      have HP := Lib.hid (And.intro hp (And.intro hrx (And.intro hgn (And.intro hst hm))))
      have HDD := Lib.hid (And.intro hD (And.intro hL hB))
      clear hD hL hB hIw hpm hgn hst hp hrx hm
      have hxb := (Box.new wr 37 #[.string nm, .slice x m cx])
      have HX := Lib.hid hxb
      clear hxb
      have hx0 := HX.out.cell
      go_upto_region 9 with fail
      go_cut [43] (fun s43 wx => s43 = .bool false ∧ Below (wr.alloc (.cells #[.string nm, .slice x m cx] 37)).heap.size (wr.alloc (.cells #[.string nm, .slice x m cx] 37)) wx)
      case first =>
        by_cases hj2 : j = 0
        · have hS1 : (wr.alloc (.cells #[.string nm, .slice x m cx] 37)).drew.cell? ⟨wr.heap.size, 0, none⟩ = some (.string nm) := HX.out.cell 0
          have hjn : ¬ ((j : Int) > 0) := by omega
          have hjn2 : ¬ (0 < j) := by omega
          clear hj2
          refine wp_region_held_drew (S := fun w' => w'.cell? ⟨wr.heap.size, 0, none⟩ = some (.string nm)) (by kernel_rfl) hS1 fun _ => ?_
          refine hold_take 0 (v := ?_) rfl (by kernel_rfl) (by kernel_rfl) (by kernel_rfl) (fun _ _ _ h => h) (Or.inl ⟨by rfl, ?hy⟩) hS1 ?_
          case hy => first | (intro w hSw; go_simp; done) | (intro w hSw; go_simp; with_reducible rfl)
          simp only [Act.put, List.setIfInBounds_toArray, List.set_cons_zero, List.set_cons_succ]
          refine hold_take 1 (v := ?_) rfl (by kernel_rfl) (by kernel_rfl) (by kernel_rfl) (fun _ _ _ h => h) (Or.inl ⟨by rfl, ?hy⟩) hS1 ?_
          case hy => first | (intro w hSw; go_simp; done) | (intro w hSw; go_simp; with_reducible rfl)
          simp only [Act.put, List.setIfInBounds_toArray, List.set_cons_zero, List.set_cons_succ]
          refine hold_step 2 rfl (by kernel_rfl) fun K hK => ?_
          go_simp
          go_at_call 44
          refine (goodName_any nm _ (by have := (goodN_size HP.out.2.2.1).2; unfold maxLen; omega)).mono ?_
          rintro e w2 ⟨rfl, hb2⟩
          rw [HP.out.2.2.1]
          have hX2 := (show Box (wr.alloc (.cells #[.string nm, .slice x m cx] 37)).drew _ _ _ from HX.out).next hb2
          have hS2 : w2.cell? ⟨wr.heap.size, 0, none⟩ = some (.string nm) := hX2.cell 0
          have H2 := Lib.hid (And.intro hX2 hb2)
          clear hX2 hb2
          go_simp
          refine hK.out _ _ hS2 ?_
          clear hK K
          refine hold_take 3 (v := ?_) rfl (by kernel_rfl) (by kernel_rfl) (by kernel_rfl) (fun _ _ _ h => h) (Or.inl ⟨by rfl, ?hy⟩) hS2 ?_
          case hy => first | (intro w hSw; go_simp; done) | (intro w hSw; go_simp; with_reducible rfl)
          simp only [Act.put, List.setIfInBounds_toArray, List.set_cons_zero, List.set_cons_succ]
          refine hold_take 4 (v := ?_) rfl (by kernel_rfl) (by kernel_rfl) (by kernel_rfl) (fun _ _ _ h => h) (Or.inl ⟨by rfl, ?hy⟩) hS2 ?_
          case hy => first | (intro w hSw; go_simp; done) | (intro w hSw; go_simp; with_reducible rfl)
          simp only [Act.put, List.setIfInBounds_toArray, List.set_cons_zero, List.set_cons_succ]
          refine hold_take 5 (v := ?_) rfl (by kernel_rfl) (by kernel_rfl) (by kernel_rfl) (fun _ _ _ h => h) (Or.inl ⟨by rfl, ?hy⟩) hS2 ?_
          case hy => first | (intro w hSw; go_simp; done) | (intro w hSw; go_simp; with_reducible rfl)
          simp only [Act.put, List.setIfInBounds_toArray, List.set_cons_zero, List.set_cons_succ]
          refine hold_take 6 (v := ?_) rfl (by kernel_rfl) (by kernel_rfl) (by kernel_rfl) (fun _ _ _ h => h) (Or.inl ⟨by rfl, ?hy⟩) hS2 ?_
          case hy => first | (intro w hSw; go_simp; done) | (intro w hSw; go_simp; with_reducible rfl)
          simp only [Act.put, List.setIfInBounds_toArray, List.set_cons_zero, List.set_cons_succ]
          refine hold_take 7 (v := ?_) rfl (by kernel_rfl) (by kernel_rfl) (by kernel_rfl) (fun _ _ _ h => h) (Or.inl ⟨by rfl, ?hy⟩) hS2 ?_
          case hy => first | (intro w hSw; go_simp; done) | (intro w hSw; go_simp; with_reducible rfl)
          simp only [Act.put, List.setIfInBounds_toArray, List.set_cons_zero, List.set_cons_succ]
          refine hold_take 8 (v := undef) rfl (by kernel_rfl) (by kernel_rfl) (by kernel_rfl) (fun _ _ _ h => h) (Or.inr ⟨by rfl, rfl⟩) hS2 ?_
          simp only [Act.put, List.setIfInBounds_toArray, List.set_cons_zero, List.set_cons_succ]
          refine hold_take 9 (v := undef) rfl (by kernel_rfl) (by kernel_rfl) (by kernel_rfl) (fun _ _ _ h => h) (Or.inr ⟨by rfl, rfl⟩) hS2 ?_
          simp only [Act.put, List.setIfInBounds_toArray, List.set_cons_zero, List.set_cons_succ]
          refine hold_take 10 (v := undef) rfl (by kernel_rfl) (by kernel_rfl) (by kernel_rfl) (fun _ _ _ h => h) (Or.inr ⟨by rfl, rfl⟩) hS2 ?_
          simp only [Act.put, List.setIfInBounds_toArray, List.set_cons_zero, List.set_cons_succ]
          refine hold_take 11 (v := undef) rfl (by kernel_rfl) (by kernel_rfl) (by kernel_rfl) (fun _ _ _ h => h) (Or.inr ⟨by rfl, rfl⟩) hS2 ?_
          simp only [Act.put, List.setIfInBounds_toArray, List.set_cons_zero, List.set_cons_succ]
          refine hold_take 12 (v := undef) rfl (by kernel_rfl) (by kernel_rfl) (by kernel_rfl) (fun _ _ _ h => h) (Or.inr ⟨by rfl, rfl⟩) hS2 ?_
          simp only [Act.put, List.setIfInBounds_toArray, List.set_cons_zero, List.set_cons_succ]
          refine hold_take 13 (v := undef) rfl (by kernel_rfl) (by kernel_rfl) (by kernel_rfl) (fun _ _ _ h => h) (Or.inr ⟨by rfl, rfl⟩) hS2 ?_
          simp only [Act.put, List.setIfInBounds_toArray, List.set_cons_zero, List.set_cons_succ]
          refine hold_take 14 (v := undef) rfl (by kernel_rfl) (by kernel_rfl) (by kernel_rfl) (fun _ _ _ h => h) (Or.inr ⟨by rfl, rfl⟩) hS2 ?_
          simp only [Act.put, List.setIfInBounds_toArray, List.set_cons_zero, List.set_cons_succ]
          refine hold_take 15 (v := undef) rfl (by kernel_rfl) (by kernel_rfl) (by kernel_rfl) (fun _ _ _ h => h) (Or.inr ⟨by rfl, rfl⟩) hS2 ?_
          simp only [Act.put, List.setIfInBounds_toArray, List.set_cons_zero, List.set_cons_succ]
          refine hold_take 16 (v := undef) rfl (by kernel_rfl) (by kernel_rfl) (by kernel_rfl) (fun _ _ _ h => h) (Or.inr ⟨by rfl, rfl⟩) hS2 ?_
          simp only [Act.put, List.setIfInBounds_toArray, List.set_cons_zero, List.set_cons_succ]
          refine hold_take 17 (v := ?_) rfl (by kernel_rfl) (by kernel_rfl) (by kernel_rfl) (fun _ _ _ h => h) (Or.inl ⟨by rfl, ?hy⟩) hS2 ?_
          case hy => first | (intro w hSw; go_simp; done) | (intro w hSw; go_simp; with_reducible rfl)
          simp only [Act.put, List.setIfInBounds_toArray, List.set_cons_zero, List.set_cons_succ]
          refine hold_take 18 (v := ?_) rfl (by kernel_rfl) (by kernel_rfl) (by kernel_rfl) (fun _ _ _ h => h) (Or.inl ⟨by rfl, ?hy⟩) hS2 ?_
          case hy => first | (intro w hSw; go_simp; done) | (intro w hSw; go_simp; with_reducible rfl)
          simp only [Act.put, List.setIfInBounds_toArray, List.set_cons_zero, List.set_cons_succ]
          refine wpAnyH_done (by kernel_rfl) ?_ _
          go_wp2_with fail
          go_meet
          case rel => exact ⟨rfl, (below_drew (Below.refl _ _)).trans H2.out.2⟩
        · obtain ⟨i, hi⟩ : ∃ i, j = i + 1 := ⟨j - 1, by omega⟩
          obtain ⟨p0, hp0⟩ : ∃ p0, fs[i]? = some p0 := ⟨_, List.getElem?_eq_getElem (by rw [H.out.2.1]; omega)⟩
          have hIw := H.out.2.2.below HDD.out.2.2
          obtain ⟨ad0, x0, cx0, ea, _, d0, _, _⟩ := hIw i p0 hp0
          cases ea
          have hjp : (0 : Int) < j := by omega
          have hless : kc p0.1 nm = -1 := by
            have ha := H.out.1.asc
            obtain ⟨h1, e1⟩ := List.getElem?_eq_some_iff.1 hp0
            obtain ⟨h2, e2⟩ := List.getElem?_eq_some_iff.1 HP.out.1
            have := List.pairwise_iff_getElem.1 ha i j h1 h2 (by omega)
            rw [e1, e2] at this
            exact this
          have hbl : Op.bytesLess p0.1.toList nm.toList = true := by
            rw [ByteArray.toList_eq, ByteArray.toList_eq]
            exact (cmpB_less _ _).1 hless
          have HBL := Lib.hid hbl
          have HI := Lib.hid (And.intro d0 (And.intro hless hp0))
          have HJ := Lib.hid hi
          clear hi hp0 hless hbl hj2 d0 hIw
          have hlt2 : (ad.add (i * 2)).block < wr.heap.size := by rw [add_block]; exact Nat.lt_of_lt_of_le had HDD.out.2.2.size
          have hS1 : (wr.alloc (.cells #[.string nm, .slice x m cx] 37)).drew.cell? ⟨wr.heap.size, 0, none⟩ = some (.string nm) ∧ (wr.alloc (.cells #[.string nm, .slice x m cx] 37)).drew.cell? (ad.add (i * 2)) = some (.string p0.1) :=
            ⟨HX.out.cell 0, ((Below.al wr (.cells #[.string nm, .slice x m cx] 37)).cell hlt2).trans HI.out.1⟩
          have hjn : 0 < j := by have := HJ.out; omega
          have hii : (j : Int) - 1 = (i : Int) := by have := HJ.out; omega
          have hwr : IntKind.i64.wrap ((j : Int) - 1) = (i : Int) := by rw [hii]; exact IntWalk.i64_in _ (by have := HJ.out; omega)
          have hwi : IntKind.i64.wrap (i : Int) = (i : Int) := IntWalk.i64_in _ (by have := HJ.out; omega)
          have hw64 : wrap64 ((j : Int) - 1) = (i : Int) := by rw [hii]; exact IntWalk.wrap64_in _ (by have := HJ.out; omega)
          have hi0 : (0 : Int) ≤ i := by omega
          have hi1 : (i : Int) < n := by have := HJ.out; omega
          have hi2 : i < n := by have := HJ.out; omega
          go_region_held3 (fun w' => w'.cell? ⟨wr.heap.size, 0, none⟩ = some (.string nm) ∧ w'.cell? (ad.add (i * 2)) = some (.string p0.1))
            (first | with_reducible exact hS1 | with_reducible exact hS2)
            (first
            | (go_at_call 44
               refine (goodName_any nm _ (by have := (goodN_size HP.out.2.2.1).2; unfold maxLen; omega)).mono ?_
               rintro e w2 ⟨rfl, hb2⟩
               rw [HP.out.2.2.1]
               have hX2 := (show Box (wr.alloc (.cells #[.string nm, .slice x m cx] 37)).drew _ _ _ from HX.out).next hb2
               have hS2 : w2.cell? ⟨wr.heap.size, 0, none⟩ = some (.string nm) ∧ w2.cell? (ad.add (i * 2)) = some (.string p0.1) := ⟨hX2.cell 0, (hb2.cell (Nat.lt_of_lt_of_le hlt2 (by simp))).trans hS1.2⟩
               have H2 := Lib.hid (And.intro hX2 hb2)
               clear hX2 hb2))
          all_goals
            rw [HBL.out]
            go_wp2_with fail
            go_meet
            case rel => exact ⟨rfl, (below_drew (Below.refl _ _)).trans H2.out.2⟩
      case rest =>
        obtain ⟨rfl, hb2⟩ := hcut
        have hbw : Below wr.heap.size wr wc := (Below.al wr _).trans (hb2.mono (by simp))
        have hX2 := HX.out.next hb2
        have hxs : wc.heap.size ≠ wr.heap.size := by have := hX2.lt; omega
        have HC := Lib.hid (And.intro hbw hX2)
        have HRd : Hid (∀ W' : World, Below wr.heap.size wr W' → Rd W' W'.heap.size x (bv bs)) := fun W' hb => (HP.out.2.1.mono HDD.out.2.2.size).next hb
        clear hb2 hbw hX2 hx0
        go_upto_region 12 with fail
        have hb0 := HC.out.1.trans ((Below.al wc (.cells newF 94)).mono HC.out.1.size)
        have hS0 : (wc.alloc (.cells newF 94)).drew.cell? ⟨wr.heap.size, 1, none⟩ = some (.slice x m cx) := (HC.out.2.alloc _).cell 1
        have HB0 := Lib.hid hb0
        clear hb0
        go_region_held3 (fun w' => w'.cell? ⟨wr.heap.size, 1, none⟩ = some (.slice x m cx))
          (first | with_reducible exact hS0 | with_reducible exact hS1 | with_reducible exact hS2 | with_reducible exact hS3 | with_reducible exact hS4)
          (first
          | (go_at_call 45
             have z0 := hS0
             clear z0
             refine (clone_any x m cx bs _ (HRd.out _ (below_drew HB0.out)) HP.out.2.2.2.2 (by omega)).mono ?_
             rintro e w1 ⟨b1, c1, rfl, hr1, hb1⟩
             have hbx := (show Below (wc.alloc (.cells newF 94)).heap.size (wc.alloc (.cells newF 94)) w1 from (below_drew (Below.refl _ _)).trans hb1)
             have hS1 : w1.cell? ⟨wr.heap.size, 1, none⟩ = some (.slice x m cx) := ((HC.out.2.alloc _).next hbx).cell 1
             have H1c := Lib.hid (And.intro hr1 hbx)
             clear hr1 hb1 hbx hS0)
          | (go_at_call 45
             refine (clone_any x m cx bs _ (HRd.out _ (HB0.out.trans (H1c.out.2.mono (Nat.le_trans HC.out.1.size (by simp))))) HP.out.2.2.2.2 (by omega)).mono ?_
             rintro e w2 ⟨b2, c2, rfl, hr2, hb2⟩
             have hBx := ((HC.out.2.alloc (.cells newF 94)).next H1c.out.2).next hb2
             have hS2 : w2.cell? ⟨wr.heap.size, 1, none⟩ = some (.slice x m cx) := hBx.cell 1
             have hS3 : (w2.setCell ⟨wc.heap.size, 0, none⟩ (.slice b1 m c1)).cell? ⟨wr.heap.size, 1, none⟩ = some (.slice x m cx) := (hBx.far (fun e => hxs e.symm) _).cell 1
             have hS4 : ((w2.setCell ⟨wc.heap.size, 0, none⟩ (.slice b1 m c1)).setCell ⟨wc.heap.size, 1, none⟩ (.slice b2 m c2)).cell? ⟨wr.heap.size, 1, none⟩ = some (.slice x m cx) := ((hBx.far (fun e => hxs e.symm) _).far (fun e => hxs e.symm) _).cell 1
             have hfB := ((Box.new wc 94 newF).next H1c.out.2).next hb2
             have hff := hfB.free
             have hfc := hfB.cell
             have hfB2 := hfB.set_ 0 (.slice b1 m c1)
             have hff2 := hfB2.free
             have hfc2 := hfB2.cell
             have H2c := Lib.hid (And.intro hr2 (And.intro hb2 hBx))
             clear hr2 hb2 hBx hfB hfB2 hS1))
        go_upto_region 13 with fail
        have hFM := ld_facts q (fs.take j) (asc_take H.out.1.asc j)
        have hD2 : DM wc L d fb (ldS q (fs.take j)) ms mf vc := HDD.out.1.keep HC.out.1.size fun b hb => HC.out.1.block b (HDD.out.1.lab b hb)
        obtain ⟨L2, hD3, hl1, hl2⟩ := hD2.filled (ld_inv (H.out.1.take j) (Nat.le_refl _)).ok HP.out.2.2.2.2 H1c.out.2 H2c.out.2.1 H1c.out.1 H2c.out.1
        have hX3 := (H2c.out.2.2.far (p := ⟨wc.heap.size, 0, none⟩) (fun e => hxs e.symm) (.slice b1 m c1)).far (p := ⟨wc.heap.size, 1, none⟩) (fun e => hxs e.symm) (.slice b2 m c2)
        have hz3 : wc.heap.size ≤ w2.heap.size := by have h1 := H1c.out.2.size; have h2 := H2c.out.2.1.size; simp at h1; omega
        have hbB3 : Below wr.heap.size wr ((w2.setCell ⟨wc.heap.size, 0, none⟩ (.slice b1 m c1)).setCell ⟨wc.heap.size, 1, none⟩ (.slice b2 m c2)) := by
          have h0 := HB0.out.trans ((H1c.out.2.trans (H2c.out.2.1.mono H1c.out.2.size)).mono (Nat.le_trans HC.out.1.size (by simp)))
          exact (h0.setCell (p := ⟨wc.heap.size, 0, none⟩) HC.out.1.size _).setCell (p := ⟨wc.heap.size, 1, none⟩) HC.out.1.size _
        obtain ⟨w3, hw3⟩ : ∃ w3, ((w2.setCell ⟨wc.heap.size, 0, none⟩ (.slice b1 m c1)).setCell ⟨wc.heap.size, 1, none⟩ (.slice b2 m c2)) = w3 := ⟨_, rfl⟩
        rw [hw3] at hD3 hX3 hbB3 ⊢
        clear hw3 hS2 hS3 hS4 hff hfc hff2 hfc2
        obtain ⟨s1, hs1⟩ : ∃ s1, ({ ldS q (fs.take j) with files := (ldS q (fs.take j)).files ++ [⟨bs, []⟩] } : Dk) = s1 := ⟨_, rfl⟩
        rw [hs1] at hD3
        have hsd : s1.dchs = [] := by rw [← hs1]; exact hFM.2.2.1
        have hsf : s1.safe = ldL (fs.take j) 0 := by rw [← hs1]; exact hFM.1
        have hss : s1.seen = s1.safe := by unfold Dk.seen; rw [hsd]; rfl
        have hlt' : (fs.take j).length = j := by rw [List.length_take, H.out.2.1]; omega
        have hno : ∀ x ∈ s1.safe.map (bk (fb ++ [wc.heap.size])), x.1 ≠ nm := fun x hx e => by
          obtain ⟨y, hy, rfl⟩ := List.mem_map.1 hx
          rw [hsf] at hy
          obtain ⟨⟨p', hp', e'⟩, _⟩ := ldL_mem _ 0 y hy
          obtain ⟨i', hi', rfl⟩ := List.getElem_of_mem hp'
          obtain ⟨h2, e2⟩ := List.getElem?_eq_some_iff.1 HP.out.1
          have hi'' : i' < j := by rw [hlt'] at hi'; exact hi'
          have := List.pairwise_iff_getElem.1 H.out.1.asc i' j (by omega) h2 hi''
          rw [List.getElem_take] at e'
          rw [e2, e'] at this
          have e3 : y.1 = nm := e
          rw [e3, kc_self] at this
          exact absurd this (by decide)
        have hget : getL nm (s1.safe.map (bk (fb ++ [wc.heap.size]))) = none := get_none.2 hno
        have hsz32 : nm.size ≤ 32 := (goodN_size HP.out.2.2.1).2
        have hlen : (s1.safe.map (bk (fb ++ [wc.heap.size]))).length < 1000000000000 := by rw [List.length_map, hsf, ldL_len, hlt']; omega
        have hD3d : DM w3.drew L2 d (fb ++ [wc.heap.size]) s1 ms mf vc := hD3.keep (Nat.le_refl _) (fun _ _ => rfl)
        have hmsne : ms ≠ mf := fun e => by have h1 := hD3.lms; have h2 := hD3.lmf; rw [e] at h1; omega
        obtain ⟨hdms, hdmf, _, _⟩ := hD3.parts
        have hxms : wr.heap.size ≠ ms := fun e => by have := HDD.out.1.lab ms (by rw [HDD.out.1.lms]; omega); omega
        have hxmf : wr.heap.size ≠ mf := fun e => by have := HDD.out.1.lab mf (by rw [HDD.out.1.lmf]; omega); omega
        have hseenM := hD3d.seen
        rw [hss] at hseenM
        obtain ⟨st1, u1, r1, g1, q1⟩ := MD.entry (f := wc.heap.size) hseenM hget hsz32 hlen
        obtain ⟨u2, r2, m2, g2⟩ := q1 u1 rfl
        have hsafe2 : MD u2 mf (s1.safe.map (bk (fb ++ [wc.heap.size]))) := (hD3d.safe.keep (g1.block mf hD3d.safe.lt (fun e => hmsne (by injection e with e; exact e.symm)))).keep (g2.block mf (Nat.lt_of_lt_of_le hD3d.safe.lt g1.size) (fun e => hmsne (by injection e with e; exact e.symm)))
        obtain ⟨st2, u3, r3, g3, q3⟩ := MD.entry (f := wc.heap.size) hsafe2 hget hsz32 hlen
        obtain ⟨u4, r4, m4, g4⟩ := q3 u3 rfl
        have hms4 : MD u4 ms (putL nm wc.heap.size (s1.safe.map (bk (fb ++ [wc.heap.size])))) := (m2.keep (g3.block ms m2.lt (fun e => hmsne (by injection e)))).keep (g4.block ms (Nat.lt_of_lt_of_le m2.lt g3.size) (fun e => hmsne (by injection e)))
        have hblk : ∀ b, b < w3.heap.size → b ≠ ms → b ≠ mf → u1.heap[b]? = w3.heap[b]? ∧ u2.heap[b]? = w3.heap[b]? ∧ u3.heap[b]? = w3.heap[b]? ∧ u4.heap[b]? = w3.heap[b]? := fun b hb h1 h2 => by
          have k1 := g1.block b hb (fun e => h1 (by injection e))
          have k2 := g2.block b (Nat.lt_of_lt_of_le hb g1.size) (fun e => h1 (by injection e))
          have k3 := g3.block b (Nat.lt_of_lt_of_le hb (Nat.le_trans g1.size g2.size)) (fun e => h2 (by injection e))
          have k4 := g4.block b (Nat.lt_of_lt_of_le hb (Nat.le_trans (Nat.le_trans g1.size g2.size) g3.size)) (fun e => h2 (by injection e))
          exact ⟨k1, k2.trans k1, k3.trans (k2.trans k1), k4.trans (k3.trans (k2.trans k1))⟩
        have hc4 : Chg (fun b => b = ms ∨ b = mf) w3 u4 := ⟨(g4.os.trans g3.os).trans (g2.os.trans g1.os), (g4.tape.trans g3.tape).trans (g2.tape.trans g1.tape), (g4.output.trans g3.output).trans (g2.output.trans g1.output), Nat.le_trans (Nat.le_trans g1.size g2.size) (Nat.le_trans g3.size g4.size), fun k hk hn => (hblk k hk (fun e => hn (.inl e)) (fun e => hn (.inr e))).2.2.2⟩
        have hkf : s1.files.length = j + 1 := by rw [← hs1]; show ((ldS q (fs.take j)).files ++ [_]).length = _; rw [hFM.2.1]; simp; rw [H.out.2.1]; omega
        have hfbk : (fb ++ [wc.heap.size]).getD j 0 = wc.heap.size := by
          have h1 := hD3.fl
          rw [hkf, List.length_append, List.length_singleton] at h1
          have h2 : fb.length = j := by omega
          rw [← h2]; simp
        have hD4 := hD3.load (n := nm) (k := j) hsd (by omega) (by rw [hfbk]; exact hms4) (by rw [hfbk]; exact m4) hc4
        have hX4 : Box u4 wr.heap.size 37 #[.string nm, .slice x m cx] := ((hblk wr.heap.size hX3.lt hxms hxmf).2.2.2).trans hX3
        have cD0 := hD3.box.cell 0
        have cD1 := hD3.box.cell 1
        have cX0 := hX3.cell 0
        have cAll : ∀ u : World, (∀ b, b < w3.heap.size → b ≠ ms → b ≠ mf → u.heap[b]? = w3.heap[b]?) → u.cell? ⟨d, 0, none⟩ = some (.map (some ms)) ∧ u.cell? ⟨d, 1, none⟩ = some (.map (some mf)) ∧ u.cell? ⟨wr.heap.size, 0, none⟩ = some (.string nm) := fun u hu =>
          ⟨(World.cell?_of_block (hu d hD3.box.lt hdms hdmf)).trans cD0, (World.cell?_of_block (hu d hD3.box.lt hdms hdmf)).trans cD1, (World.cell?_of_block (hu wr.heap.size hX3.lt hxms hxmf)).trans cX0⟩
        have t0 : w3.drew.cell? ⟨d, 0, none⟩ = some (.map (some ms)) ∧ w3.drew.cell? ⟨d, 1, none⟩ = some (.map (some mf)) ∧ w3.drew.cell? ⟨wr.heap.size, 0, none⟩ = some (.string nm) := ⟨cD0, cD1, cX0⟩
        have t1 := cAll u1 fun b h1 h2 h3 => (hblk b h1 h2 h3).1
        have t2 := cAll u2 fun b h1 h2 h3 => (hblk b h1 h2 h3).2.1
        have t3 := cAll u3 fun b h1 h2 h3 => (hblk b h1 h2 h3).2.2.1
        have t4 := cAll u4 fun b h1 h2 h3 => (hblk b h1 h2 h3).2.2.2
        have HR4 := Lib.hid (And.intro hD4 (And.intro hX4 (And.intro hc4 (And.intro hbB3 (And.intro hl1 (And.intro hl2 hs1))))))
        clear hD4 hX4 hc4 hbB3 hl1 hl2 hs1 hblk cAll hms4 m2 m4 g1 g2 g3 g4 q1 q3 hsafe2 hseenM hD3d hD3 hno hget hlen hsf hss hsd hD2 hX3 hkf hfbk hFM cD0 cD1 cX0
        go_region_held3 (fun w' => w'.cell? ⟨d, 0, none⟩ = some (.map (some ms)) ∧ w'.cell? ⟨d, 1, none⟩ = some (.map (some mf)) ∧ w'.cell? ⟨wr.heap.size, 0, none⟩ = some (.string nm))
          (first | with_reducible exact t0 | with_reducible exact t1 | with_reducible exact t2 | with_reducible exact t3 | with_reducible exact t4)
          (fail)
        go_upto_region 14 with fail
        have hFM := ld_facts q (fs.take j) (asc_take H.out.1.asc j)
        obtain ⟨uu, huu⟩ : ∃ uu, sumL (fs.take j) = uu := ⟨_, rfl⟩
        have huu9 : uu ≤ 1073741824 := by rw [← huu]; exact Nat.le_trans (sumL_take fs j) H.out.1.sum
        have hus : ({ s1 with safe := putL nm j s1.safe } : Dk).used = (uu : Int) := by rw [← HR4.out.2.2.2.2.2.2, ← huu]; exact hFM.2.2.2.1
        have hdb := HR4.out.1.box
        have hdc := hdb.cell 4
        have hdc4 : u4.drew.cell? ⟨d, 4, none⟩ = some (.int .i64 (uu : Int)) := by rw [← hus]; exact hdc
        have hdf := hdb.free 4
        have hdl := hdb.lt
        have hxc4 : u4.drew.cell? ⟨wr.heap.size, 1, none⟩ = some (.slice x m cx) := HR4.out.2.1.cell 1
        have hwm : IntKind.i64.wrap ((uu : Int) + m) = (uu : Int) + m := IntWalk.i64_in _ (by omega)
        have HU := Lib.hid (And.intro huu (And.intro hus hdb))
        have HFM := Lib.hid hFM
        clear t0 t1 t2 t3 t4 r1 r2 r3 r4 hus hdb hFM hdc huu
        go_still_tail 10, (by kernel_rfl)
        go_wp2
        go_roundw
        case rel =>
          have hfl : (ldS q (fs.take j)).files.length = j := by rw [HFM.out.2.1, List.length_map, hlt']
          have hD5 := HR4.out.1.dx (chg_at (Chg.refl _ u4) 4 (.int .i64 ((uu : Int) + m))) (q := (s1.quota, (uu : Int) + m, s1.fuse, s1.dead, s1.ops)) (by simpa using HU.out.2.2.set_ 4 (.int .i64 ((uu : Int) + m)))
          have e : ({ s1 with safe := putL nm j s1.safe } : Dk).dx (s1.quota, (uu : Int) + m, s1.fuse, s1.dead, s1.ops) = ldS q (fs.take (j + 1)) := by
            rw [HP.out.2.2.2.1, ldS_snoc, ← HR4.out.2.2.2.2.2.2]
            unfold Dk.dx ldStep
            simp only [hfl, HFM.out.2.2.2.1, HU.out.1, HP.out.2.2.2.2]
          rw [e] at hD5
          have hLms : w.heap.size ≤ ms := HDD.out.2.1 ms (by rw [HDD.out.1.lms]; omega)
          have hLmf : w.heap.size ≤ mf := HDD.out.2.1 mf (by rw [HDD.out.1.lmf]; omega)
          have hLd : w.heap.size ≤ d := HDD.out.2.1 d (by rw [HDD.out.1.ld]; omega)
          have hww := HDD.out.2.2.size
          have hw3 := HR4.out.2.2.2.1.size
          have hB1 : Below w.heap.size w u4 := (HDD.out.2.2.trans (HR4.out.2.2.2.1.mono hww)).trans (HR4.out.2.2.1.below (Nat.le_trans hww hw3) fun b hb => by
            rcases hb with rfl | rfl
            · exact hLms
            · exact hLmf)
          refine ⟨j + 1, L2, fb ++ [wc.heap.size], by omega, by go_num, hD5.keep (Nat.le_refl _) (fun _ _ => rfl), fun b hb => ?_, below_drew (hB1.setCell (p := ⟨d, 4, none⟩) hLd _)⟩
          rcases HR4.out.2.2.2.2.2.1 b hb with h1 | h1
          · exact HDD.out.2.1 b h1
          · have := HC.out.1.size; omega
        case measure => simp [intOf]; omega
    · have hin : n = j := by omega
      subst hin
      have hfn : fs.take n = fs := by rw [← H.out.2.1]; exact List.take_length
      rw [hfn] at hD
      have HE := Lib.hid (And.intro hD (And.intro hL hB))
      clear hD hL hB hfn
      go_wp2
      go_ret2
      exact ⟨d, fun b => L b ≠ 0, rfl, ⟨L, fb, ms, mf, vc, HE.out.1, fun b => Iff.rfl⟩, HE.out.2.1, HE.out.2.2⟩
end Go.Proofs.Ytebeefkibbbkdaa
/- ManifestFull walked. -/
namespace Go.Proofs.Ytebeefkibbbkdaa
open Go.RowKit Go.Maps

theorem lv_load7 {W w : World} {q : Int} {fs : List FE} {A : Option Addr} {n c N : Nat} (hb : Below W.heap.size W w) (h : LdOk q fs) (hn : fs.length = n) (hI : IM w w.heap.size A fs) (hN : fs.length ≤ N) :
    Calls Try.prog 14 #[.slice A n c, .int .i64 q] w fun e w' => ∃ d S, e = .returned (.tuple #[.pointer (some ⟨d, 0, none⟩), .int .i64 0]) ∧ Lv W w' S d (ldS q fs) N ∧ (∀ b, S b → w.heap.size ≤ b) ∧ Below w.heap.size w w' :=
  (load_ok q fs A n c w h hn hI).mono fun _ _ ⟨d, S, h1, h2, h3, h4⟩ => ⟨d, S, h1, ⟨h2, fun b hb2 => Nat.le_trans hb.size (h3 b hb2), hb.trans (h4.mono hb.size), ld_inv h hN⟩, h3, h4⟩
theorem rd_up {W w : World} {A : Option Addr} {us : List Value} (h : Rd W W.heap.size A us) (hb : Below W.heap.size W w) : Rd w w.heap.size A us := by
  intro j u hj
  obtain ⟨ad, e, h1, h2⟩ := h.below hb j u hj
  exact ⟨ad, e, Nat.lt_of_lt_of_le h1 hb.size, h2⟩
/-- An image of one file. -/
theorem im_one {w : World} {B : Nat} {b A : Option Addr} {cap c n : Nat} {nm : ByteArray} {bs : List UInt8} (h : w.ownsRow B 37 2 (.slice b 1 cap) 1 [.string nm, .slice A n c]) (hn : bs.length = n) (hA : Rd w w.heap.size A (bv bs)) : IM w w.heap.size b [(nm, bs)] := by
  intro i p hp
  cases i with
  | zero =>
    simp at hp
    subst hp
    obtain ⟨ad, rfl, hb, c0⟩ := row_rd h 0 _ rfl
    obtain ⟨ad', e, _, c1⟩ := row_rd h 1 _ rfl
    cases e
    refine ⟨ad, A, c, rfl, hb, by simpa using c0, ?_, hA⟩
    have e : (ad.add (0 * 2)) = ad := by simp [Addr.add]
    rw [e]
    subst hn
    exact c1
  | succ i => simp at hp
end Go.Proofs.Ytebeefkibbbkdaa
/- ManifestAgain: between two rounds: plain laws. -/
namespace Go.Proofs.Ytebeefkibbbkdaa
open Go.RowKit Go.Maps

def catN : ByteArray := ⟨#[99, 97, 116, 97, 108, 111, 103]⟩
def catT : ByteArray := ⟨#[99, 97, 116, 97, 108, 111, 103, 46, 116, 109, 112]⟩
/-- One of the texts from lo on, below hi. -/
def Tx (tl : List (List UInt8)) (lo hi : Nat) (z : List UInt8) : Prop := ∃ k, lo ≤ k ∧ k < hi ∧ tl[k]? = some z
/-- What is known of the image between two rounds (m: one more than the last that was answered OK; 0: none). -/
structure IG (tl : List (List UInt8)) (m j : Nat) (img : List FE) : Prop where
  ok : LdOk 1073741824 img
  two : ∀ p ∈ img, (p.1 = catN ∨ p.1 = catT) ∧ (p.1 = catN → Tx tl (m - 1) j p.2)
  must : 0 < m → ∃ p ∈ img, p.1 = catN
  sm : ∀ p ∈ img, p.2.length ≤ 1048576
theorem cat_ne : catN ≠ catT := by decide
theorem cat_good : goodN catN = true ∧ goodN catT = true := ⟨by decide, by decide⟩
section
variable {tl : List (List UInt8)} {m j : Nat} {img : List FE} {b : List UInt8} {f : Int} {s1 : Dk}
theorem IG.two_ (h : IG tl m j img) : img.length ≤ 2 := asc_two h.ok.asc fun p hp => (h.two p hp).1
theorem sum_two : ∀ {fs : List FE}, fs.length ≤ 2 → (∀ p ∈ fs, p.2.length ≤ 1048576) → sumL fs ≤ 2097152
  | [], _, _ => by simp [sumL]
  | [a], _, h => by have := h a (by simp); simp [sumL]; omega
  | [a, c], _, h => by have h1 := h a (by simp); have h2 := h c (by simp); simp [sumL]; omega
  | a :: c :: e :: r, h, _ => by simp at h
/-- The disk of a round, its fuse laid. -/
theorem IG.start (h : IG tl m j img) (hb : b.length ≤ 1048576) (h1 : fuseS f (ldS 1073741824 img) = s1) : Gd catN catT (Tx tl (m - 1) j) (0 < m) s1 ∧ s1.dead = false ∧ s1.used + b.length ≤ s1.quota := by
  obtain ⟨g1, g2, g3, g4, g5, g6, g7, g8⟩ := ld_facts 1073741824 img h.ok.asc
  have hs : s1 = { ldS 1073741824 img with fuse := max f (-1) } := by rw [← h1]; unfold fuseS; rw [if_neg (by rw [g7]; decide)]
  have hsum := sum_two h.two_ h.sm
  refine ⟨(ld_gd h.ok.asc h.two h.must h.sm).same (by rw [hs]) (by rw [hs]) (by rw [hs]), by rw [hs]; exact g7, ?_⟩
  rw [hs]
  show (ldS 1073741824 img).used + _ ≤ (ldS 1073741824 img).quota
  rw [g4, g5]
  omega
theorem seen_few {s : Dk} {N : Nat} (h : s.Inv N) : s.seen.length ≤ N := by
  have h1 := fold_len s.dchs s.safe
  have h2 := h.sz.d
  have : s.seen.length = (s.dchs.foldl ddo s.safe).length := rfl
  omega
theorem fileI_has {im : List FE} {nm : ByteArray} (h : ∃ q ∈ im, q.1 = nm) : ∃ z, fileI nm im = some z := by
  obtain ⟨q, hq, hn⟩ := h
  unfold fileI
  cases hf : im.find? fun p => decide (p.1 = nm) with
  | none => exact absurd (by simpa using hn) (List.find?_eq_none.1 hf q hq)
  | some p => exact ⟨p.2, rfl⟩
theorem fileI_mem {im : List FE} {nm : ByteArray} {z : List UInt8} (h : fileI nm im = some z) : (nm, z) ∈ im := by
  unfold fileI at h
  cases hf : im.find? fun p => decide (p.1 = nm) with
  | none => rw [hf] at h; cases h
  | some p =>
    rw [hf] at h
    have h1 := List.find?_some hf
    simp at h1 h
    rw [← h1, ← h]
    exact List.mem_of_find?_eq_some hf
/-- A round: what is left, and what is answered. -/
theorem IG.round (h : IG tl m j img) (hm : m ≤ j) (hj : tl[j]? = some b) (hb : b.length ≤ 1048576) (h1 : fuseS f (ldS 1073741824 img) = s1) {N : Nat} (hI : s1.Inv 2) (hI2 : (replT catN catT b s1).2.Inv N) (ps : List Int) :
    ((replT catN catT b s1).1 = 0 ∧ IG tl (j + 1) (j + 1) (crashL (replT catN catT b s1).2 ps) ∧ fileI catN (crashL (replT catN catT b s1).2 ps) = some b) ∨
    ((replT catN catT b s1).1 = 34 ∧ 0 ≤ s1.fuse ∧ IG tl m (j + 1) (crashL (replT catN catT b s1).2 ps) ∧ (∀ z, fileI catN (crashL (replT catN catT b s1).2 ps) = some z → Tx tl (m - 1) (j + 1) z) ∧ (fileI catN (crashL (replT catN catT b s1).2 ps) = none → m = 0)) := by
  obtain ⟨g1, g2, g3⟩ := h.start hb h1
  have hup : ∀ z, Tx tl (m - 1) j z → Tx tl (m - 1) (j + 1) z := fun z ⟨k, a1, a2, a3⟩ => ⟨k, a1, by omega, a3⟩
  rcases repl_gd g1 hI cat_ne g2 cat_good.1 cat_good.2 (by have := seen_few hI; omega) g3 hb with ⟨e, hG⟩ | ⟨e, hG, hf⟩
  · left
    obtain ⟨c1, c2, c3⟩ := hG.crash ps
    obtain ⟨z, hz⟩ := fileI_has (c2 trivial)
    have hzb := (c1 _ (fileI_mem hz)).2 rfl
    simp only at hzb
    subst hzb
    exact ⟨e, ⟨hG.ldok hI2 cat_good.1 cat_good.2 ps, fun p hp => ⟨(c1 p hp).1, fun hn => ⟨j, by omega, by omega, by rw [(c1 p hp).2 hn]; exact hj⟩⟩, fun _ => c2 trivial, c3⟩, hz⟩
  · right
    obtain ⟨c1, c2, c3⟩ := hG.crash ps
    have hA : ∀ p ∈ crashL (replT catN catT b s1).2 ps, p.1 = catN → Tx tl (m - 1) (j + 1) p.2 := fun p hp hn => by
      rcases (c1 p hp).2 hn with h3 | h3
      · exact hup _ h3
      · rw [h3]; exact ⟨j, by omega, by omega, hj⟩
    refine ⟨e, hf, ⟨hG.ldok hI2 cat_good.1 cat_good.2 ps, fun p hp => ⟨(c1 p hp).1, hA p hp⟩, c2, c3⟩, fun z hz => hA _ (fileI_mem hz) rfl, fun hn => Classical.byContradiction fun hne => ?_⟩
    obtain ⟨z, hz⟩ := fileI_has (c2 (by omega))
    rw [hn] at hz
    cases hz
end
end Go.Proofs.Ytebeefkibbbkdaa
/- SimfsLoads: plain laws of an image that may not be. -/
namespace Go.Proofs.Ytebeefkibbbkdaa
open Go.RowKit Go.Maps

/-- The g-th file may not be: its name, or its place. -/
def BadAt (fs : List FE) (g : Nat) : Prop := ∃ p, fs[g]? = some p ∧ (goodN p.1 = false ∨ ∃ (i : Nat) (p0 : FE), g = i + 1 ∧ fs[i]? = some p0 ∧ kc p0.1 p.1 ≠ -1)
theorem mem_pre {fs : List FE} {j g : Nat} {p : FE} (h : fs[j]? = some p) (hj : j < g) : p ∈ fs.take g :=
  List.mem_of_getElem? (i := j) (by rw [List.getElem?_take_of_lt hj]; exact h)
theorem asc_pre {fs : List FE} {g a b : Nat} {pa pb : FE} (h : Asc (fs.take g)) (ha : fs[a]? = some pa) (hb : fs[b]? = some pb) (hab : a < b) (hbg : b < g) : kc pa.1 pb.1 = -1 := by
  have h1 : (fs.take g)[a]? = some pa := by rw [List.getElem?_take_of_lt (by omega)]; exact ha
  have h2 : (fs.take g)[b]? = some pb := by rw [List.getElem?_take_of_lt hbg]; exact hb
  obtain ⟨l1, e1⟩ := List.getElem?_eq_some_iff.1 h1
  obtain ⟨l2, e2⟩ := List.getElem?_eq_some_iff.1 h2
  have := List.pairwise_iff_getElem.1 h a b l1 l2 hab
  rw [e1, e2] at this
  exact this
theorem asc_take2 {fs : List FE} {g j : Nat} (h : Asc (fs.take g)) (hj : j ≤ g) : Asc (fs.take j) := by
  have := asc_take h j
  rwa [List.take_take, Nat.min_eq_left hj] at this
theorem ldok_pre {q : Int} {fs : List FE} {g j : Nat} (h : LdOk q (fs.take g)) (hj : j ≤ g) : LdOk q (fs.take j) := by
  have := h.take j
  rwa [List.take_take, Nat.min_eq_left hj] at this
theorem sum_pre {q : Int} {fs : List FE} {g j : Nat} (h : LdOk q (fs.take g)) (hj : j ≤ g) : sumL (fs.take j) ≤ 1073741824 := (ldok_pre h hj).sum
/-- Either the image may be, or there is a first file that may not. -/
theorem ld_split {q : Int} {fs : List FE} (hq : 0 ≤ q ∧ q ≤ 1073741824) (hn : fs.length ≤ 65536) (hs : sumL fs ≤ 1073741824) : LdOk q fs ∨ ∃ g, g < fs.length ∧ LdOk q (fs.take g) ∧ BadAt fs g := by
  have key : ∀ g, g ≤ fs.length → LdOk q (fs.take g) ∨ ∃ g', g' < fs.length ∧ LdOk q (fs.take g') ∧ BadAt fs g' := by
    intro g
    induction g with
    | zero => exact fun _ => .inl ⟨hq, List.Pairwise.nil, (fun p hp => by simp at hp), by simp, by simp [sumL]⟩
    | succ g ih =>
      intro hg
      rcases ih (by omega) with h | h
      · by_cases hb : BadAt fs g
        · exact .inr ⟨g, by omega, h, hb⟩
        · left
          obtain ⟨p, hp⟩ : ∃ p, fs[g]? = some p := ⟨_, List.getElem?_eq_getElem (by omega)⟩
          have hst : fs.take (g + 1) = fs.take g ++ [p] := by rw [List.take_add_one, hp]; rfl
          have hgood : goodN p.1 = true := Bool.not_eq_false _ ▸ fun e => hb ⟨p, hp, .inl e⟩
          refine ⟨hq, ?_, ?_, by rw [List.length_take]; omega, Nat.le_trans (sumL_take fs (g + 1)) hs⟩
          · rw [hst]
            refine List.pairwise_append.2 ⟨h.asc, List.pairwise_singleton _ _, fun a ha b hb2 => ?_⟩
            rw [List.mem_singleton] at hb2
            subst hb2
            obtain ⟨k, hk, rfl⟩ := List.getElem_of_mem ha
            rw [List.length_take] at hk
            rw [List.getElem_take]
            have hlast : ∀ (i : Nat) (p0 : FE), g = i + 1 → fs[i]? = some p0 → kc p0.1 b.1 = -1 := fun i p0 e1 e2 => Classical.byContradiction fun e3 => hb ⟨b, hp, .inr ⟨i, p0, e1, e2, e3⟩⟩
            by_cases hk2 : k + 1 = g
            · exact hlast k _ hk2.symm (List.getElem?_eq_getElem _)
            · obtain ⟨i, hi⟩ : ∃ i, g = i + 1 := ⟨g - 1, by omega⟩
              have hli := hlast i fs[i] hi (List.getElem?_eq_getElem _)
              have hki := asc_pre h.asc (List.getElem?_eq_getElem (show k < fs.length by omega)) (List.getElem?_eq_getElem (show i < fs.length by omega)) (by omega) (by omega)
              exact kc_trans hki hli
          · intro x hx
            rw [hst] at hx
            rcases List.mem_append.1 hx with h1 | h1
            · exact h.names x h1
            · rw [List.mem_singleton] at h1; subst h1; exact hgood
      · exact .inr h
  rcases key fs.length (Nat.le_refl _) with h | h
  · left; rwa [List.take_length] at h
  · exact .inr h
end Go.Proofs.Ytebeefkibbbkdaa
/- Load of an image that may not be. -/
namespace Go.Proofs.Ytebeefkibbbkdaa
open Go.RowKit Go.Maps

set_option maxRecDepth 100000 in
set_option maxHeartbeats 16000000 in
theorem load_bad (q : Int) (fs : List FE) (g : Nat) (A : Option Addr) (n c : Nat) (w : World) (h : LdOk q (fs.take g)) (hg : g < n) (hnm : n ≤ 65536) (hbad : BadAt fs g) (hsz : ∀ p ∈ fs, p.1.size ≤ maxLen) (hn : fs.length = n) (hI : IM w w.heap.size A fs) :
    Calls Try.prog 14 #[.slice A n c, .int .i64 q] w fun e w' => e = .returned (.tuple #[.pointer none, .int .i64 36]) ∧ Below w.heap.size w w' := by
  have hqd := Lib.hid (show qOk q = true from decide_eq_true h.q)
  have H := Lib.hid (And.intro h (And.intro hn hI))
  have HBD := Lib.hid (And.intro hbad hsz)
  clear h hn hI hbad hsz
  go_enter Try.func14, Try.ntmps14
  go_wp2_with (first
    | (go_at_call 42
       refine (goodQuota_any q _).mono ?_
       rintro e w1 ⟨rfl, hw⟩
       have hw1 := hw.symm
       subst hw1
       rw [hqd.out])
    | (go_at_call 43
       refine (fresh_any q _).mono ?_
       rintro e w1 ⟨d, S0, rfl, h0, h1, h2⟩
       have H1 := Lib.hid (And.intro h0 (And.intro h1 h2))
       clear h0 h1 h2))
  obtain ⟨L0, fb0, ms, mf, vc, hD0, hS0⟩ := H1.out.1
  have HD0 := Lib.hid (And.intro hD0 hS0)
  clear hD0 hS0
  go_loopw [20] (fun i wr => ∃ (j : Nat) (L : Nat → Nat) (fb : List Nat), j ≤ g ∧ i = .int .i64 j ∧ DM wr L d fb (ldS q (fs.take j)) ms mf vc ∧ (∀ b, L b ≠ 0 → w.heap.size ≤ b) ∧ Below w.heap.size w wr) (fun i _ => n - (intOf i).toNat)
  case atStart => exact ⟨0, L0, fb0, Nat.zero_le _, rfl, HD0.out.1, fun b hb => H1.out.2.1 b ((HD0.out.2 b).2 hb), H1.out.2.2⟩
  case round =>
    obtain ⟨j, L, fb, hj, rfl, hD, hL, hB⟩ := hrel
    by_cases hlt : j < g
    · have hj0 : (0 : Int) ≤ j := by omega
      have hj1 : (j : Int) < n := by omega
      obtain ⟨p, hp⟩ : ∃ p, fs[j]? = some p := ⟨_, List.getElem?_eq_getElem (by rw [H.out.2.1]; omega)⟩
      have hIw := H.out.2.2.below hB
      obtain ⟨ad, x, cx, rfl, had, c0, c1, hrx⟩ := hIw j p hp
      have hpm := List.mem_of_getElem? hp
      have hpg := mem_pre hp hlt
      have hgn := H.out.1.names p hpg
      have hst : fs.take (j + 1) = fs.take j ++ [p] := by
        obtain ⟨hl, e⟩ := List.getElem?_eq_some_iff.1 hp
        rw [← e]
        exact List.take_succ_eq_append_getElem hl
      obtain ⟨nm, bs⟩ := p
      obtain ⟨m, hm⟩ : ∃ m, bs.length = m := ⟨_, rfl⟩
      have hmx : m ≤ 1073741824 := by have h1 := sumL_mem hpg; have h2 := H.out.1.sum; simp only at h1; omega
      simp only at c0 c1 hrx hgn
      rw [hm] at c1
      have HP := Lib.hid (And.intro hp (And.intro hrx (And.intro hgn (And.intro hst hm))))
      have HDD := Lib.hid (And.intro hD (And.intro hL hB))
      clear hD hL hB hIw hpm hpg hgn hst hp hrx hm
      have hxb := (Box.new wr 37 #[.string nm, .slice x m cx])
      have HX := Lib.hid hxb
      clear hxb
      have hx0 := HX.out.cell
      go_upto_region 9 with fail
      go_cut [43] (fun s43 wx => s43 = .bool false ∧ Below (wr.alloc (.cells #[.string nm, .slice x m cx] 37)).heap.size (wr.alloc (.cells #[.string nm, .slice x m cx] 37)) wx)
      case first =>
        by_cases hj2 : j = 0
        · have hS1 : (wr.alloc (.cells #[.string nm, .slice x m cx] 37)).drew.cell? ⟨wr.heap.size, 0, none⟩ = some (.string nm) := HX.out.cell 0
          have hjn : ¬ ((j : Int) > 0) := by omega
          have hjn2 : ¬ (0 < j) := by omega
          clear hj2
          refine wp_region_held_drew (S := fun w' => w'.cell? ⟨wr.heap.size, 0, none⟩ = some (.string nm)) (by kernel_rfl) hS1 fun _ => ?_
          refine hold_take 0 (v := ?_) rfl (by kernel_rfl) (by kernel_rfl) (by kernel_rfl) (fun _ _ _ h => h) (Or.inl ⟨by rfl, ?hy⟩) hS1 ?_
          case hy => first | (intro w hSw; go_simp; done) | (intro w hSw; go_simp; with_reducible rfl)
          simp only [Act.put, List.setIfInBounds_toArray, List.set_cons_zero, List.set_cons_succ]
          refine hold_take 1 (v := ?_) rfl (by kernel_rfl) (by kernel_rfl) (by kernel_rfl) (fun _ _ _ h => h) (Or.inl ⟨by rfl, ?hy⟩) hS1 ?_
          case hy => first | (intro w hSw; go_simp; done) | (intro w hSw; go_simp; with_reducible rfl)
          simp only [Act.put, List.setIfInBounds_toArray, List.set_cons_zero, List.set_cons_succ]
          refine hold_step 2 rfl (by kernel_rfl) fun K hK => ?_
          go_simp
          go_at_call 44
          refine (goodName_any nm _ (by have := (goodN_size HP.out.2.2.1).2; unfold maxLen; omega)).mono ?_
          rintro e w2 ⟨rfl, hb2⟩
          rw [HP.out.2.2.1]
          have hX2 := (show Box (wr.alloc (.cells #[.string nm, .slice x m cx] 37)).drew _ _ _ from HX.out).next hb2
          have hS2 : w2.cell? ⟨wr.heap.size, 0, none⟩ = some (.string nm) := hX2.cell 0
          have H2 := Lib.hid (And.intro hX2 hb2)
          clear hX2 hb2
          go_simp
          refine hK.out _ _ hS2 ?_
          clear hK K
          refine hold_take 3 (v := ?_) rfl (by kernel_rfl) (by kernel_rfl) (by kernel_rfl) (fun _ _ _ h => h) (Or.inl ⟨by rfl, ?hy⟩) hS2 ?_
          case hy => first | (intro w hSw; go_simp; done) | (intro w hSw; go_simp; with_reducible rfl)
          simp only [Act.put, List.setIfInBounds_toArray, List.set_cons_zero, List.set_cons_succ]
          refine hold_take 4 (v := ?_) rfl (by kernel_rfl) (by kernel_rfl) (by kernel_rfl) (fun _ _ _ h => h) (Or.inl ⟨by rfl, ?hy⟩) hS2 ?_
          case hy => first | (intro w hSw; go_simp; done) | (intro w hSw; go_simp; with_reducible rfl)
          simp only [Act.put, List.setIfInBounds_toArray, List.set_cons_zero, List.set_cons_succ]
          refine hold_take 5 (v := ?_) rfl (by kernel_rfl) (by kernel_rfl) (by kernel_rfl) (fun _ _ _ h => h) (Or.inl ⟨by rfl, ?hy⟩) hS2 ?_
          case hy => first | (intro w hSw; go_simp; done) | (intro w hSw; go_simp; with_reducible rfl)
          simp only [Act.put, List.setIfInBounds_toArray, List.set_cons_zero, List.set_cons_succ]
          refine hold_take 6 (v := ?_) rfl (by kernel_rfl) (by kernel_rfl) (by kernel_rfl) (fun _ _ _ h => h) (Or.inl ⟨by rfl, ?hy⟩) hS2 ?_
          case hy => first | (intro w hSw; go_simp; done) | (intro w hSw; go_simp; with_reducible rfl)
          simp only [Act.put, List.setIfInBounds_toArray, List.set_cons_zero, List.set_cons_succ]
          refine hold_take 7 (v := ?_) rfl (by kernel_rfl) (by kernel_rfl) (by kernel_rfl) (fun _ _ _ h => h) (Or.inl ⟨by rfl, ?hy⟩) hS2 ?_
          case hy => first | (intro w hSw; go_simp; done) | (intro w hSw; go_simp; with_reducible rfl)
          simp only [Act.put, List.setIfInBounds_toArray, List.set_cons_zero, List.set_cons_succ]
          refine hold_take 8 (v := undef) rfl (by kernel_rfl) (by kernel_rfl) (by kernel_rfl) (fun _ _ _ h => h) (Or.inr ⟨by rfl, rfl⟩) hS2 ?_
          simp only [Act.put, List.setIfInBounds_toArray, List.set_cons_zero, List.set_cons_succ]
          refine hold_take 9 (v := undef) rfl (by kernel_rfl) (by kernel_rfl) (by kernel_rfl) (fun _ _ _ h => h) (Or.inr ⟨by rfl, rfl⟩) hS2 ?_
          simp only [Act.put, List.setIfInBounds_toArray, List.set_cons_zero, List.set_cons_succ]
          refine hold_take 10 (v := undef) rfl (by kernel_rfl) (by kernel_rfl) (by kernel_rfl) (fun _ _ _ h => h) (Or.inr ⟨by rfl, rfl⟩) hS2 ?_
          simp only [Act.put, List.setIfInBounds_toArray, List.set_cons_zero, List.set_cons_succ]
          refine hold_take 11 (v := undef) rfl (by kernel_rfl) (by kernel_rfl) (by kernel_rfl) (fun _ _ _ h => h) (Or.inr ⟨by rfl, rfl⟩) hS2 ?_
          simp only [Act.put, List.setIfInBounds_toArray, List.set_cons_zero, List.set_cons_succ]
          refine hold_take 12 (v := undef) rfl (by kernel_rfl) (by kernel_rfl) (by kernel_rfl) (fun _ _ _ h => h) (Or.inr ⟨by rfl, rfl⟩) hS2 ?_
          simp only [Act.put, List.setIfInBounds_toArray, List.set_cons_zero, List.set_cons_succ]
          refine hold_take 13 (v := undef) rfl (by kernel_rfl) (by kernel_rfl) (by kernel_rfl) (fun _ _ _ h => h) (Or.inr ⟨by rfl, rfl⟩) hS2 ?_
          simp only [Act.put, List.setIfInBounds_toArray, List.set_cons_zero, List.set_cons_succ]
          refine hold_take 14 (v := undef) rfl (by kernel_rfl) (by kernel_rfl) (by kernel_rfl) (fun _ _ _ h => h) (Or.inr ⟨by rfl, rfl⟩) hS2 ?_
          simp only [Act.put, List.setIfInBounds_toArray, List.set_cons_zero, List.set_cons_succ]
          refine hold_take 15 (v := undef) rfl (by kernel_rfl) (by kernel_rfl) (by kernel_rfl) (fun _ _ _ h => h) (Or.inr ⟨by rfl, rfl⟩) hS2 ?_
          simp only [Act.put, List.setIfInBounds_toArray, List.set_cons_zero, List.set_cons_succ]
          refine hold_take 16 (v := undef) rfl (by kernel_rfl) (by kernel_rfl) (by kernel_rfl) (fun _ _ _ h => h) (Or.inr ⟨by rfl, rfl⟩) hS2 ?_
          simp only [Act.put, List.setIfInBounds_toArray, List.set_cons_zero, List.set_cons_succ]
          refine hold_take 17 (v := ?_) rfl (by kernel_rfl) (by kernel_rfl) (by kernel_rfl) (fun _ _ _ h => h) (Or.inl ⟨by rfl, ?hy⟩) hS2 ?_
          case hy => first | (intro w hSw; go_simp; done) | (intro w hSw; go_simp; with_reducible rfl)
          simp only [Act.put, List.setIfInBounds_toArray, List.set_cons_zero, List.set_cons_succ]
          refine hold_take 18 (v := ?_) rfl (by kernel_rfl) (by kernel_rfl) (by kernel_rfl) (fun _ _ _ h => h) (Or.inl ⟨by rfl, ?hy⟩) hS2 ?_
          case hy => first | (intro w hSw; go_simp; done) | (intro w hSw; go_simp; with_reducible rfl)
          simp only [Act.put, List.setIfInBounds_toArray, List.set_cons_zero, List.set_cons_succ]
          refine wpAnyH_done (by kernel_rfl) ?_ _
          go_wp2_with fail
          go_meet
          case rel => exact ⟨rfl, (below_drew (Below.refl _ _)).trans H2.out.2⟩
        · obtain ⟨i, hi⟩ : ∃ i, j = i + 1 := ⟨j - 1, by omega⟩
          obtain ⟨p0, hp0⟩ : ∃ p0, fs[i]? = some p0 := ⟨_, List.getElem?_eq_getElem (by rw [H.out.2.1]; omega)⟩
          have hIw := H.out.2.2.below HDD.out.2.2
          obtain ⟨ad0, x0, cx0, ea, _, d0, _, _⟩ := hIw i p0 hp0
          cases ea
          have hjp : (0 : Int) < j := by omega
          have hless : kc p0.1 nm = -1 := by
            exact asc_pre H.out.1.asc hp0 HP.out.1 (by omega) hlt
          have hbl : Op.bytesLess p0.1.toList nm.toList = true := by
            rw [ByteArray.toList_eq, ByteArray.toList_eq]
            exact (cmpB_less _ _).1 hless
          have HBL := Lib.hid hbl
          have HI := Lib.hid (And.intro d0 (And.intro hless hp0))
          have HJ := Lib.hid hi
          clear hi hp0 hless hbl hj2 d0 hIw
          have hlt2 : (ad.add (i * 2)).block < wr.heap.size := by rw [add_block]; exact Nat.lt_of_lt_of_le had HDD.out.2.2.size
          have hS1 : (wr.alloc (.cells #[.string nm, .slice x m cx] 37)).drew.cell? ⟨wr.heap.size, 0, none⟩ = some (.string nm) ∧ (wr.alloc (.cells #[.string nm, .slice x m cx] 37)).drew.cell? (ad.add (i * 2)) = some (.string p0.1) :=
            ⟨HX.out.cell 0, ((Below.al wr (.cells #[.string nm, .slice x m cx] 37)).cell hlt2).trans HI.out.1⟩
          have hjn : 0 < j := by have := HJ.out; omega
          have hii : (j : Int) - 1 = (i : Int) := by have := HJ.out; omega
          have hwr : IntKind.i64.wrap ((j : Int) - 1) = (i : Int) := by rw [hii]; exact IntWalk.i64_in _ (by have := HJ.out; omega)
          have hwi : IntKind.i64.wrap (i : Int) = (i : Int) := IntWalk.i64_in _ (by have := HJ.out; omega)
          have hw64 : wrap64 ((j : Int) - 1) = (i : Int) := by rw [hii]; exact IntWalk.wrap64_in _ (by have := HJ.out; omega)
          have hi0 : (0 : Int) ≤ i := by omega
          have hi1 : (i : Int) < n := by have := HJ.out; omega
          have hi2 : i < n := by have := HJ.out; omega
          go_region_held3 (fun w' => w'.cell? ⟨wr.heap.size, 0, none⟩ = some (.string nm) ∧ w'.cell? (ad.add (i * 2)) = some (.string p0.1))
            (first | with_reducible exact hS1 | with_reducible exact hS2)
            (first
            | (go_at_call 44
               refine (goodName_any nm _ (by have := (goodN_size HP.out.2.2.1).2; unfold maxLen; omega)).mono ?_
               rintro e w2 ⟨rfl, hb2⟩
               rw [HP.out.2.2.1]
               have hX2 := (show Box (wr.alloc (.cells #[.string nm, .slice x m cx] 37)).drew _ _ _ from HX.out).next hb2
               have hS2 : w2.cell? ⟨wr.heap.size, 0, none⟩ = some (.string nm) ∧ w2.cell? (ad.add (i * 2)) = some (.string p0.1) := ⟨hX2.cell 0, (hb2.cell (Nat.lt_of_lt_of_le hlt2 (by simp))).trans hS1.2⟩
               have H2 := Lib.hid (And.intro hX2 hb2)
               clear hX2 hb2))
          all_goals
            rw [HBL.out]
            go_wp2_with fail
            go_meet
            case rel => exact ⟨rfl, (below_drew (Below.refl _ _)).trans H2.out.2⟩
      case rest =>
        obtain ⟨rfl, hb2⟩ := hcut
        have hbw : Below wr.heap.size wr wc := (Below.al wr _).trans (hb2.mono (by simp))
        have hX2 := HX.out.next hb2
        have hxs : wc.heap.size ≠ wr.heap.size := by have := hX2.lt; omega
        have HC := Lib.hid (And.intro hbw hX2)
        have HRd : Hid (∀ W' : World, Below wr.heap.size wr W' → Rd W' W'.heap.size x (bv bs)) := fun W' hb => (HP.out.2.1.mono HDD.out.2.2.size).next hb
        clear hb2 hbw hX2 hx0
        go_upto_region 12 with fail
        have hb0 := HC.out.1.trans ((Below.al wc (.cells newF 94)).mono HC.out.1.size)
        have hS0 : (wc.alloc (.cells newF 94)).drew.cell? ⟨wr.heap.size, 1, none⟩ = some (.slice x m cx) := (HC.out.2.alloc _).cell 1
        have HB0 := Lib.hid hb0
        clear hb0
        go_region_held3 (fun w' => w'.cell? ⟨wr.heap.size, 1, none⟩ = some (.slice x m cx))
          (first | with_reducible exact hS0 | with_reducible exact hS1 | with_reducible exact hS2 | with_reducible exact hS3 | with_reducible exact hS4)
          (first
          | (go_at_call 45
             have z0 := hS0
             clear z0
             refine (clone_any x m cx bs _ (HRd.out _ (below_drew HB0.out)) HP.out.2.2.2.2 (by omega)).mono ?_
             rintro e w1 ⟨b1, c1, rfl, hr1, hb1⟩
             have hbx := (show Below (wc.alloc (.cells newF 94)).heap.size (wc.alloc (.cells newF 94)) w1 from (below_drew (Below.refl _ _)).trans hb1)
             have hS1 : w1.cell? ⟨wr.heap.size, 1, none⟩ = some (.slice x m cx) := ((HC.out.2.alloc _).next hbx).cell 1
             have H1c := Lib.hid (And.intro hr1 hbx)
             clear hr1 hb1 hbx hS0)
          | (go_at_call 45
             refine (clone_any x m cx bs _ (HRd.out _ (HB0.out.trans (H1c.out.2.mono (Nat.le_trans HC.out.1.size (by simp))))) HP.out.2.2.2.2 (by omega)).mono ?_
             rintro e w2 ⟨b2, c2, rfl, hr2, hb2⟩
             have hBx := ((HC.out.2.alloc (.cells newF 94)).next H1c.out.2).next hb2
             have hS2 : w2.cell? ⟨wr.heap.size, 1, none⟩ = some (.slice x m cx) := hBx.cell 1
             have hS3 : (w2.setCell ⟨wc.heap.size, 0, none⟩ (.slice b1 m c1)).cell? ⟨wr.heap.size, 1, none⟩ = some (.slice x m cx) := (hBx.far (fun e => hxs e.symm) _).cell 1
             have hS4 : ((w2.setCell ⟨wc.heap.size, 0, none⟩ (.slice b1 m c1)).setCell ⟨wc.heap.size, 1, none⟩ (.slice b2 m c2)).cell? ⟨wr.heap.size, 1, none⟩ = some (.slice x m cx) := ((hBx.far (fun e => hxs e.symm) _).far (fun e => hxs e.symm) _).cell 1
             have hfB := ((Box.new wc 94 newF).next H1c.out.2).next hb2
             have hff := hfB.free
             have hfc := hfB.cell
             have hfB2 := hfB.set_ 0 (.slice b1 m c1)
             have hff2 := hfB2.free
             have hfc2 := hfB2.cell
             have H2c := Lib.hid (And.intro hr2 (And.intro hb2 hBx))
             clear hr2 hb2 hBx hfB hfB2 hS1))
        go_upto_region 13 with fail
        have hFM := ld_facts q (fs.take j) (asc_take2 H.out.1.asc (Nat.le_of_lt hlt))
        have hD2 : DM wc L d fb (ldS q (fs.take j)) ms mf vc := HDD.out.1.keep HC.out.1.size fun b hb => HC.out.1.block b (HDD.out.1.lab b hb)
        obtain ⟨L2, hD3, hl1, hl2⟩ := hD2.filled (ld_inv (ldok_pre H.out.1 (Nat.le_of_lt hlt)) (Nat.le_refl _)).ok HP.out.2.2.2.2 H1c.out.2 H2c.out.2.1 H1c.out.1 H2c.out.1
        have hX3 := (H2c.out.2.2.far (p := ⟨wc.heap.size, 0, none⟩) (fun e => hxs e.symm) (.slice b1 m c1)).far (p := ⟨wc.heap.size, 1, none⟩) (fun e => hxs e.symm) (.slice b2 m c2)
        have hz3 : wc.heap.size ≤ w2.heap.size := by have h1 := H1c.out.2.size; have h2 := H2c.out.2.1.size; simp at h1; omega
        have hbB3 : Below wr.heap.size wr ((w2.setCell ⟨wc.heap.size, 0, none⟩ (.slice b1 m c1)).setCell ⟨wc.heap.size, 1, none⟩ (.slice b2 m c2)) := by
          have h0 := HB0.out.trans ((H1c.out.2.trans (H2c.out.2.1.mono H1c.out.2.size)).mono (Nat.le_trans HC.out.1.size (by simp)))
          exact (h0.setCell (p := ⟨wc.heap.size, 0, none⟩) HC.out.1.size _).setCell (p := ⟨wc.heap.size, 1, none⟩) HC.out.1.size _
        obtain ⟨w3, hw3⟩ : ∃ w3, ((w2.setCell ⟨wc.heap.size, 0, none⟩ (.slice b1 m c1)).setCell ⟨wc.heap.size, 1, none⟩ (.slice b2 m c2)) = w3 := ⟨_, rfl⟩
        rw [hw3] at hD3 hX3 hbB3 ⊢
        clear hw3 hS2 hS3 hS4 hff hfc hff2 hfc2
        obtain ⟨s1, hs1⟩ : ∃ s1, ({ ldS q (fs.take j) with files := (ldS q (fs.take j)).files ++ [⟨bs, []⟩] } : Dk) = s1 := ⟨_, rfl⟩
        rw [hs1] at hD3
        have hsd : s1.dchs = [] := by rw [← hs1]; exact hFM.2.2.1
        have hsf : s1.safe = ldL (fs.take j) 0 := by rw [← hs1]; exact hFM.1
        have hss : s1.seen = s1.safe := by unfold Dk.seen; rw [hsd]; rfl
        have hlt' : (fs.take j).length = j := by rw [List.length_take, H.out.2.1]; omega
        have hno : ∀ x ∈ s1.safe.map (bk (fb ++ [wc.heap.size])), x.1 ≠ nm := fun x hx e => by
          obtain ⟨y, hy, rfl⟩ := List.mem_map.1 hx
          rw [hsf] at hy
          obtain ⟨⟨p', hp', e'⟩, _⟩ := ldL_mem _ 0 y hy
          obtain ⟨i', hi', rfl⟩ := List.getElem_of_mem hp'
          obtain ⟨h2, e2⟩ := List.getElem?_eq_some_iff.1 HP.out.1
          have hi'' : i' < j := by rw [hlt'] at hi'; exact hi'
          have := asc_pre H.out.1.asc (List.getElem?_eq_getElem (show i' < fs.length by omega)) HP.out.1 hi'' hlt
          rw [List.getElem_take] at e'
          rw [e'] at this
          have e3 : y.1 = nm := e
          rw [e3, kc_self] at this
          exact absurd this (by decide)
        have hget : getL nm (s1.safe.map (bk (fb ++ [wc.heap.size]))) = none := get_none.2 hno
        have hsz32 : nm.size ≤ 32 := (goodN_size HP.out.2.2.1).2
        have hlen : (s1.safe.map (bk (fb ++ [wc.heap.size]))).length < 1000000000000 := by rw [List.length_map, hsf, ldL_len, hlt']; omega
        have hD3d : DM w3.drew L2 d (fb ++ [wc.heap.size]) s1 ms mf vc := hD3.keep (Nat.le_refl _) (fun _ _ => rfl)
        have hmsne : ms ≠ mf := fun e => by have h1 := hD3.lms; have h2 := hD3.lmf; rw [e] at h1; omega
        obtain ⟨hdms, hdmf, _, _⟩ := hD3.parts
        have hxms : wr.heap.size ≠ ms := fun e => by have := HDD.out.1.lab ms (by rw [HDD.out.1.lms]; omega); omega
        have hxmf : wr.heap.size ≠ mf := fun e => by have := HDD.out.1.lab mf (by rw [HDD.out.1.lmf]; omega); omega
        have hseenM := hD3d.seen
        rw [hss] at hseenM
        obtain ⟨st1, u1, r1, g1, q1⟩ := MD.entry (f := wc.heap.size) hseenM hget hsz32 hlen
        obtain ⟨u2, r2, m2, g2⟩ := q1 u1 rfl
        have hsafe2 : MD u2 mf (s1.safe.map (bk (fb ++ [wc.heap.size]))) := (hD3d.safe.keep (g1.block mf hD3d.safe.lt (fun e => hmsne (by injection e with e; exact e.symm)))).keep (g2.block mf (Nat.lt_of_lt_of_le hD3d.safe.lt g1.size) (fun e => hmsne (by injection e with e; exact e.symm)))
        obtain ⟨st2, u3, r3, g3, q3⟩ := MD.entry (f := wc.heap.size) hsafe2 hget hsz32 hlen
        obtain ⟨u4, r4, m4, g4⟩ := q3 u3 rfl
        have hms4 : MD u4 ms (putL nm wc.heap.size (s1.safe.map (bk (fb ++ [wc.heap.size])))) := (m2.keep (g3.block ms m2.lt (fun e => hmsne (by injection e)))).keep (g4.block ms (Nat.lt_of_lt_of_le m2.lt g3.size) (fun e => hmsne (by injection e)))
        have hblk : ∀ b, b < w3.heap.size → b ≠ ms → b ≠ mf → u1.heap[b]? = w3.heap[b]? ∧ u2.heap[b]? = w3.heap[b]? ∧ u3.heap[b]? = w3.heap[b]? ∧ u4.heap[b]? = w3.heap[b]? := fun b hb h1 h2 => by
          have k1 := g1.block b hb (fun e => h1 (by injection e))
          have k2 := g2.block b (Nat.lt_of_lt_of_le hb g1.size) (fun e => h1 (by injection e))
          have k3 := g3.block b (Nat.lt_of_lt_of_le hb (Nat.le_trans g1.size g2.size)) (fun e => h2 (by injection e))
          have k4 := g4.block b (Nat.lt_of_lt_of_le hb (Nat.le_trans (Nat.le_trans g1.size g2.size) g3.size)) (fun e => h2 (by injection e))
          exact ⟨k1, k2.trans k1, k3.trans (k2.trans k1), k4.trans (k3.trans (k2.trans k1))⟩
        have hc4 : Chg (fun b => b = ms ∨ b = mf) w3 u4 := ⟨(g4.os.trans g3.os).trans (g2.os.trans g1.os), (g4.tape.trans g3.tape).trans (g2.tape.trans g1.tape), (g4.output.trans g3.output).trans (g2.output.trans g1.output), Nat.le_trans (Nat.le_trans g1.size g2.size) (Nat.le_trans g3.size g4.size), fun k hk hn => (hblk k hk (fun e => hn (.inl e)) (fun e => hn (.inr e))).2.2.2⟩
        have hkf : s1.files.length = j + 1 := by rw [← hs1]; show ((ldS q (fs.take j)).files ++ [_]).length = _; rw [hFM.2.1]; simp; rw [H.out.2.1]; omega
        have hfbk : (fb ++ [wc.heap.size]).getD j 0 = wc.heap.size := by
          have h1 := hD3.fl
          rw [hkf, List.length_append, List.length_singleton] at h1
          have h2 : fb.length = j := by omega
          rw [← h2]; simp
        have hD4 := hD3.load (n := nm) (k := j) hsd (by omega) (by rw [hfbk]; exact hms4) (by rw [hfbk]; exact m4) hc4
        have hX4 : Box u4 wr.heap.size 37 #[.string nm, .slice x m cx] := ((hblk wr.heap.size hX3.lt hxms hxmf).2.2.2).trans hX3
        have cD0 := hD3.box.cell 0
        have cD1 := hD3.box.cell 1
        have cX0 := hX3.cell 0
        have cAll : ∀ u : World, (∀ b, b < w3.heap.size → b ≠ ms → b ≠ mf → u.heap[b]? = w3.heap[b]?) → u.cell? ⟨d, 0, none⟩ = some (.map (some ms)) ∧ u.cell? ⟨d, 1, none⟩ = some (.map (some mf)) ∧ u.cell? ⟨wr.heap.size, 0, none⟩ = some (.string nm) := fun u hu =>
          ⟨(World.cell?_of_block (hu d hD3.box.lt hdms hdmf)).trans cD0, (World.cell?_of_block (hu d hD3.box.lt hdms hdmf)).trans cD1, (World.cell?_of_block (hu wr.heap.size hX3.lt hxms hxmf)).trans cX0⟩
        have t0 : w3.drew.cell? ⟨d, 0, none⟩ = some (.map (some ms)) ∧ w3.drew.cell? ⟨d, 1, none⟩ = some (.map (some mf)) ∧ w3.drew.cell? ⟨wr.heap.size, 0, none⟩ = some (.string nm) := ⟨cD0, cD1, cX0⟩
        have t1 := cAll u1 fun b h1 h2 h3 => (hblk b h1 h2 h3).1
        have t2 := cAll u2 fun b h1 h2 h3 => (hblk b h1 h2 h3).2.1
        have t3 := cAll u3 fun b h1 h2 h3 => (hblk b h1 h2 h3).2.2.1
        have t4 := cAll u4 fun b h1 h2 h3 => (hblk b h1 h2 h3).2.2.2
        have HR4 := Lib.hid (And.intro hD4 (And.intro hX4 (And.intro hc4 (And.intro hbB3 (And.intro hl1 (And.intro hl2 hs1))))))
        clear hD4 hX4 hc4 hbB3 hl1 hl2 hs1 hblk cAll hms4 m2 m4 g1 g2 g3 g4 q1 q3 hsafe2 hseenM hD3d hD3 hno hget hlen hsf hss hsd hD2 hX3 hkf hfbk hFM cD0 cD1 cX0
        go_region_held3 (fun w' => w'.cell? ⟨d, 0, none⟩ = some (.map (some ms)) ∧ w'.cell? ⟨d, 1, none⟩ = some (.map (some mf)) ∧ w'.cell? ⟨wr.heap.size, 0, none⟩ = some (.string nm))
          (first | with_reducible exact t0 | with_reducible exact t1 | with_reducible exact t2 | with_reducible exact t3 | with_reducible exact t4)
          (fail)
        go_upto_region 14 with fail
        have hFM := ld_facts q (fs.take j) (asc_take2 H.out.1.asc (Nat.le_of_lt hlt))
        obtain ⟨uu, huu⟩ : ∃ uu, sumL (fs.take j) = uu := ⟨_, rfl⟩
        have huu9 : uu ≤ 1073741824 := by rw [← huu]; exact sum_pre H.out.1 (Nat.le_of_lt hlt)
        have hus : ({ s1 with safe := putL nm j s1.safe } : Dk).used = (uu : Int) := by rw [← HR4.out.2.2.2.2.2.2, ← huu]; exact hFM.2.2.2.1
        have hdb := HR4.out.1.box
        have hdc := hdb.cell 4
        have hdc4 : u4.drew.cell? ⟨d, 4, none⟩ = some (.int .i64 (uu : Int)) := by rw [← hus]; exact hdc
        have hdf := hdb.free 4
        have hdl := hdb.lt
        have hxc4 : u4.drew.cell? ⟨wr.heap.size, 1, none⟩ = some (.slice x m cx) := HR4.out.2.1.cell 1
        have hwm : IntKind.i64.wrap ((uu : Int) + m) = (uu : Int) + m := IntWalk.i64_in _ (by omega)
        have HU := Lib.hid (And.intro huu (And.intro hus hdb))
        have HFM := Lib.hid hFM
        clear t0 t1 t2 t3 t4 r1 r2 r3 r4 hus hdb hFM hdc huu
        go_still_tail 10, (by kernel_rfl)
        go_wp2
        go_roundw
        case rel =>
          have hfl : (ldS q (fs.take j)).files.length = j := by rw [HFM.out.2.1, List.length_map, hlt']
          have hD5 := HR4.out.1.dx (chg_at (Chg.refl _ u4) 4 (.int .i64 ((uu : Int) + m))) (q := (s1.quota, (uu : Int) + m, s1.fuse, s1.dead, s1.ops)) (by simpa using HU.out.2.2.set_ 4 (.int .i64 ((uu : Int) + m)))
          have e : ({ s1 with safe := putL nm j s1.safe } : Dk).dx (s1.quota, (uu : Int) + m, s1.fuse, s1.dead, s1.ops) = ldS q (fs.take (j + 1)) := by
            rw [HP.out.2.2.2.1, ldS_snoc, ← HR4.out.2.2.2.2.2.2]
            unfold Dk.dx ldStep
            simp only [hfl, HFM.out.2.2.2.1, HU.out.1, HP.out.2.2.2.2]
          rw [e] at hD5
          have hLms : w.heap.size ≤ ms := HDD.out.2.1 ms (by rw [HDD.out.1.lms]; omega)
          have hLmf : w.heap.size ≤ mf := HDD.out.2.1 mf (by rw [HDD.out.1.lmf]; omega)
          have hLd : w.heap.size ≤ d := HDD.out.2.1 d (by rw [HDD.out.1.ld]; omega)
          have hww := HDD.out.2.2.size
          have hw3 := HR4.out.2.2.2.1.size
          have hB1 : Below w.heap.size w u4 := (HDD.out.2.2.trans (HR4.out.2.2.2.1.mono hww)).trans (HR4.out.2.2.1.below (Nat.le_trans hww hw3) fun b hb => by
            rcases hb with rfl | rfl
            · exact hLms
            · exact hLmf)
          refine ⟨j + 1, L2, fb ++ [wc.heap.size], by omega, by go_num, hD5.keep (Nat.le_refl _) (fun _ _ => rfl), fun b hb => ?_, below_drew (hB1.setCell (p := ⟨d, 4, none⟩) hLd _)⟩
          rcases HR4.out.2.2.2.2.2.1 b hb with h1 | h1
          · exact HDD.out.2.1 b h1
          · have := HC.out.1.size; omega
        case measure => simp [intOf]; omega
    · have hin : g = j := by omega
      subst hin
      have hlt : g < n := hg
      have hj0 : (0 : Int) ≤ g := by omega
      have hj1 : (g : Int) < n := by omega
      obtain ⟨hBA, hsz⟩ := HBD.out
      obtain ⟨p, hp, hbad⟩ := hBA
      have hIw := H.out.2.2.below hB
      obtain ⟨ad, x, cx, rfl, had, c0, c1, hrx⟩ := hIw g p hp
      have hsp := hsz p (List.mem_of_getElem? hp)
      obtain ⟨nm, bs⟩ := p
      obtain ⟨m, hm⟩ : ∃ m, bs.length = m := ⟨_, rfl⟩
      simp only at c0 c1 hrx hsp hbad
      rw [hm] at c1
      have HP := Lib.hid (And.intro hp (And.intro hrx (And.intro hsp hm)))
      have HDD := Lib.hid (And.intro hD (And.intro hL hB))
      clear hD hL hB hsz hp hrx hm hsp
      have hxb := (Box.new wr 37 #[.string nm, .slice x m cx])
      have HX := Lib.hid hxb
      clear hxb
      have hx0 := HX.out.cell
      go_upto_region 9 with fail
      go_cut [43] (fun s43 wx => s43 = .bool true ∧ Below (wr.alloc (.cells #[.string nm, .slice x m cx] 37)).heap.size (wr.alloc (.cells #[.string nm, .slice x m cx] 37)) wx)
      case first =>
        by_cases hgn : goodN nm = true
        · have hbad2 : ∃ (i : Nat) (p0 : FE), g = i + 1 ∧ fs[i]? = some p0 ∧ kc p0.1 nm ≠ -1 := by
            rcases hbad with e | e
            · rw [hgn] at e; exact absurd e (by decide)
            · exact e
          have HG := Lib.hid hgn
          clear hbad hgn
          obtain ⟨i, p0, hi, hp0, hless⟩ := hbad2
          obtain ⟨ad0, x0, cx0, ea, _, d0, _, _⟩ := hIw i p0 hp0
          cases ea
          have hjp : (0 : Int) < g := by omega
          have hbl : Op.bytesLess p0.1.toList nm.toList = false := by
            rw [ByteArray.toList_eq, ByteArray.toList_eq]
            exact Bool.eq_false_iff.2 fun e => hless ((cmpB_less _ _).2 e)
          have HBL := Lib.hid hbl
          have HI := Lib.hid (And.intro d0 (And.intro hless hp0))
          have HJ := Lib.hid hi
          clear hi hp0 hless hbl d0 hIw
          have hlt2 : (ad.add (i * 2)).block < wr.heap.size := by rw [add_block]; exact Nat.lt_of_lt_of_le had HDD.out.2.2.size
          have hS1 : (wr.alloc (.cells #[.string nm, .slice x m cx] 37)).drew.cell? ⟨wr.heap.size, 0, none⟩ = some (.string nm) ∧ (wr.alloc (.cells #[.string nm, .slice x m cx] 37)).drew.cell? (ad.add (i * 2)) = some (.string p0.1) :=
            ⟨HX.out.cell 0, ((Below.al wr (.cells #[.string nm, .slice x m cx] 37)).cell hlt2).trans HI.out.1⟩
          have hjn : 0 < g := by have := HJ.out; omega
          have hii : (g : Int) - 1 = (i : Int) := by have := HJ.out; omega
          have hwr : IntKind.i64.wrap ((g : Int) - 1) = (i : Int) := by rw [hii]; exact IntWalk.i64_in _ (by have := HJ.out; omega)
          have hwi : IntKind.i64.wrap (i : Int) = (i : Int) := IntWalk.i64_in _ (by have := HJ.out; omega)
          have hw64 : wrap64 ((g : Int) - 1) = (i : Int) := by rw [hii]; exact IntWalk.wrap64_in _ (by have := HJ.out; omega)
          have hi0 : (0 : Int) ≤ i := by omega
          have hi1 : (i : Int) < n := by have := HJ.out; omega
          have hi2 : i < n := by have := HJ.out; omega
          go_region_held3 (fun w' => w'.cell? ⟨wr.heap.size, 0, none⟩ = some (.string nm) ∧ w'.cell? (ad.add (i * 2)) = some (.string p0.1))
            (first | with_reducible exact hS1 | with_reducible exact hS2)
            (first
            | (go_at_call 44
               refine (goodName_any nm _ HP.out.2.2.1).mono ?_
               rintro e w2 ⟨rfl, hb2⟩
               rw [HG.out]
               have hX2 := (show Box (wr.alloc (.cells #[.string nm, .slice x m cx] 37)).drew _ _ _ from HX.out).next hb2
               have hS2 : w2.cell? ⟨wr.heap.size, 0, none⟩ = some (.string nm) ∧ w2.cell? (ad.add (i * 2)) = some (.string p0.1) := ⟨hX2.cell 0, (hb2.cell (Nat.lt_of_lt_of_le hlt2 (by simp))).trans hS1.2⟩
               have H2 := Lib.hid (And.intro hX2 hb2)
               clear hX2 hb2))
          all_goals
            rw [HBL.out]
            go_wp2_with fail
            go_meet
            case rel => exact ⟨rfl, (below_drew (Below.refl _ _)).trans H2.out.2⟩
        · have HG := Lib.hid (show goodN nm = false from Bool.eq_false_iff.2 hgn)
          clear hbad hgn
          have hS1 : (wr.alloc (.cells #[.string nm, .slice x m cx] 37)).drew.cell? ⟨wr.heap.size, 0, none⟩ = some (.string nm) := HX.out.cell 0
          refine wp_region_held_drew (S := fun w' => w'.cell? ⟨wr.heap.size, 0, none⟩ = some (.string nm)) (by kernel_rfl) hS1 fun _ => ?_
          refine hold_take 0 (v := ?_) rfl (by kernel_rfl) (by kernel_rfl) (by kernel_rfl) (fun _ _ _ h => h) (Or.inl ⟨by rfl, ?hy⟩) hS1 ?_
          case hy => first | (intro w hSw; go_simp; done) | (intro w hSw; go_simp; with_reducible rfl)
          simp only [Act.put, List.setIfInBounds_toArray, List.set_cons_zero, List.set_cons_succ]
          refine hold_take 1 (v := ?_) rfl (by kernel_rfl) (by kernel_rfl) (by kernel_rfl) (fun _ _ _ h => h) (Or.inl ⟨by rfl, ?hy⟩) hS1 ?_
          case hy => first | (intro w hSw; go_simp; done) | (intro w hSw; go_simp; with_reducible rfl)
          simp only [Act.put, List.setIfInBounds_toArray, List.set_cons_zero, List.set_cons_succ]
          refine hold_step 2 rfl (by kernel_rfl) fun K hK => ?_
          go_simp
          go_at_call 44
          refine (goodName_any nm _ HP.out.2.2.1).mono ?_
          rintro e w2 ⟨rfl, hb2⟩
          rw [HG.out]
          have hX2 := (show Box (wr.alloc (.cells #[.string nm, .slice x m cx] 37)).drew _ _ _ from HX.out).next hb2
          have hS2 : w2.cell? ⟨wr.heap.size, 0, none⟩ = some (.string nm) := hX2.cell 0
          have H2 := Lib.hid (And.intro hX2 hb2)
          clear hX2 hb2
          go_simp
          refine hK.out _ _ hS2 ?_
          clear hK K
          refine hold_take 3 (v := ?_) rfl (by kernel_rfl) (by kernel_rfl) (by kernel_rfl) (fun _ _ _ h => h) (Or.inl ⟨by rfl, ?hy⟩) hS2 ?_
          case hy => first | (intro w hSw; go_simp; done) | (intro w hSw; go_simp; with_reducible rfl)
          simp only [Act.put, List.setIfInBounds_toArray, List.set_cons_zero, List.set_cons_succ]
          refine hold_take 4 (v := ?_) rfl (by kernel_rfl) (by kernel_rfl) (by kernel_rfl) (fun _ _ _ h => h) (Or.inl ⟨by rfl, ?hy⟩) hS2 ?_
          case hy => first | (intro w hSw; go_simp; done) | (intro w hSw; go_simp; with_reducible rfl)
          simp only [Act.put, List.setIfInBounds_toArray, List.set_cons_zero, List.set_cons_succ]
          refine hold_take 5 (v := undef) rfl (by kernel_rfl) (by kernel_rfl) (by kernel_rfl) (fun _ _ _ h => h) (Or.inr ⟨by rfl, rfl⟩) hS2 ?_
          simp only [Act.put, List.setIfInBounds_toArray, List.set_cons_zero, List.set_cons_succ]
          refine hold_take 6 (v := undef) rfl (by kernel_rfl) (by kernel_rfl) (by kernel_rfl) (fun _ _ _ h => h) (Or.inr ⟨by rfl, rfl⟩) hS2 ?_
          simp only [Act.put, List.setIfInBounds_toArray, List.set_cons_zero, List.set_cons_succ]
          refine hold_take 7 (v := undef) rfl (by kernel_rfl) (by kernel_rfl) (by kernel_rfl) (fun _ _ _ h => h) (Or.inr ⟨by rfl, rfl⟩) hS2 ?_
          simp only [Act.put, List.setIfInBounds_toArray, List.set_cons_zero, List.set_cons_succ]
          refine hold_take 8 (v := undef) rfl (by kernel_rfl) (by kernel_rfl) (by kernel_rfl) (fun _ _ _ h => h) (Or.inr ⟨by rfl, rfl⟩) hS2 ?_
          simp only [Act.put, List.setIfInBounds_toArray, List.set_cons_zero, List.set_cons_succ]
          refine hold_take 9 (v := undef) rfl (by kernel_rfl) (by kernel_rfl) (by kernel_rfl) (fun _ _ _ h => h) (Or.inr ⟨by rfl, rfl⟩) hS2 ?_
          simp only [Act.put, List.setIfInBounds_toArray, List.set_cons_zero, List.set_cons_succ]
          refine hold_take 10 (v := undef) rfl (by kernel_rfl) (by kernel_rfl) (by kernel_rfl) (fun _ _ _ h => h) (Or.inr ⟨by rfl, rfl⟩) hS2 ?_
          simp only [Act.put, List.setIfInBounds_toArray, List.set_cons_zero, List.set_cons_succ]
          refine hold_take 11 (v := undef) rfl (by kernel_rfl) (by kernel_rfl) (by kernel_rfl) (fun _ _ _ h => h) (Or.inr ⟨by rfl, rfl⟩) hS2 ?_
          simp only [Act.put, List.setIfInBounds_toArray, List.set_cons_zero, List.set_cons_succ]
          refine hold_take 12 (v := undef) rfl (by kernel_rfl) (by kernel_rfl) (by kernel_rfl) (fun _ _ _ h => h) (Or.inr ⟨by rfl, rfl⟩) hS2 ?_
          simp only [Act.put, List.setIfInBounds_toArray, List.set_cons_zero, List.set_cons_succ]
          refine hold_take 13 (v := undef) rfl (by kernel_rfl) (by kernel_rfl) (by kernel_rfl) (fun _ _ _ h => h) (Or.inr ⟨by rfl, rfl⟩) hS2 ?_
          simp only [Act.put, List.setIfInBounds_toArray, List.set_cons_zero, List.set_cons_succ]
          refine hold_take 14 (v := undef) rfl (by kernel_rfl) (by kernel_rfl) (by kernel_rfl) (fun _ _ _ h => h) (Or.inr ⟨by rfl, rfl⟩) hS2 ?_
          simp only [Act.put, List.setIfInBounds_toArray, List.set_cons_zero, List.set_cons_succ]
          refine hold_take 15 (v := undef) rfl (by kernel_rfl) (by kernel_rfl) (by kernel_rfl) (fun _ _ _ h => h) (Or.inr ⟨by rfl, rfl⟩) hS2 ?_
          simp only [Act.put, List.setIfInBounds_toArray, List.set_cons_zero, List.set_cons_succ]
          refine hold_take 16 (v := undef) rfl (by kernel_rfl) (by kernel_rfl) (by kernel_rfl) (fun _ _ _ h => h) (Or.inr ⟨by rfl, rfl⟩) hS2 ?_
          simp only [Act.put, List.setIfInBounds_toArray, List.set_cons_zero, List.set_cons_succ]
          refine hold_take 17 (v := undef) rfl (by kernel_rfl) (by kernel_rfl) (by kernel_rfl) (fun _ _ _ h => h) (Or.inr ⟨by rfl, rfl⟩) hS2 ?_
          simp only [Act.put, List.setIfInBounds_toArray, List.set_cons_zero, List.set_cons_succ]
          refine hold_take 18 (v := ?_) rfl (by kernel_rfl) (by kernel_rfl) (by kernel_rfl) (fun _ _ _ h => h) (Or.inl ⟨by rfl, ?hy⟩) hS2 ?_
          case hy => first | (intro w hSw; go_simp; done) | (intro w hSw; go_simp; with_reducible rfl)
          simp only [Act.put, List.setIfInBounds_toArray, List.set_cons_zero, List.set_cons_succ]
          refine wpAnyH_done (by kernel_rfl) ?_ _
          go_wp2_with fail
          go_meet
          case rel => exact ⟨rfl, (below_drew (Below.refl _ _)).trans H2.out.2⟩
      case rest =>
        obtain ⟨rfl, hb2⟩ := hcut
        have HB2 := Lib.hid ((HDD.out.2.2.trans ((Below.al wr _).mono HDD.out.2.2.size)).trans (hb2.mono (by have := HDD.out.2.2.size; simp; omega)))
        clear hb2
        go_wp2
        go_ret2
        exact ⟨rfl, HB2.out⟩
end Go.Proofs.Ytebeefkibbbkdaa
/- ManifestWhole: plain laws. -/
namespace Go.Proofs.Ytebeefkibbbkdaa
open Go.RowKit Go.Maps

theorem sp_fuse (s : Dk) : (spendS s).fuse = if s.fuse > 0 then s.fuse - 1 else s.fuse := by
  unfold spendS
  by_cases h : s.fuse = 0
  · rw [if_pos h]
    simp [h]
  · rw [if_neg h]
/-- An operation that went well has burnt the fuse. -/
def Burnt (s s' : Dk) : Prop := s.fuse ≠ 0 ∧ s'.fuse = (spendS s).fuse
theorem sp_zero {s : Dk} (h : spendE s = 0) : s.fuse ≠ 0 := by
  unfold spendE at h
  split at h
  · cases h
  · assumption
section
variable {s s' : Dk} {nm tm : ByteArray} {b : List UInt8} {x : Int}
theorem create_burnt (h : createE tm s = 0) : Burnt s (createS tm s) := by
  unfold createE at h
  unfold createS
  split at h
  · cases h
  · rename_i h0
    split at h
    · exact absurd h h0
    · rename_i h1
      split at h
      · cases h
      · rename_i h2
        have hf := sp_zero h
        rw [if_neg h0, if_neg h1, if_neg h2, if_neg hf]
        exact ⟨hf, rfl⟩
theorem append_burnt (h : appendE tm b s = 0) : Burnt s (appendS tm b s) := by
  unfold appendE at h
  unfold appendS
  split at h
  · rename_i h0; exact absurd h h0
  · rename_i h0
    split at h
    · cases h
    · rename_i h1
      have hf := sp_zero h
      rw [if_neg h0, if_neg h1, if_neg hf]
      exact ⟨hf, rfl⟩
theorem sync_burnt (h : syncE tm s = 0) : Burnt s (syncS tm s) := by
  unfold syncE at h
  unfold syncS
  split at h
  · rename_i h0; exact absurd h h0
  · rename_i h0
    have hf := sp_zero h
    rw [if_neg h0, if_neg hf]
    exact ⟨hf, rfl⟩
theorem remove_burnt (h : removeE tm s = 0) : Burnt s (removeS tm s) := by
  unfold removeE at h
  unfold removeS
  split at h
  · rename_i h0; exact absurd h h0
  · rename_i h0
    have hf := sp_zero h
    rw [if_neg h0, if_neg hf]
    exact ⟨hf, rfl⟩
theorem rename_burnt (h : renameE tm nm s = 0) : Burnt s (renameS tm nm s) := by
  unfold renameE at h
  unfold renameS
  split at h
  · cases h
  · rename_i h0
    split at h
    · cases h
    · rename_i h1
      split at h
      · cases h
      · rename_i h2
        split at h
        · rename_i h3; exact absurd h h3
        · rename_i h3
          have hf := sp_zero h
          rw [if_neg h0, if_neg h1, if_neg h2, if_neg h3, if_neg hf]
          exact ⟨hf, rfl⟩
theorem syncDir_burnt (h : syncDirE s = 0) : Burnt s (syncDirS s) := by
  unfold syncDirE at h
  unfold syncDirS
  split at h
  · cases h
  · rename_i h0
    have hf := sp_zero h
    rw [if_neg h0, if_neg hf]
    exact ⟨hf, rfl⟩
theorem op_burnt (k : Nat) (h : opE nm tm b k s = 0) : Burnt s (opS nm tm b k s) := by
  match k, h with
  | 0, h => exact create_burnt h
  | 1, h => exact append_burnt h
  | 2, h => exact sync_burnt h
  | 3, h => exact rename_burnt h
  | _ + 4, h => exact syncDir_burnt h
theorem run_burnt : ∀ (f k : Nat) (s : Dk), (runK nm tm b f k s).1 = 0 → s.fuse < 0 ∨ (f : Int) ≤ s.fuse
  | 0, _, s, _ => by omega
  | f + 1, k, s, h => by
    by_cases h0 : opE nm tm b k s = 0
    · have e : runK nm tm b (f + 1) k s = runK nm tm b f (k + 1) (opS nm tm b k s) := if_pos h0
      rw [e] at h
      have h1 := run_burnt f (k + 1) _ h
      obtain ⟨h2, h3⟩ := op_burnt k h0
      rw [h3, sp_fuse] at h1
      split at h1 <;> omega
    · exfalso
      have e : runK nm tm b (f + 1) k s = if 0 < k ∧ opE nm tm b k s ≠ 34 then (opE nm tm b k s, removeS tm (opS nm tm b k s)) else (opE nm tm b k s, opS nm tm b k s) := if_neg h0
      rw [e] at h
      split at h <;> exact h0 h
theorem repl_burnt (h : (replT nm tm b s).1 = 0) : s.fuse < 0 ∨ 5 ≤ s.fuse := by
  unfold replT at h
  split at h
  · rename_i h0; exact absurd h h0.1
  · split at h
    · split at h
      · rename_i h1
        have h2 := run_burnt 5 0 _ h
        obtain ⟨h3, h4⟩ := remove_burnt h1
        rw [h4, sp_fuse] at h2
        split at h2 <;> omega
      · rename_i h1; exact absurd h h1
    · split at h
      · have := run_burnt 5 0 _ h
        omega
      · rename_i h1 _; exact absurd h h1
end
/-- Whether there is an old file, and its bytes. -/
def imgW (nm : ByteArray) (old : List UInt8) (there : Bool) : List FE := if there = true then [(nm, old)] else []
section
variable {nm tm : ByteArray} {old b : List UInt8} {there : Bool} {f : Int} {s1 : Dk} {N : Nat}
theorem imgW_ok (hg : there = true → goodN nm = true) (ho : old.length ≤ 1048576) : LdOk 1073741824 (imgW nm old there) := by
  unfold imgW
  cases there with
  | false => exact ⟨by omega, List.Pairwise.nil, (fun p hp => by cases hp), by simp, by simp [sumL]⟩
  | true =>
    refine ⟨by omega, List.pairwise_singleton _ _, fun p hp => ?_, by simp, by simp [sumL]; omega⟩
    obtain rfl := List.mem_singleton.1 hp
    exact hg rfl
/-- What is left behind a replacement on such a disk. -/
structure LeftW (nm tm : ByteArray) (old b : List UInt8) (there : Bool) (e : Int) (left : List FE) : Prop where
  two : ∀ q ∈ left, q.1 = nm ∨ q.1 = tm
  byt : ∀ q ∈ left, q.1 = nm → (there = true ∧ q.2 = old) ∨ (e ≠ 30 ∧ q.2 = b)
  must : there = true → ∃ q ∈ left, q.1 = nm
  new : e = 0 → ∃ q ∈ left, q.1 = nm ∧ q.2 = b
  newB : e = 0 → ∀ q ∈ left, q.1 = nm → q.2 = b
  few : left.length ≤ 2
  sm : ∀ q ∈ left, q.2.length ≤ 1048576
  er : e = 0 ∨ e = 30 ∨ e = 34
theorem whole_left (hg : there = true → goodN nm = true) (ho : old.length ≤ 1048576) (hb : b.length ≤ 1048576) (hne : nm ≠ tm) (h1 : fuseS f (ldS 1073741824 (imgW nm old there)) = s1) (hI : s1.Inv 2) (hI2 : (replT nm tm b s1).2.Inv N) (ps : List Int) :
    LeftW nm tm old b there (replT nm tm b s1).1 (crashL (replT nm tm b s1).2 ps) := by
  have hok := imgW_ok (nm := nm) hg ho
  obtain ⟨g1, g2, g3, g4, g5, g6, g7, g8⟩ := ld_facts 1073741824 _ hok.asc
  have hs : s1 = { ldS 1073741824 (imgW nm old there) with fuse := max f (-1) } := by rw [← h1]; unfold fuseS; rw [if_neg (by rw [g7]; decide)]
  have hG : Gd nm tm (fun z => there = true ∧ z = old) (there = true) s1 := by
    refine (ld_gd (must := there = true) (A := fun z => there = true ∧ z = old) hok.asc (fun p hp => ?_) (fun h => ?_) (fun p hp => ?_)).same (s' := s1) (by rw [hs]) (by rw [hs]) (by rw [hs])
    · unfold imgW at hp
      cases there with
      | false => cases hp
      | true =>
        obtain rfl := List.mem_singleton.1 hp
        exact ⟨.inl rfl, fun _ => ⟨rfl, rfl⟩⟩
    · unfold imgW
      rw [if_pos h]
      exact ⟨_, List.mem_singleton.2 rfl, rfl⟩
    · unfold imgW at hp
      cases there with
      | false => cases hp
      | true =>
        obtain rfl := List.mem_singleton.1 hp
        exact ho
  have hal : s1.dead = false := by rw [hs]; exact g7
  have hsum : sumL (imgW nm old there) ≤ 1048576 := by
    unfold imgW
    split
    · simp [sumL]; omega
    · simp [sumL]
  have hfew : s1.seen.length < 65536 := by have := seen_few hI; omega
  have hroom : s1.used + b.length ≤ s1.quota := by
    have e1 : s1.used = ((sumL (imgW nm old there) : Nat) : Int) := by rw [hs]; exact g4
    have e2 : s1.quota = 1073741824 := by rw [hs]; exact g5
    omega
  have hlen : ∀ {A : List UInt8 → Prop} {must : Prop} {t : Dk}, Gd nm tm A must t → t.Inv N → (crashL t ps).length ≤ 2 := fun {A must t} hG hI => by
    obtain ⟨c1, _, _⟩ := hG.crash ps
    refine asc_two (nm := nm) (tm := tm) ?_ fun p hp => (c1 p hp).1
    obtain ⟨e, hle⟩ := left_at t ps
    generalize modn (pickV ps) (t.dchs.length + 1) = k at e hle
    have hsd : Sorted (dirAt t k) := Sorted.fold hI.ok.sorted
    unfold Asc crashL
    rw [e, List.pairwise_iff_getElem]
    intro i j hi' hj' hij
    have hil : i < (dirAt t k).length := by rwa [tornAll_len] at hi'
    have hjl : j < (dirAt t k).length := by rwa [tornAll_len] at hj'
    obtain ⟨b, g1, _⟩ := tornAll_was t (dirAt t k) ps.tail i _ (List.getElem?_eq_getElem hil)
    obtain ⟨c, g2, _⟩ := tornAll_was t (dirAt t k) ps.tail j _ (List.getElem?_eq_getElem hjl)
    rw [List.getElem?_eq_getElem hi'] at g1
    rw [List.getElem?_eq_getElem hj'] at g2
    injection g1 with g1
    injection g2 with g2
    rw [g1, g2]
    exact List.pairwise_iff_getElem.1 hsd i j hil hjl hij
  have hbad : (replT nm tm b s1) = (30, s1) → LeftW nm tm old b there (replT nm tm b s1).1 (crashL (replT nm tm b s1).2 ps) := fun e => by
    have hl := hlen (t := s1) hG (by rw [e] at hI2; exact hI2)
    rw [e]
    obtain ⟨c1, c2, c3⟩ := hG.crash ps
    exact ⟨fun q hq => (c1 q hq).1, fun q hq hn => .inl ((c1 q hq).2 hn), c2, (fun h => by cases h), (fun h => by cases h), hl, c3, .inr (.inl rfl)⟩
  cases hg1 : goodN nm with
  | false =>
    refine hbad ?_
    have : atE nm s1 = 30 := by unfold atE; rw [hal, hg1]; rfl
    unfold replT
    rw [this, if_pos (by decide)]
  | true =>
    cases hg2 : goodN tm with
    | false =>
      refine hbad ?_
      have : atE tm s1 = 30 := by unfold atE; rw [hal, hg2]; rfl
      unfold replT
      rw [if_neg (by rw [atE_one hal hg1]; split <;> simp), this, if_neg (by decide), if_neg (by decide)]
    | true =>
      rcases repl_gd hG hI hne hal hg1 hg2 hfew hroom hb with ⟨e, hG2⟩ | ⟨e, hG2, _⟩
      · obtain ⟨c1, c2, c3⟩ := hG2.crash ps
        refine ⟨fun q hq => (c1 q hq).1, fun q hq hn => .inr ⟨by rw [e]; decide, (c1 q hq).2 hn⟩, fun _ => c2 trivial, fun _ => ?_, fun _ q hq hn => (c1 q hq).2 hn, hlen hG2 hI2, c3, .inl e⟩
        obtain ⟨q, hq, hn⟩ := c2 trivial
        exact ⟨q, hq, hn, (c1 q hq).2 hn⟩
      · obtain ⟨c1, c2, c3⟩ := hG2.crash ps
        refine ⟨fun q hq => (c1 q hq).1, fun q hq hn => ?_, c2, (fun h => by rw [e] at h; cases h), (fun h => by rw [e] at h; cases h), hlen hG2 hI2, c3, .inr (.inr e)⟩
        rcases (c1 q hq).2 hn with h | h
        · exact .inl h
        · exact .inr ⟨by rw [e]; decide, h⟩
end
end Go.Proofs.Ytebeefkibbbkdaa
/- ManifestWhole: laid walked; what the law sees. -/
namespace Go.Proofs.Ytebeefkibbbkdaa
open Go.RowKit Go.Maps

theorem Dk.Inv.setFuse7 {s : Dk} {N : Nat} (n : Int) (h : s.Inv N) (hn : n ≤ 9223372036854775807) : (fuseS n s).Inv N := by
  unfold fuseS
  split
  · exact h
  · exact Dk.Inv.same (s' := { s with fuse := max n (-1) }) h rfl rfl rfl rfl (Nat.le_refl N) ⟨h.rg.q, h.rg.u, ⟨by show -1 ≤ max n (-1); omega, by show max n (-1) ≤ _; omega⟩, h.rg.o⟩
theorem lv_fuse7 {W w : World} {S : Nat → Prop} {d N : Nat} {s : Dk} (n : Int) (h : Lv W w S d s N) (hn : n ≤ 9223372036854775807) : Calls Try.prog 8 #[.pointer (some ⟨d, 0, none⟩), .int .i64 n] w fun e w' => e = .returned (.tuple #[]) ∧ Lv.Then W w w' S d (fuseS n s) N :=
  (fuse_any S d s n w h.1).mono fun _ _ ⟨h1, h2⟩ => ⟨h1, h.did h2 (h.2.2.2.setFuse7 n hn)⟩
set_option maxRecDepth 100000 in
set_option maxHeartbeats 8000000 in
theorem laid_none (nm : ByteArray) (A0 : Option Addr) (n0 c0 : Nat) (W : World) : Calls Try.prog 6 #[.string nm, .slice A0 n0 c0, .bool false] W fun e w' => ∃ d S, e = .returned (.tuple #[.pointer (some ⟨d, 0, none⟩), .bool true]) ∧ Lv W w' S d (ldS 1073741824 []) 2 := by
  go_enter Try.func6, Try.ntmps6
  go_wp2_with (first
    | (go_at_call 14
       refine (lv_load7 (W := W) (N := 2) (Below.refl _ _) ⟨by omega, List.Pairwise.nil, (fun p hp => by cases hp), by simp, by simp [sumL]⟩ rfl (fun i p hp => by simp at hp) (by simp)).mono ?_
       rintro e w1 ⟨d, S, rfl, g1, _, _⟩
       have H1 := Lib.hid g1
       clear g1))
  go_ret2
  exact ⟨d, S, rfl, H1.out⟩
set_option maxRecDepth 100000 in
set_option maxHeartbeats 8000000 in
theorem laid_one (nm : ByteArray) (A0 : Option Addr) (n0 c0 : Nat) (old : List UInt8) (W : World) (h0 : Rd W W.heap.size A0 (bv old)) (hn0 : old.length = n0) (hm0 : n0 ≤ 1048576) (hg : goodN nm = true) : Calls Try.prog 6 #[.string nm, .slice A0 n0 c0, .bool true] W fun e w' => ∃ d S, e = .returned (.tuple #[.pointer (some ⟨d, 0, none⟩), .bool true]) ∧ Lv W w' S d (ldS 1073741824 [(nm, old)]) 2 := by
  obtain ⟨i1, hi1, hz1, hs1, hy1⟩ := info_parts info_file
  have HA := Lib.hid (And.intro h0 (And.intro hn0 (show LdOk 1073741824 [(nm, old)] from imgW_ok (there := true) (fun _ => hg) (by omega))))
  clear h0 hn0 hg
  go_enter Try.func6, Try.ntmps6
  go_wp2_with (first
    | (at_builtin
       refine wpList_app _ rfl (.tmp 12) (.tmp 16) _ rfl W.heap.size 37 i1 _ 2 40 Try.underlying31 hi1 hz1 hs1 hy1 rfl (by omega) (.slice none 0 0) 0 [] rfl (nil_own _ _ _ _) _ _ 1 1 [.string nm, .slice A0 n0 c0] rfl rfl (rd_new _ _ _) (by simp [Value.oneCell']) (by unfold maxLen; omega) (by omega) (by simp) ?_
       intro v' w8 hown hg8 _
       obtain ⟨bi, ci, hv⟩ := row_slice hown
       subst hv
       have hb8 : Below W.heap.size W w8 := Below.grown ((Below.refl _ W).alloc (Nat.le_refl _) _) hg8 (by simp) (fun j e => by simp [Value.ownBlock] at e)
       have H8 := Lib.hid (And.intro (im_one hown HA.out.2.1 (rd_up HA.out.1 hb8)) hb8)
       clear hown hg8 hb8)
    | (go_at_call 14
       refine (lv_load7 (W := W) (N := 2) H8.out.2 HA.out.2.2 rfl H8.out.1 (by simp)).mono ?_
       rintro e w1 ⟨d, S, rfl, g1, _, _⟩
       have H1 := Lib.hid g1
       clear g1))
  go_ret2
  exact ⟨d, S, rfl, H1.out⟩
set_option maxRecDepth 100000 in
set_option maxHeartbeats 8000000 in
theorem laid_bad (nm : ByteArray) (A0 : Option Addr) (n0 c0 : Nat) (old : List UInt8) (W : World) (h0 : Rd W W.heap.size A0 (bv old)) (hn0 : old.length = n0) (_hm0 : n0 ≤ 1048576) (hz : nm.size ≤ maxLen) (hg : goodN nm = false) : Calls Try.prog 6 #[.string nm, .slice A0 n0 c0, .bool true] W fun e w' => e = .returned (.tuple #[.pointer none, .bool false]) ∧ Below W.heap.size W w' := by
  obtain ⟨i1, hi1, hz1, hs1, hy1⟩ := info_parts info_file
  have HA := Lib.hid (And.intro h0 (And.intro hn0 (And.intro hz hg)))
  clear h0 hn0 hg hz
  go_enter Try.func6, Try.ntmps6
  go_wp2_with (first
    | (at_builtin
       refine wpList_app _ rfl (.tmp 12) (.tmp 16) _ rfl W.heap.size 37 i1 _ 2 40 Try.underlying31 hi1 hz1 hs1 hy1 rfl (by omega) (.slice none 0 0) 0 [] rfl (nil_own _ _ _ _) _ _ 1 1 [.string nm, .slice A0 n0 c0] rfl rfl (rd_new _ _ _) (by simp [Value.oneCell']) (by unfold maxLen; omega) (by omega) (by simp) ?_
       intro v' w8 hown hg8 _
       obtain ⟨bi, ci, hv⟩ := row_slice hown
       subst hv
       have hb8 : Below W.heap.size W w8 := Below.grown ((Below.refl _ W).alloc (Nat.le_refl _) _) hg8 (by simp) (fun j e => by simp [Value.ownBlock] at e)
       have H8 := Lib.hid (And.intro (im_one hown HA.out.2.1 (rd_up HA.out.1 hb8)) hb8)
       clear hown hg8 hb8)
    | (go_at_call 14
       refine (load_bad 1073741824 [(nm, old)] 0 bi 1 ci _ ⟨by omega, List.Pairwise.nil, (fun p hp => by simp at hp), by simp, by simp [sumL]⟩ (by omega) (by omega) ⟨_, rfl, .inl HA.out.2.2.2⟩ (fun p hp => by simp at hp; subst hp; exact HA.out.2.2.1) rfl H8.out.1).mono ?_
       rintro e w1 ⟨rfl, g1⟩
       have H1 := Lib.hid (H8.out.2.trans (g1.mono H8.out.2.size))
       clear g1))
  go_ret2
  exact ⟨rfl, H1.out⟩
/-- What the law sees. -/
theorem whole_cases {nm tm : ByteArray} {old b : List UInt8} {there : Bool} {e : Int} {left : List FE} (h : LeftW nm tm old b there e left) :
    (there = false ∧ (e = 30 ∨ e = 34) ∧ fileI nm left = none) ∨ (there = false ∧ (e = 0 ∨ e = 34) ∧ fileI nm left = some b) ∨ (there = true ∧ ∃ z, fileI nm left = some z ∧ ((e = 0 ∧ z = b) ∨ (e = 30 ∧ z = old) ∨ (e = 34 ∧ (z = old ∨ z = b)))) := by
  cases hf : fileI nm left with
  | none =>
    have hno : ¬ ∃ q ∈ left, q.1 = nm := fun hx => by obtain ⟨z, hz⟩ := fileI_has hx; rw [hf] at hz; cases hz
    have ht : there = false := Bool.eq_false_iff.2 fun e => hno (h.must e)
    have he : e ≠ 0 := fun e => by obtain ⟨q, hq, hn, _⟩ := h.new e; exact hno ⟨q, hq, hn⟩
    exact .inl ⟨ht, by rcases h.er with e | e | e; exact absurd e he; exact .inl e; exact .inr e, rfl⟩
  | some z =>
    have hz := fileI_mem hf
    have hb := h.byt _ hz rfl
    right
    cases there with
    | false =>
      rcases hb with ⟨e, _⟩ | ⟨h1, h2⟩
      · cases e
      · simp only at h2
        exact .inl ⟨rfl, by rcases h.er with e | e | e; exact .inl e; exact absurd e h1; exact .inr e, by rw [h2]⟩
    | true =>
      refine .inr ⟨rfl, z, rfl, ?_⟩
      rcases h.er with e | e | e
      · exact .inl ⟨e, h.newB e _ hz rfl⟩
      · rcases hb with ⟨_, h2⟩ | ⟨h1, _⟩
        · exact .inr (.inl ⟨e, h2⟩)
        · exact absurd e h1
      · rcases hb with ⟨_, h2⟩ | ⟨_, h2⟩
        · exact .inr (.inr ⟨e, .inl h2⟩)
        · exact .inr (.inr ⟨e, .inr h2⟩)
theorem whole_fuse {nm tm : ByteArray} {b : List UInt8} {f q : Int} {img : List FE} (ha : Asc img) (h : (replT nm tm b (fuseS f (ldS q img))).1 = 0) : f < 0 ∨ 5 ≤ f := by
  obtain ⟨g1, g2, g3, g4, g5, g6, g7, g8⟩ := ld_facts q img ha
  have h1 := repl_burnt h
  have h2 : (fuseS f (ldS q img)).fuse = max f (-1) := by unfold fuseS; rw [if_neg (by rw [g7]; decide)]
  rw [h2] at h1
  omega
end Go.Proofs.Ytebeefkibbbkdaa
