import Derived.Test.YtnecafhakkjbpaaRp1
/- manifest.Replace walked. -/
namespace Go.Proofs.Ytnecafhakkjbpaa
open Go.RowKit Go.Maps

/-- The five variables of a replacement. -/
structure FR (w : World) (B d : Nat) (nm : ByteArray) (A : Option Addr) (n c : Nat) (tm : ByteArray) (ev : Int) : Prop where
  b0 : Box w B 24 #[.pointer (some ⟨d, 0, none⟩)]
  b1 : Box w (B + 1) 9 #[.string nm]
  b2 : Box w (B + 1 + 1) 27 #[.slice A n c]
  b3 : Box w (B + 1 + 1 + 1) 29 #[.int .i64 ev]
  b4 : Box w (B + 1 + 1 + 1 + 1) 9 #[.string tm]
/-- Nothing of S lies there. -/
def Aw (S : Nat → Prop) (B E : Nat) : Prop := ∀ k, B ≤ k → k < E → ¬ S k
section
variable {W w w' : World} {S S' : Nat → Prop} {B E d n c N M : Nat} {nm tm : ByteArray} {A : Option Addr} {ev : Int} {s s' : Dk} {bs : List UInt8}
theorem FR.chg (h : FR w B d nm A n c tm ev) (hc : Chg S w w') (ha : Aw S B (B + 5)) : FR w' B d nm A n c tm ev :=
  ⟨h.b0.chg hc (ha _ (by omega) (by omega)), h.b1.chg hc (ha _ (by omega) (by omega)), h.b2.chg hc (ha _ (by omega) (by omega)), h.b3.chg hc (ha _ (by omega) (by omega)), h.b4.chg hc (ha _ (by omega) (by omega))⟩
theorem FR.next (h : FR w B d nm A n c tm ev) (hb : Below w.heap.size w w') : FR w' B d nm A n c tm ev :=
  ⟨h.b0.below hb h.b0.lt, h.b1.below hb h.b1.lt, h.b2.below hb h.b2.lt, h.b3.below hb h.b3.lt, h.b4.below hb h.b4.lt⟩
theorem FR.err (h : FR w B d nm A n c tm ev) (e : Int) : FR (w.setCell ⟨B + 1 + 1 + 1, 0, none⟩ (.int .i64 e)) B d nm A n c tm e :=
  ⟨h.b0.far (by show B ≠ B + 1 + 1 + 1; omega) _, h.b1.far (by show B + 1 ≠ B + 1 + 1 + 1; omega) _, h.b2.far (by show B + 1 + 1 ≠ B + 1 + 1 + 1; omega) _, by simpa using h.b3.set_ 0 (.int .i64 e), h.b4.far (by show B + 1 + 1 + 1 + 1 ≠ B + 1 + 1 + 1; omega) _⟩
theorem FR.lt (h : FR w B d nm A n c tm ev) : B + 5 ≤ w.heap.size := by have := h.b4.lt; omega
theorem Aw.then_ (h : Aw S B E) (hs : ∀ b, S' b → S b ∨ w.heap.size ≤ b) (hE : E ≤ w.heap.size) : Aw S' B E := fun k h1 h2 h3 => by
  rcases hs k h3 with h4 | h4
  · exact h k h1 h2 h4
  · omega
end
/-- All that a replacement carries; it began at w0, with S0. -/
structure RC (W w0 w : World) (S0 S : Nat → Prop) (d : Nat) (s : Dk) (N B : Nat) (nm : ByteArray) (A : Option Addr) (n c : Nat) (tm : ByteArray) (ev : Int) (bs : List UInt8) : Prop where
  lv : Lv W w S d s N
  fr : FR w B d nm A n c tm ev
  aw : Aw S B (B + 5)
  out : Out w S A bs
  bb : w0.heap.size = B
  ww : W.heap.size ≤ B
  al : ∀ ad, A = some ad → bs ≠ [] → ad.block < B
  ch : Chg S0 w0 w
  su : ∀ b, S b → S0 b ∨ B ≤ b
section
variable {W w0 w w' : World} {S0 S S' : Nat → Prop} {B E d n c N M : Nat} {nm tm : ByteArray} {A : Option Addr} {ev : Int} {s s' : Dk} {bs : List UInt8}
theorem RC.next (h : RC W w0 w S0 S d s N B nm A n c tm ev bs) (hb : Below w.heap.size w w') : RC W w0 w' S0 S d s N B nm A n c tm ev bs := ⟨h.lv.next hb, h.fr.next hb, h.aw, h.out.next hb, h.bb, h.ww, h.al, h.ch.next hb, h.su⟩
theorem RC.up (h : RC W w0 w S0 S d s N B nm A n c tm ev bs) (hM : N ≤ M) : RC W w0 w S0 S d s M B nm A n c tm ev bs := ⟨h.lv.up hM, h.fr, h.aw, h.out, h.bb, h.ww, h.al, h.ch, h.su⟩
theorem RC.then_ (h : RC W w0 w S0 S d s N B nm A n c tm ev bs) (hT : Lv.Then W w w' S d s' M) : ∃ S', RC W w0 w' S0 S' d s' M B nm A n c tm ev bs ∧ Chg S w w' ∧ ∀ b, S' b → S b ∨ w.heap.size ≤ b := by
  obtain ⟨S', h1, h2, h3⟩ := hT
  have hB : B ≤ w.heap.size := by have := h.fr.lt; omega
  refine ⟨S', ⟨h1, h.fr.chg h2 h.aw, h.aw.then_ h3 h.fr.lt, h.out.then_ h2 h3, h.bb, h.ww, h.al, ?_, fun b hb => ?_⟩, h2, h3⟩
  · refine h.ch.trans' h2 fun j hj hs => ?_
    rcases h.su j hs with h4 | h4
    · exact h4
    · have := h.bb; omega
  · rcases h3 b hb with h4 | h4
    · exact h.su b h4
    · exact .inr (by omega)
theorem RC.err (h : RC W w0 w S0 S d s N B nm A n c tm ev bs) (e : Int) : RC W w0 (w.setCell ⟨B + 1 + 1 + 1, 0, none⟩ (.int .i64 e)) S0 S d s N B nm A n c tm e bs := by
  have hc : Chg (fun b => b = B + 1 + 1 + 1) w (w.setCell ⟨B + 1 + 1 + 1, 0, none⟩ (.int .i64 e)) := Chg.setCell (S := fun b => b = B + 1 + 1 + 1) (Chg.refl _ w) (p := ⟨B + 1 + 1 + 1, 0, none⟩) (.inl rfl) _
  have hww := h.ww
  have hbb := h.bb
  refine ⟨h.lv.far hc (fun b hb e => h.aw (B + 1 + 1 + 1) (by omega) (by omega) (e ▸ hb)) (fun b e => by omega), h.fr.err e, h.aw, ⟨?_, h.out.2⟩, h.bb, h.ww, h.al, h.ch.setCell (p := ⟨B + 1 + 1 + 1, 0, none⟩) (.inr (by show w0.heap.size ≤ B + 1 + 1 + 1; omega)) _, h.su⟩
  intro j u hj
  obtain ⟨ad, e1, hb, hcl⟩ := h.out.1 j u hj
  have hne : bs ≠ [] := fun e => by subst e; simp [bv] at hj
  have := h.al ad e1 hne
  refine ⟨ad, e1, by simpa [World.setCell] using hb, ?_⟩
  rw [← hcl]
  exact cell_heap (Below.heap_setCell w _ _ _ (by rw [add_block]; show ad.block ≠ B + 1 + 1 + 1; omega))
theorem RC.put (h : RC W w0 w S0 S d s N B nm A n c tm ev bs) {q : Nat} (hq : B + 5 ≤ q) (hS : ¬ S q) (v : Value) : RC W w0 (w.setCell ⟨q, 0, none⟩ v) S0 S d s N B nm A n c tm ev bs := by
  have hc : Chg (fun b => b = q) w (w.setCell ⟨q, 0, none⟩ v) := Chg.setCell (S := fun b => b = q) (Chg.refl _ w) (p := ⟨q, 0, none⟩) (.inl rfl) _
  have hww := h.ww
  have hbb := h.bb
  refine ⟨h.lv.far hc (fun b hb e => hS (e ▸ hb)) (fun b e => by omega), h.fr.chg hc (fun k h1 h2 e => by omega), h.aw, ⟨?_, h.out.2⟩, h.bb, h.ww, h.al, h.ch.setCell (p := ⟨q, 0, none⟩) (.inr (by show w0.heap.size ≤ q; omega)) _, h.su⟩
  intro j u hj
  obtain ⟨ad, e1, hb, hcl⟩ := h.out.1 j u hj
  have hne : bs ≠ [] := fun e => by subst e; simp [bv] at hj
  have := h.al ad e1 hne
  refine ⟨ad, e1, by simpa [World.setCell] using hb, ?_⟩
  rw [← hcl]
  exact cell_heap (Below.heap_setCell w _ _ _ (by rw [add_block]; show ad.block ≠ q; omega))
/-- What has become of the disk. -/
theorem RC.done (h : RC W w0 w S0 S d s N B nm A n c tm ev bs) (hM : N ≤ M) : Lv.Then W w0 w S0 d s M := ⟨S, h.lv.up hM, h.ch, fun b hb => by rw [h.bb]; exact h.su b hb⟩
theorem runK_ok {f k : Nat} (h : opE nm tm bs k s = 0) : runK nm tm bs (f + 1) k s = runK nm tm bs f (k + 1) (opS nm tm bs k s) := if_pos h
theorem runK_err {f k : Nat} (h : opE nm tm bs k s ≠ 0) (h2 : k = 0 ∨ opE nm tm bs k s = 34) : runK nm tm bs (f + 1) k s = (opE nm tm bs k s, opS nm tm bs k s) :=
  (if_neg h).trans (if_neg fun ⟨h3, h4⟩ => by rcases h2 with h5 | h5; omega; exact h4 h5)
theorem runK_rem {f k : Nat} (h : opE nm tm bs k s ≠ 0) (h2 : 0 < k ∧ opE nm tm bs k s ≠ 34) : runK nm tm bs (f + 1) k s = (opE nm tm bs k s, removeS tm (opS nm tm bs k s)) :=
  (if_neg h).trans (if_pos h2)
theorem res_rep {tmps : Array Value} {b : Nat} (h : tmps[6]?.getD undef = .pointer (some ⟨b, 0, none⟩)) (hc : w.cell? ⟨b, 0, none⟩ = some (.int .i64 ev)) : (results Try.f10 tmps).run Try.prog w = .ok (.int .i64 ev) w := by
  simp [results, Try.results10, go_sem, h, hc]
end
set_option maxRecDepth 100000 in
set_option maxHeartbeats 8000000 in
theorem replace_any (W w : World) (S : Nat → Prop) (d : Nat) (s : Dk) (N : Nat) (nm : ByteArray) (A : Option Addr) (n c : Nat) (bs : List UInt8) (h : Lv W w S d s N) (hN : N ≤ 999999999990) (hz : nm.size ≤ 1000000) (hA : Out w S A bs) (hn : bs.length = n) (hm : n ≤ 140737488355328) :
    Calls Try.prog 10 #[.pointer (some ⟨d, 0, none⟩), .string nm, .slice A n c] w fun e w' => e = .returned (.int .i64 (replT nm (nm ++ ⟨#[46, 116, 109, 112]⟩) bs s).1) ∧ Lv.Then W w w' S d (replT nm (nm ++ ⟨#[46, 116, 109, 112]⟩) bs s).2 (N + 8) := by
  have hmf : ∀ (fn : Fn) (first cap : Array Value) (w : World), (Instr.makeFunc fn first cap).run Try.prog w = .ok (.func fn first cap) w := fun _ _ _ _ => rfl
  obtain ⟨tm, htm⟩ : ∃ tm, (nm ++ ⟨#[46, 116, 109, 112]⟩) = tm := ⟨_, rfl⟩
  have htz : tm.size ≤ maxLen := by rw [← htm, ByteArray.size_append]; show nm.size + 4 ≤ _; unfold maxLen; omega
  have hnz : nm.size ≤ maxLen := by unfold maxLen; omega
  obtain ⟨w5, hw5⟩ : ∃ w5, (((((w.alloc (.cells #[.pointer (some ⟨d, 0, none⟩)] 24)).alloc (.cells #[.string nm] 9)).alloc (.cells #[.slice A n c] 27)).alloc (.cells #[.int .i64 0] 29)).alloc (.cells #[.string tm] 9)) = w5 := ⟨_, rfl⟩
  have hb5 : Below w.heap.size w w5 := by
    rw [← hw5]
    exact (((((Below.refl _ w).alloc (Nat.le_refl _) _).alloc (by simp) _).alloc (by simp; omega) _).alloc (by simp; omega) _).alloc (by simp; omega) _
  have hF : FR w5 w.heap.size d nm A n c tm 0 := by
    rw [← hw5]
    refine ⟨((((Box.new w _ _).alloc _).alloc _).alloc _).alloc _, ?_, ?_, ?_, ?_⟩
    · have := Box.new (w.alloc (.cells #[.pointer (some ⟨d, 0, none⟩)] 24)) 9 #[.string nm]
      simp only [World.alloc, Array.size_push] at this ⊢
      exact ((this.alloc _).alloc _).alloc _
    · have := Box.new ((w.alloc (.cells #[.pointer (some ⟨d, 0, none⟩)] 24)).alloc (.cells #[.string nm] 9)) 27 #[.slice A n c]
      simp only [World.alloc, Array.size_push] at this ⊢
      exact (this.alloc _).alloc _
    · have := Box.new (((w.alloc (.cells #[.pointer (some ⟨d, 0, none⟩)] 24)).alloc (.cells #[.string nm] 9)).alloc (.cells #[.slice A n c] 27)) 29 #[.int .i64 0]
      simp only [World.alloc, Array.size_push] at this ⊢
      exact this.alloc _
    · have := Box.new ((((w.alloc (.cells #[.pointer (some ⟨d, 0, none⟩)] 24)).alloc (.cells #[.string nm] 9)).alloc (.cells #[.slice A n c] 27)).alloc (.cells #[.int .i64 0] 29)) 9 #[.string tm]
      simp only [World.alloc, Array.size_push] at this ⊢
      exact this
  have hAlt : ∀ ad, A = some ad → bs ≠ [] → ad.block < w.heap.size := fun ad e hne => by
    obtain ⟨x, r, rfl⟩ : ∃ x r, bs = x :: r := by cases bs; exact absurd rfl hne; exact ⟨_, _, rfl⟩
    obtain ⟨ad', e', hb, _⟩ := hA.1 0 _ rfl
    rw [e] at e'
    injection e' with e'
    subst e'
    exact hb
  have hR : RC W w w5 S S d s N w.heap.size nm A n c tm 0 bs := ⟨h.next hb5, hF, fun k h1 _ hS => by have := h.1.lt k hS; omega, hA.next hb5, rfl, h.2.2.1.size, hAlt, Chg.of_below hb5 S, fun b hb => .inl hb⟩
  have HR := Lib.hid (And.intro hR hn)
  clear hR hF hb5 hAlt hA hn h
  rw [htm]
  go_enter_defers Try.func10, Try.ntmps10
  go_upto_region 4 with fail
  try rw [hw5]
  clear hw5 htm
  obtain ⟨B, hB⟩ : ∃ B, w.heap.size = B := ⟨_, rfl⟩
  rw [hB] at HR ⊢
  have hc0 := HR.out.1.fr.b0.cell
  have hc1 := HR.out.1.fr.b1.cell
  have hc4 := HR.out.1.fr.b4.cell
  have T0 := Lib.hid True.intro
  obtain ⟨e1, he1⟩ : ∃ e1, atE nm s = e1 := ⟨_, rfl⟩
  by_cases hx : e1 ≠ 0 ∧ e1 ≠ 31
  · have hx0 : (e1 != 0) = true := by simpa using hx.1
    have hx1 : (e1 != 31) = true := by simpa using hx.2
    have hrep : replT nm tm bs s = (e1, s) := by unfold replT; rw [he1, if_pos hx]
    have HE := Lib.hid (And.intro he1 hrep)
    clear hrep he1 hx
    go_wp2_with (first
      | (go_at_call 25
         have z0 := T0
         clear z0
         refine (lv_size nm HR.out.1.lv hnz).mono ?_
         rintro e w6 ⟨rfl, hb6⟩
         rw [HE.out.1]
         have hR6 := HR.out.1.next hb6
         have hc0 := hR6.fr.b0.cell
         have hc4 := hR6.fr.b4.cell
         have hc3 := hR6.fr.b3.cell
         have hf3 := hR6.fr.b3.free
         have H6 := Lib.hid (And.intro hR6 hb6)
         clear hR6 hb6
         have T1 := Lib.hid True.intro
         clear T0))
    refine ⟨.int .i64 e1, res_rep rfl ((H6.out.1.err e1).fr.b3.cell 0), ?_⟩
    rw [HE.out.2]
    exact ⟨rfl, (H6.out.1.err e1).done (by omega)⟩
  · have hx01 : e1 = 0 ∨ e1 = 31 := by omega
    obtain ⟨e2, he2⟩ : ∃ e2, atE tm s = e2 := ⟨_, rfl⟩
    have hrp : replT nm tm bs s = if e2 = 0 then (if removeE tm s = 0 then runK nm tm bs 5 0 (removeS tm s) else (removeE tm s, removeS tm s)) else if e2 = 31 then runK nm tm bs 5 0 s else (e2, s) := by
      unfold replT
      rw [he1, if_neg hx, he2]
    have HE := Lib.hid (And.intro he1 hrp)
    have HE2 := Lib.hid he2
    clear he1 hx hrp he2
    rcases (show e2 = 0 ∨ e2 = 31 ∨ (e2 ≠ 0 ∧ e2 ≠ 31) by omega) with h0 | h31 | ⟨h0, h31⟩
    · obtain ⟨r, hr⟩ : ∃ r, removeE tm s = r := ⟨_, rfl⟩
      obtain ⟨s1, hs1⟩ : ∃ s1, removeS tm s = s1 := ⟨_, rfl⟩
      have hrep : replT nm tm bs s = if r = 0 then runK nm tm bs 5 0 s1 else (r, s1) := by rw [HE.out.2, if_pos h0, hr, hs1]
      have HQ := Lib.hid (And.intro hr (And.intro hs1 hrep))
      clear hr hs1 hrep
      subst h0
      by_cases hr0 : r = 0
      · have HQ0 := Lib.hid hr0
        subst hr0
        rcases hx01 with rfl | rfl
        all_goals
        go_upto_region 15 with (first
          | (go_at_call 25
             have z0 := T0
             clear z0
             refine (lv_size nm HR.out.1.lv hnz).mono ?_
             rintro e w6 ⟨rfl, hb6⟩
             rw [HE.out.1]
             have hR6 := HR.out.1.next hb6
             have hc0 := hR6.fr.b0.cell
             have hc4 := hR6.fr.b4.cell
             have hc3 := hR6.fr.b3.cell
             have hf3 := hR6.fr.b3.free
             have H6 := Lib.hid (And.intro hR6 hb6)
             clear hR6 hb6
             have T1 := Lib.hid True.intro
             clear T0)
          | (go_at_call 25
             have z0 := T1
             clear z0
             refine (lv_size tm H6.out.1.lv htz).mono ?_
             rintro e w7 ⟨rfl, hb7⟩
             rw [HE2.out]
             have hR7 := H6.out.1.next hb7
             have hc0 := hR7.fr.b0.cell
             have hc4 := hR7.fr.b4.cell
             have hc3 := hR7.fr.b3.cell
             have hf3 := hR7.fr.b3.free
             have H7 := Lib.hid hR7
             clear hR7 hb7
             have T2 := Lib.hid True.intro
             clear T1)
          | (go_at_call 26
             refine (lv_remove tm H7.out.lv (by omega) htz).mono ?_
             rintro e w8 ⟨rfl, hT⟩
             obtain ⟨S8, hR8, _, _⟩ := H7.out.then_ hT
             rw [HQ.out.1]
             rw [HQ.out.2.1] at hR8
             have hc0 := hR8.fr.b0.cell
             have hc4 := hR8.fr.b4.cell
             have hc3 := hR8.fr.b3.cell
             have hf3 := hR8.fr.b3.free
             have H8 := Lib.hid hR8
             clear hR8 hT))
        have HC := Lib.hid (And.intro ((H8.out).up (show (N + 1) ≤ N + 1 by omega)) (show replT nm tm bs s = runK nm tm bs 5 0 s1 from by have := HQ.out.2.2; simpa using this))
        have hl0 := HC.out.1.fr.b0.lt
        go_upto_region 18 with fail
        obtain ⟨M, hM⟩ : ∃ M, w8.heap.size = M := ⟨_, rfl⟩
        have hbm : Box ((w8.alloc (.cells #[.bool false] 4)).alloc (.cells #[.func (.func 28) #[] #[.pointer (some ⟨B, 0, none⟩), .pointer (some ⟨B + 1 + 1 + 1 + 1, 0, none⟩)], .func (.func 30) #[] #[.pointer (some ⟨B, 0, none⟩), .pointer (some ⟨B + 1 + 1 + 1 + 1, 0, none⟩), .pointer (some ⟨B + 1 + 1, 0, none⟩)], .func (.func 32) #[] #[.pointer (some ⟨B, 0, none⟩), .pointer (some ⟨B + 1 + 1 + 1 + 1, 0, none⟩)], .func (.func 34) #[] #[.pointer (some ⟨B, 0, none⟩), .pointer (some ⟨B + 1 + 1 + 1 + 1, 0, none⟩), .pointer (some ⟨B + 1, 0, none⟩)], .func (.func 36) #[.pointer (some ⟨d, 0, none⟩)] #[]] 71)) M 4 #[.bool false] := hM ▸ (Box.new w8 _ _).alloc _
        have hbs : Box ((w8.alloc (.cells #[.bool false] 4)).alloc (.cells #[.func (.func 28) #[] #[.pointer (some ⟨B, 0, none⟩), .pointer (some ⟨B + 1 + 1 + 1 + 1, 0, none⟩)], .func (.func 30) #[] #[.pointer (some ⟨B, 0, none⟩), .pointer (some ⟨B + 1 + 1 + 1 + 1, 0, none⟩), .pointer (some ⟨B + 1 + 1, 0, none⟩)], .func (.func 32) #[] #[.pointer (some ⟨B, 0, none⟩), .pointer (some ⟨B + 1 + 1 + 1 + 1, 0, none⟩)], .func (.func 34) #[] #[.pointer (some ⟨B, 0, none⟩), .pointer (some ⟨B + 1 + 1 + 1 + 1, 0, none⟩), .pointer (some ⟨B + 1, 0, none⟩)], .func (.func 36) #[.pointer (some ⟨d, 0, none⟩)] #[]] 71)) (M + 1) 71 #[.func (.func 28) #[] #[.pointer (some ⟨B, 0, none⟩), .pointer (some ⟨B + 1 + 1 + 1 + 1, 0, none⟩)], .func (.func 30) #[] #[.pointer (some ⟨B, 0, none⟩), .pointer (some ⟨B + 1 + 1 + 1 + 1, 0, none⟩), .pointer (some ⟨B + 1 + 1, 0, none⟩)], .func (.func 32) #[] #[.pointer (some ⟨B, 0, none⟩), .pointer (some ⟨B + 1 + 1 + 1 + 1, 0, none⟩)], .func (.func 34) #[] #[.pointer (some ⟨B, 0, none⟩), .pointer (some ⟨B + 1 + 1 + 1 + 1, 0, none⟩), .pointer (some ⟨B + 1, 0, none⟩)], .func (.func 36) #[.pointer (some ⟨d, 0, none⟩)] #[]] := by
          have := Box.new (w8.alloc (.cells #[.bool false] 4)) 71 #[.func (.func 28) #[] #[.pointer (some ⟨B, 0, none⟩), .pointer (some ⟨B + 1 + 1 + 1 + 1, 0, none⟩)], .func (.func 30) #[] #[.pointer (some ⟨B, 0, none⟩), .pointer (some ⟨B + 1 + 1 + 1 + 1, 0, none⟩), .pointer (some ⟨B + 1 + 1, 0, none⟩)], .func (.func 32) #[] #[.pointer (some ⟨B, 0, none⟩), .pointer (some ⟨B + 1 + 1 + 1 + 1, 0, none⟩)], .func (.func 34) #[] #[.pointer (some ⟨B, 0, none⟩), .pointer (some ⟨B + 1 + 1 + 1 + 1, 0, none⟩), .pointer (some ⟨B + 1, 0, none⟩)], .func (.func 36) #[.pointer (some ⟨d, 0, none⟩)] #[]]
          simp only [World.alloc, Array.size_push] at this ⊢
          rw [hM] at this
          exact this
        have hrc := HC.out.1.next ((Below.al w8 (.cells #[.bool false] 4)).trans ((Below.al (w8.alloc (.cells #[.bool false] 4)) (.cells #[.func (.func 28) #[] #[.pointer (some ⟨B, 0, none⟩), .pointer (some ⟨B + 1 + 1 + 1 + 1, 0, none⟩)], .func (.func 30) #[] #[.pointer (some ⟨B, 0, none⟩), .pointer (some ⟨B + 1 + 1 + 1 + 1, 0, none⟩), .pointer (some ⟨B + 1 + 1, 0, none⟩)], .func (.func 32) #[] #[.pointer (some ⟨B, 0, none⟩), .pointer (some ⟨B + 1 + 1 + 1 + 1, 0, none⟩)], .func (.func 34) #[] #[.pointer (some ⟨B, 0, none⟩), .pointer (some ⟨B + 1 + 1 + 1 + 1, 0, none⟩), .pointer (some ⟨B + 1, 0, none⟩)], .func (.func 36) #[.pointer (some ⟨d, 0, none⟩)] #[]] 71)).mono (by simp)))
        have haw : Aw S8 M (M + 2) := fun k h1 _ h3 => by have := HC.out.1.lv.1.lt k h3; omega
        have hBM : B + 5 ≤ M := hM ▸ HC.out.1.fr.lt
        rw [hM]
        generalize hwv : ((w8.alloc (.cells #[.bool false] 4)).alloc (.cells #[.func (.func 28) #[] #[.pointer (some ⟨B, 0, none⟩), .pointer (some ⟨B + 1 + 1 + 1 + 1, 0, none⟩)], .func (.func 30) #[] #[.pointer (some ⟨B, 0, none⟩), .pointer (some ⟨B + 1 + 1 + 1 + 1, 0, none⟩), .pointer (some ⟨B + 1 + 1, 0, none⟩)], .func (.func 32) #[] #[.pointer (some ⟨B, 0, none⟩), .pointer (some ⟨B + 1 + 1 + 1 + 1, 0, none⟩)], .func (.func 34) #[] #[.pointer (some ⟨B, 0, none⟩), .pointer (some ⟨B + 1 + 1 + 1 + 1, 0, none⟩), .pointer (some ⟨B + 1, 0, none⟩)], .func (.func 36) #[.pointer (some ⟨d, 0, none⟩)] #[]] 71)) = wv at hbm hbs hrc ⊢
        have HV := Lib.hid (And.intro hrc (And.intro hbm (And.intro hbs (And.intro haw hBM))))
        clear hwv hbm hbs hrc haw hl0 hM hc0 hc4 hc3 hf3
        go_wp2
        go_loopw [63] (fun v63 wr => ∃ (k : Nat) (sk : Dk) (Sk : Nat → Prop), k ≤ 5 ∧ v63 = .int .i64 k ∧ RC W w wr S Sk d sk (N + 1 + k) B nm A n c tm 0 bs ∧ Box wr M 4 #[.bool (decide (0 < k))] ∧ Box wr (M + 1) 71 #[.func (.func 28) #[] #[.pointer (some ⟨B, 0, none⟩), .pointer (some ⟨B + 1 + 1 + 1 + 1, 0, none⟩)], .func (.func 30) #[] #[.pointer (some ⟨B, 0, none⟩), .pointer (some ⟨B + 1 + 1 + 1 + 1, 0, none⟩), .pointer (some ⟨B + 1 + 1, 0, none⟩)], .func (.func 32) #[] #[.pointer (some ⟨B, 0, none⟩), .pointer (some ⟨B + 1 + 1 + 1 + 1, 0, none⟩)], .func (.func 34) #[] #[.pointer (some ⟨B, 0, none⟩), .pointer (some ⟨B + 1 + 1 + 1 + 1, 0, none⟩), .pointer (some ⟨B + 1, 0, none⟩)], .func (.func 36) #[.pointer (some ⟨d, 0, none⟩)] #[]] ∧ Aw Sk M (M + 2) ∧ runK nm tm bs 5 0 s1 = runK nm tm bs (5 - k) k sk) (fun v63 _ => 5 - (intOf v63).toNat)
        case atStart => exact ⟨0, s1, S8, by omega, rfl, HV.out.1, HV.out.2.1, HV.out.2.2.1, HV.out.2.2.2.1, rfl⟩
        case round =>
          obtain ⟨k, sk, Sk, hk, rfl, hR, hbm, hbs, haw, hrun⟩ := hrel
          have hcs := hbs.cell
          have H := Lib.hid (And.intro hR (And.intro hbm (And.intro hbs (And.intro haw hrun))))
          clear hR hbm hbs haw hrun
          rcases (show k = 0 ∨ k = 1 ∨ k = 2 ∨ k = 3 ∨ k = 4 ∨ k = 5 by omega) with rfl | rfl | rfl | rfl | rfl | rfl
          · obtain ⟨ev, hev⟩ : ∃ ev, opE nm tm bs 0 sk = ev := ⟨_, rfl⟩
            obtain ⟨s2, hs2⟩ : ∃ s2, opS nm tm bs 0 sk = s2 := ⟨_, rfl⟩
            have HO := Lib.hid (And.intro hev hs2)
            clear hev hs2
            by_cases he : ev = 0
            · subst he
              go_wp2_with (first
                | (go_at_call 28
                   refine (cl2 H.out.1.lv (by omega) htz (H.out.1.fr.b0.cell 0) (H.out.1.fr.b4.cell 0)).mono ?_
                   rintro e w9 ⟨rfl, hT⟩
                   rw [show createE tm sk = 0 from HO.out.1]
                   rw [show createS tm sk = s2 from HO.out.2] at hT
                   obtain ⟨S9, hR9, hch, hsu⟩ := H.out.1.then_ hT
                   have hbm9 := H.out.2.1.chg hch (H.out.2.2.2.1 M (Nat.le_refl _) (by omega))
                   have hbs9 := H.out.2.2.1.chg hch (H.out.2.2.2.1 (M + 1) (by omega) (by omega))
                   have haw9 := H.out.2.2.2.1.then_ hsu (by have := H.out.2.2.1.lt; omega)
                   have hcm := hbm9.cell
                   have hfm := hbm9.free
                   have hc3 := hR9.fr.b3.cell
                   have hf3 := hR9.fr.b3.free
                   have H9 := Lib.hid (And.intro hR9 (And.intro hbm9 (And.intro hbs9 haw9)))
                   clear hT hR9 hch hsu hbm9 hbs9 haw9 hcs))
              go_roundw
              case rel =>
                have hp := H9.out.1.put (q := M) (by have := HV.out.2.2.2.2; omega) (H9.out.2.2.2 M (Nat.le_refl _) (by omega)) (.bool true)
                refine ⟨1, s2, S9, by omega, by go_num, hp.up (by omega), by simpa using H9.out.2.1.set_ 0 (.bool true), H9.out.2.2.1.far (by show M + 1 ≠ M; omega) _, H9.out.2.2.2, ?_⟩
                rw [H.out.2.2.2.2, runK_ok HO.out.1, HO.out.2]
              case measure => simp [intOf]
            · have heb : (ev != 0) = true := by simpa using he
              have HE0 := Lib.hid he
              clear he
              go_wp2_with (first
                | (go_at_call 28
                   refine (cl2 H.out.1.lv (by omega) htz (H.out.1.fr.b0.cell 0) (H.out.1.fr.b4.cell 0)).mono ?_
                   rintro e w9 ⟨rfl, hT⟩
                   rw [show createE tm sk = ev from HO.out.1]
                   rw [show createS tm sk = s2 from HO.out.2] at hT
                   obtain ⟨S9, hR9, hch, hsu⟩ := H.out.1.then_ hT
                   have hbm9 := H.out.2.1.chg hch (H.out.2.2.2.1 M (Nat.le_refl _) (by omega))
                   have hbs9 := H.out.2.2.1.chg hch (H.out.2.2.2.1 (M + 1) (by omega) (by omega))
                   have haw9 := H.out.2.2.2.1.then_ hsu (by have := H.out.2.2.1.lt; omega)
                   have hcm := hbm9.cell
                   have hfm := hbm9.free
                   have hc3 := hR9.fr.b3.cell
                   have hf3 := hR9.fr.b3.free
                   have H9 := Lib.hid (And.intro hR9 (And.intro hbm9 (And.intro hbs9 haw9)))
                   clear hT hR9 hch hsu hbm9 hbs9 haw9 hcs))
              refine leaves_cons (f := 27) (args := #[.pointer (some ⟨M, 0, none⟩), .pointer (some ⟨B + 1 + 1 + 1, 0, none⟩), .pointer (some ⟨B, 0, none⟩), .pointer (some ⟨B + 1 + 1 + 1 + 1, 0, none⟩)]) (by simp) (by simp [go_sem]) ?_
              refine (cl1_no false ev (.inl rfl) ((H9.out.2.1.far (by show M ≠ B + 1 + 1 + 1; have := HV.out.2.2.2.2; omega) _).cell 0) ((H9.out.1.err ev).fr.b3.cell 0)).mono ?_
              rintro e u' w'' ⟨rfl, rfl, rfl⟩
              refine ⟨.int .i64 ev, res_rep rfl ((H9.out.1.err ev).fr.b3.cell 0), ?_⟩
              rw [HC.out.2, H.out.2.2.2.2, runK_err (by rw [HO.out.1]; exact HE0.out) (.inl rfl), HO.out.1, HO.out.2]
              exact ⟨rfl, (H9.out.1.err ev).done (by omega)⟩
          · obtain ⟨ev, hev⟩ : ∃ ev, opE nm tm bs 1 sk = ev := ⟨_, rfl⟩
            obtain ⟨s2, hs2⟩ : ∃ s2, opS nm tm bs 1 sk = s2 := ⟨_, rfl⟩
            have HO := Lib.hid (And.intro hev hs2)
            clear hev hs2
            by_cases he : ev = 0
            · subst he
              go_wp2_with (first
                | (go_at_call 30
                   refine (cl3 H.out.1.lv (by omega) htz H.out.1.out HR.out.2 hm (H.out.1.fr.b0.cell 0) (H.out.1.fr.b4.cell 0) (H.out.1.fr.b2.cell 0)).mono ?_
                   rintro e w9 ⟨rfl, hT⟩
                   rw [show appendE tm bs sk = 0 from HO.out.1]
                   rw [show appendS tm bs sk = s2 from HO.out.2] at hT
                   obtain ⟨S9, hR9, hch, hsu⟩ := H.out.1.then_ hT
                   have hbm9 := H.out.2.1.chg hch (H.out.2.2.2.1 M (Nat.le_refl _) (by omega))
                   have hbs9 := H.out.2.2.1.chg hch (H.out.2.2.2.1 (M + 1) (by omega) (by omega))
                   have haw9 := H.out.2.2.2.1.then_ hsu (by have := H.out.2.2.1.lt; omega)
                   have hcm := hbm9.cell
                   have hfm := hbm9.free
                   have hc3 := hR9.fr.b3.cell
                   have hf3 := hR9.fr.b3.free
                   have H9 := Lib.hid (And.intro hR9 (And.intro hbm9 (And.intro hbs9 haw9)))
                   clear hT hR9 hch hsu hbm9 hbs9 haw9 hcs))
              go_roundw
              case rel =>
                have hp := H9.out.1.put (q := M) (by have := HV.out.2.2.2.2; omega) (H9.out.2.2.2 M (Nat.le_refl _) (by omega)) (.bool true)
                refine ⟨2, s2, S9, by omega, by go_num, hp.up (by omega), by simpa using H9.out.2.1.set_ 0 (.bool true), H9.out.2.2.1.far (by show M + 1 ≠ M; omega) _, H9.out.2.2.2, ?_⟩
                rw [H.out.2.2.2.2, runK_ok HO.out.1, HO.out.2]
              case measure => simp [intOf]
            · have heb : (ev != 0) = true := by simpa using he
              have HE0 := Lib.hid he
              clear he
              go_wp2_with (first
                | (go_at_call 30
                   refine (cl3 H.out.1.lv (by omega) htz H.out.1.out HR.out.2 hm (H.out.1.fr.b0.cell 0) (H.out.1.fr.b4.cell 0) (H.out.1.fr.b2.cell 0)).mono ?_
                   rintro e w9 ⟨rfl, hT⟩
                   rw [show appendE tm bs sk = ev from HO.out.1]
                   rw [show appendS tm bs sk = s2 from HO.out.2] at hT
                   obtain ⟨S9, hR9, hch, hsu⟩ := H.out.1.then_ hT
                   have hbm9 := H.out.2.1.chg hch (H.out.2.2.2.1 M (Nat.le_refl _) (by omega))
                   have hbs9 := H.out.2.2.1.chg hch (H.out.2.2.2.1 (M + 1) (by omega) (by omega))
                   have haw9 := H.out.2.2.2.1.then_ hsu (by have := H.out.2.2.1.lt; omega)
                   have hcm := hbm9.cell
                   have hfm := hbm9.free
                   have hc3 := hR9.fr.b3.cell
                   have hf3 := hR9.fr.b3.free
                   have H9 := Lib.hid (And.intro hR9 (And.intro hbm9 (And.intro hbs9 haw9)))
                   clear hT hR9 hch hsu hbm9 hbs9 haw9 hcs))
              by_cases h34 : ev = 34
              · 
                refine leaves_cons (f := 27) (args := #[.pointer (some ⟨M, 0, none⟩), .pointer (some ⟨B + 1 + 1 + 1, 0, none⟩), .pointer (some ⟨B, 0, none⟩), .pointer (some ⟨B + 1 + 1 + 1 + 1, 0, none⟩)]) (by simp) (by simp [go_sem]) ?_
                refine (cl1_no true ev (.inr (.inr h34)) ((H9.out.2.1.far (by show M ≠ B + 1 + 1 + 1; have := HV.out.2.2.2.2; omega) _).cell 0) ((H9.out.1.err ev).fr.b3.cell 0)).mono ?_
                rintro e u' w'' ⟨rfl, rfl, rfl⟩
                refine ⟨.int .i64 ev, res_rep rfl ((H9.out.1.err ev).fr.b3.cell 0), ?_⟩
                rw [HC.out.2, H.out.2.2.2.2, runK_err (by rw [HO.out.1]; exact HE0.out) (.inr (by rw [HO.out.1]; exact h34)), HO.out.1, HO.out.2]
                exact ⟨rfl, (H9.out.1.err ev).done (by omega)⟩
              · refine leaves_cons (f := 27) (args := #[.pointer (some ⟨M, 0, none⟩), .pointer (some ⟨B + 1 + 1 + 1, 0, none⟩), .pointer (some ⟨B, 0, none⟩), .pointer (some ⟨B + 1 + 1 + 1 + 1, 0, none⟩)]) (by simp) (by simp [go_sem]) ?_
                refine (cl1_yes (W := W) ev ⟨HE0.out, h34⟩ (H9.out.1.err ev).lv (by omega) htz ((H9.out.2.1.far (by show M ≠ B + 1 + 1 + 1; have := HV.out.2.2.2.2; omega) _).cell 0) ((H9.out.1.err ev).fr.b3.cell 0) ((H9.out.1.err ev).fr.b0.cell 0) ((H9.out.1.err ev).fr.b4.cell 0)).mono ?_
                rintro e u' w'' ⟨rfl, rfl, hT⟩
                obtain ⟨S10, hR10, _, _⟩ := (H9.out.1.err ev).then_ hT
                refine ⟨.int .i64 ev, res_rep rfl (hR10.fr.b3.cell 0), ?_⟩
                rw [HC.out.2, H.out.2.2.2.2, runK_rem (by rw [HO.out.1]; exact HE0.out) ⟨by decide, by rw [HO.out.1]; exact h34⟩, HO.out.1, HO.out.2]
                exact ⟨rfl, hR10.done (by omega)⟩
          · obtain ⟨ev, hev⟩ : ∃ ev, opE nm tm bs 2 sk = ev := ⟨_, rfl⟩
            obtain ⟨s2, hs2⟩ : ∃ s2, opS nm tm bs 2 sk = s2 := ⟨_, rfl⟩
            have HO := Lib.hid (And.intro hev hs2)
            clear hev hs2
            by_cases he : ev = 0
            · subst he
              go_wp2_with (first
                | (go_at_call 32
                   refine (cl4 H.out.1.lv (by omega) htz (H.out.1.fr.b0.cell 0) (H.out.1.fr.b4.cell 0)).mono ?_
                   rintro e w9 ⟨rfl, hT⟩
                   rw [show syncE tm sk = 0 from HO.out.1]
                   rw [show syncS tm sk = s2 from HO.out.2] at hT
                   obtain ⟨S9, hR9, hch, hsu⟩ := H.out.1.then_ hT
                   have hbm9 := H.out.2.1.chg hch (H.out.2.2.2.1 M (Nat.le_refl _) (by omega))
                   have hbs9 := H.out.2.2.1.chg hch (H.out.2.2.2.1 (M + 1) (by omega) (by omega))
                   have haw9 := H.out.2.2.2.1.then_ hsu (by have := H.out.2.2.1.lt; omega)
                   have hcm := hbm9.cell
                   have hfm := hbm9.free
                   have hc3 := hR9.fr.b3.cell
                   have hf3 := hR9.fr.b3.free
                   have H9 := Lib.hid (And.intro hR9 (And.intro hbm9 (And.intro hbs9 haw9)))
                   clear hT hR9 hch hsu hbm9 hbs9 haw9 hcs))
              go_roundw
              case rel =>
                have hp := H9.out.1.put (q := M) (by have := HV.out.2.2.2.2; omega) (H9.out.2.2.2 M (Nat.le_refl _) (by omega)) (.bool true)
                refine ⟨3, s2, S9, by omega, by go_num, hp.up (by omega), by simpa using H9.out.2.1.set_ 0 (.bool true), H9.out.2.2.1.far (by show M + 1 ≠ M; omega) _, H9.out.2.2.2, ?_⟩
                rw [H.out.2.2.2.2, runK_ok HO.out.1, HO.out.2]
              case measure => simp [intOf]
            · have heb : (ev != 0) = true := by simpa using he
              have HE0 := Lib.hid he
              clear he
              go_wp2_with (first
                | (go_at_call 32
                   refine (cl4 H.out.1.lv (by omega) htz (H.out.1.fr.b0.cell 0) (H.out.1.fr.b4.cell 0)).mono ?_
                   rintro e w9 ⟨rfl, hT⟩
                   rw [show syncE tm sk = ev from HO.out.1]
                   rw [show syncS tm sk = s2 from HO.out.2] at hT
                   obtain ⟨S9, hR9, hch, hsu⟩ := H.out.1.then_ hT
                   have hbm9 := H.out.2.1.chg hch (H.out.2.2.2.1 M (Nat.le_refl _) (by omega))
                   have hbs9 := H.out.2.2.1.chg hch (H.out.2.2.2.1 (M + 1) (by omega) (by omega))
                   have haw9 := H.out.2.2.2.1.then_ hsu (by have := H.out.2.2.1.lt; omega)
                   have hcm := hbm9.cell
                   have hfm := hbm9.free
                   have hc3 := hR9.fr.b3.cell
                   have hf3 := hR9.fr.b3.free
                   have H9 := Lib.hid (And.intro hR9 (And.intro hbm9 (And.intro hbs9 haw9)))
                   clear hT hR9 hch hsu hbm9 hbs9 haw9 hcs))
              by_cases h34 : ev = 34
              · 
                refine leaves_cons (f := 27) (args := #[.pointer (some ⟨M, 0, none⟩), .pointer (some ⟨B + 1 + 1 + 1, 0, none⟩), .pointer (some ⟨B, 0, none⟩), .pointer (some ⟨B + 1 + 1 + 1 + 1, 0, none⟩)]) (by simp) (by simp [go_sem]) ?_
                refine (cl1_no true ev (.inr (.inr h34)) ((H9.out.2.1.far (by show M ≠ B + 1 + 1 + 1; have := HV.out.2.2.2.2; omega) _).cell 0) ((H9.out.1.err ev).fr.b3.cell 0)).mono ?_
                rintro e u' w'' ⟨rfl, rfl, rfl⟩
                refine ⟨.int .i64 ev, res_rep rfl ((H9.out.1.err ev).fr.b3.cell 0), ?_⟩
                rw [HC.out.2, H.out.2.2.2.2, runK_err (by rw [HO.out.1]; exact HE0.out) (.inr (by rw [HO.out.1]; exact h34)), HO.out.1, HO.out.2]
                exact ⟨rfl, (H9.out.1.err ev).done (by omega)⟩
              · refine leaves_cons (f := 27) (args := #[.pointer (some ⟨M, 0, none⟩), .pointer (some ⟨B + 1 + 1 + 1, 0, none⟩), .pointer (some ⟨B, 0, none⟩), .pointer (some ⟨B + 1 + 1 + 1 + 1, 0, none⟩)]) (by simp) (by simp [go_sem]) ?_
                refine (cl1_yes (W := W) ev ⟨HE0.out, h34⟩ (H9.out.1.err ev).lv (by omega) htz ((H9.out.2.1.far (by show M ≠ B + 1 + 1 + 1; have := HV.out.2.2.2.2; omega) _).cell 0) ((H9.out.1.err ev).fr.b3.cell 0) ((H9.out.1.err ev).fr.b0.cell 0) ((H9.out.1.err ev).fr.b4.cell 0)).mono ?_
                rintro e u' w'' ⟨rfl, rfl, hT⟩
                obtain ⟨S10, hR10, _, _⟩ := (H9.out.1.err ev).then_ hT
                refine ⟨.int .i64 ev, res_rep rfl (hR10.fr.b3.cell 0), ?_⟩
                rw [HC.out.2, H.out.2.2.2.2, runK_rem (by rw [HO.out.1]; exact HE0.out) ⟨by decide, by rw [HO.out.1]; exact h34⟩, HO.out.1, HO.out.2]
                exact ⟨rfl, hR10.done (by omega)⟩
          · obtain ⟨ev, hev⟩ : ∃ ev, opE nm tm bs 3 sk = ev := ⟨_, rfl⟩
            obtain ⟨s2, hs2⟩ : ∃ s2, opS nm tm bs 3 sk = s2 := ⟨_, rfl⟩
            have HO := Lib.hid (And.intro hev hs2)
            clear hev hs2
            by_cases he : ev = 0
            · subst he
              go_wp2_with (first
                | (go_at_call 34
                   refine (cl5 H.out.1.lv (by omega) htz hnz (H.out.1.fr.b0.cell 0) (H.out.1.fr.b4.cell 0) (H.out.1.fr.b1.cell 0)).mono ?_
                   rintro e w9 ⟨rfl, hT⟩
                   rw [show renameE tm nm sk = 0 from HO.out.1]
                   rw [show renameS tm nm sk = s2 from HO.out.2] at hT
                   obtain ⟨S9, hR9, hch, hsu⟩ := H.out.1.then_ hT
                   have hbm9 := H.out.2.1.chg hch (H.out.2.2.2.1 M (Nat.le_refl _) (by omega))
                   have hbs9 := H.out.2.2.1.chg hch (H.out.2.2.2.1 (M + 1) (by omega) (by omega))
                   have haw9 := H.out.2.2.2.1.then_ hsu (by have := H.out.2.2.1.lt; omega)
                   have hcm := hbm9.cell
                   have hfm := hbm9.free
                   have hc3 := hR9.fr.b3.cell
                   have hf3 := hR9.fr.b3.free
                   have H9 := Lib.hid (And.intro hR9 (And.intro hbm9 (And.intro hbs9 haw9)))
                   clear hT hR9 hch hsu hbm9 hbs9 haw9 hcs))
              go_roundw
              case rel =>
                have hp := H9.out.1.put (q := M) (by have := HV.out.2.2.2.2; omega) (H9.out.2.2.2 M (Nat.le_refl _) (by omega)) (.bool true)
                refine ⟨4, s2, S9, by omega, by go_num, hp.up (by omega), by simpa using H9.out.2.1.set_ 0 (.bool true), H9.out.2.2.1.far (by show M + 1 ≠ M; omega) _, H9.out.2.2.2, ?_⟩
                rw [H.out.2.2.2.2, runK_ok HO.out.1, HO.out.2]
              case measure => simp [intOf]
            · have heb : (ev != 0) = true := by simpa using he
              have HE0 := Lib.hid he
              clear he
              go_wp2_with (first
                | (go_at_call 34
                   refine (cl5 H.out.1.lv (by omega) htz hnz (H.out.1.fr.b0.cell 0) (H.out.1.fr.b4.cell 0) (H.out.1.fr.b1.cell 0)).mono ?_
                   rintro e w9 ⟨rfl, hT⟩
                   rw [show renameE tm nm sk = ev from HO.out.1]
                   rw [show renameS tm nm sk = s2 from HO.out.2] at hT
                   obtain ⟨S9, hR9, hch, hsu⟩ := H.out.1.then_ hT
                   have hbm9 := H.out.2.1.chg hch (H.out.2.2.2.1 M (Nat.le_refl _) (by omega))
                   have hbs9 := H.out.2.2.1.chg hch (H.out.2.2.2.1 (M + 1) (by omega) (by omega))
                   have haw9 := H.out.2.2.2.1.then_ hsu (by have := H.out.2.2.1.lt; omega)
                   have hcm := hbm9.cell
                   have hfm := hbm9.free
                   have hc3 := hR9.fr.b3.cell
                   have hf3 := hR9.fr.b3.free
                   have H9 := Lib.hid (And.intro hR9 (And.intro hbm9 (And.intro hbs9 haw9)))
                   clear hT hR9 hch hsu hbm9 hbs9 haw9 hcs))
              by_cases h34 : ev = 34
              · 
                refine leaves_cons (f := 27) (args := #[.pointer (some ⟨M, 0, none⟩), .pointer (some ⟨B + 1 + 1 + 1, 0, none⟩), .pointer (some ⟨B, 0, none⟩), .pointer (some ⟨B + 1 + 1 + 1 + 1, 0, none⟩)]) (by simp) (by simp [go_sem]) ?_
                refine (cl1_no true ev (.inr (.inr h34)) ((H9.out.2.1.far (by show M ≠ B + 1 + 1 + 1; have := HV.out.2.2.2.2; omega) _).cell 0) ((H9.out.1.err ev).fr.b3.cell 0)).mono ?_
                rintro e u' w'' ⟨rfl, rfl, rfl⟩
                refine ⟨.int .i64 ev, res_rep rfl ((H9.out.1.err ev).fr.b3.cell 0), ?_⟩
                rw [HC.out.2, H.out.2.2.2.2, runK_err (by rw [HO.out.1]; exact HE0.out) (.inr (by rw [HO.out.1]; exact h34)), HO.out.1, HO.out.2]
                exact ⟨rfl, (H9.out.1.err ev).done (by omega)⟩
              · refine leaves_cons (f := 27) (args := #[.pointer (some ⟨M, 0, none⟩), .pointer (some ⟨B + 1 + 1 + 1, 0, none⟩), .pointer (some ⟨B, 0, none⟩), .pointer (some ⟨B + 1 + 1 + 1 + 1, 0, none⟩)]) (by simp) (by simp [go_sem]) ?_
                refine (cl1_yes (W := W) ev ⟨HE0.out, h34⟩ (H9.out.1.err ev).lv (by omega) htz ((H9.out.2.1.far (by show M ≠ B + 1 + 1 + 1; have := HV.out.2.2.2.2; omega) _).cell 0) ((H9.out.1.err ev).fr.b3.cell 0) ((H9.out.1.err ev).fr.b0.cell 0) ((H9.out.1.err ev).fr.b4.cell 0)).mono ?_
                rintro e u' w'' ⟨rfl, rfl, hT⟩
                obtain ⟨S10, hR10, _, _⟩ := (H9.out.1.err ev).then_ hT
                refine ⟨.int .i64 ev, res_rep rfl (hR10.fr.b3.cell 0), ?_⟩
                rw [HC.out.2, H.out.2.2.2.2, runK_rem (by rw [HO.out.1]; exact HE0.out) ⟨by decide, by rw [HO.out.1]; exact h34⟩, HO.out.1, HO.out.2]
                exact ⟨rfl, hR10.done (by omega)⟩
          · obtain ⟨ev, hev⟩ : ∃ ev, opE nm tm bs 4 sk = ev := ⟨_, rfl⟩
            obtain ⟨s2, hs2⟩ : ∃ s2, opS nm tm bs 4 sk = s2 := ⟨_, rfl⟩
            have HO := Lib.hid (And.intro hev hs2)
            clear hev hs2
            by_cases he : ev = 0
            · subst he
              go_wp2_with (first
                | (go_at_call 36
                   refine (lv_syncDir H.out.1.lv (by omega)).mono ?_
                   rintro e w9 ⟨rfl, hT⟩
                   rw [show syncDirE sk = 0 from HO.out.1]
                   rw [show syncDirS sk = s2 from HO.out.2] at hT
                   obtain ⟨S9, hR9, hch, hsu⟩ := H.out.1.then_ hT
                   have hbm9 := H.out.2.1.chg hch (H.out.2.2.2.1 M (Nat.le_refl _) (by omega))
                   have hbs9 := H.out.2.2.1.chg hch (H.out.2.2.2.1 (M + 1) (by omega) (by omega))
                   have haw9 := H.out.2.2.2.1.then_ hsu (by have := H.out.2.2.1.lt; omega)
                   have hcm := hbm9.cell
                   have hfm := hbm9.free
                   have hc3 := hR9.fr.b3.cell
                   have hf3 := hR9.fr.b3.free
                   have H9 := Lib.hid (And.intro hR9 (And.intro hbm9 (And.intro hbs9 haw9)))
                   clear hT hR9 hch hsu hbm9 hbs9 haw9 hcs))
              go_roundw
              case rel =>
                have hp := H9.out.1.put (q := M) (by have := HV.out.2.2.2.2; omega) (H9.out.2.2.2 M (Nat.le_refl _) (by omega)) (.bool true)
                refine ⟨5, s2, S9, by omega, by go_num, hp.up (by omega), by simpa using H9.out.2.1.set_ 0 (.bool true), H9.out.2.2.1.far (by show M + 1 ≠ M; omega) _, H9.out.2.2.2, ?_⟩
                rw [H.out.2.2.2.2, runK_ok HO.out.1, HO.out.2]
              case measure => simp [intOf]
            · have heb : (ev != 0) = true := by simpa using he
              have HE0 := Lib.hid he
              clear he
              go_wp2_with (first
                | (go_at_call 36
                   refine (lv_syncDir H.out.1.lv (by omega)).mono ?_
                   rintro e w9 ⟨rfl, hT⟩
                   rw [show syncDirE sk = ev from HO.out.1]
                   rw [show syncDirS sk = s2 from HO.out.2] at hT
                   obtain ⟨S9, hR9, hch, hsu⟩ := H.out.1.then_ hT
                   have hbm9 := H.out.2.1.chg hch (H.out.2.2.2.1 M (Nat.le_refl _) (by omega))
                   have hbs9 := H.out.2.2.1.chg hch (H.out.2.2.2.1 (M + 1) (by omega) (by omega))
                   have haw9 := H.out.2.2.2.1.then_ hsu (by have := H.out.2.2.1.lt; omega)
                   have hcm := hbm9.cell
                   have hfm := hbm9.free
                   have hc3 := hR9.fr.b3.cell
                   have hf3 := hR9.fr.b3.free
                   have H9 := Lib.hid (And.intro hR9 (And.intro hbm9 (And.intro hbs9 haw9)))
                   clear hT hR9 hch hsu hbm9 hbs9 haw9 hcs))
              by_cases h34 : ev = 34
              · 
                refine leaves_cons (f := 27) (args := #[.pointer (some ⟨M, 0, none⟩), .pointer (some ⟨B + 1 + 1 + 1, 0, none⟩), .pointer (some ⟨B, 0, none⟩), .pointer (some ⟨B + 1 + 1 + 1 + 1, 0, none⟩)]) (by simp) (by simp [go_sem]) ?_
                refine (cl1_no true ev (.inr (.inr h34)) ((H9.out.2.1.far (by show M ≠ B + 1 + 1 + 1; have := HV.out.2.2.2.2; omega) _).cell 0) ((H9.out.1.err ev).fr.b3.cell 0)).mono ?_
                rintro e u' w'' ⟨rfl, rfl, rfl⟩
                refine ⟨.int .i64 ev, res_rep rfl ((H9.out.1.err ev).fr.b3.cell 0), ?_⟩
                rw [HC.out.2, H.out.2.2.2.2, runK_err (by rw [HO.out.1]; exact HE0.out) (.inr (by rw [HO.out.1]; exact h34)), HO.out.1, HO.out.2]
                exact ⟨rfl, (H9.out.1.err ev).done (by omega)⟩
              · refine leaves_cons (f := 27) (args := #[.pointer (some ⟨M, 0, none⟩), .pointer (some ⟨B + 1 + 1 + 1, 0, none⟩), .pointer (some ⟨B, 0, none⟩), .pointer (some ⟨B + 1 + 1 + 1 + 1, 0, none⟩)]) (by simp) (by simp [go_sem]) ?_
                refine (cl1_yes (W := W) ev ⟨HE0.out, h34⟩ (H9.out.1.err ev).lv (by omega) htz ((H9.out.2.1.far (by show M ≠ B + 1 + 1 + 1; have := HV.out.2.2.2.2; omega) _).cell 0) ((H9.out.1.err ev).fr.b3.cell 0) ((H9.out.1.err ev).fr.b0.cell 0) ((H9.out.1.err ev).fr.b4.cell 0)).mono ?_
                rintro e u' w'' ⟨rfl, rfl, hT⟩
                obtain ⟨S10, hR10, _, _⟩ := (H9.out.1.err ev).then_ hT
                refine ⟨.int .i64 ev, res_rep rfl (hR10.fr.b3.cell 0), ?_⟩
                rw [HC.out.2, H.out.2.2.2.2, runK_rem (by rw [HO.out.1]; exact HE0.out) ⟨by decide, by rw [HO.out.1]; exact h34⟩, HO.out.1, HO.out.2]
                exact ⟨rfl, hR10.done (by omega)⟩
          · have hc3 := H.out.1.fr.b3.cell
            have hf3 := H.out.1.fr.b3.free
            clear hcs
            go_wp2
            refine leaves_cons (f := 27) (args := #[.pointer (some ⟨M, 0, none⟩), .pointer (some ⟨B + 1 + 1 + 1, 0, none⟩), .pointer (some ⟨B, 0, none⟩), .pointer (some ⟨B + 1 + 1 + 1 + 1, 0, none⟩)]) (by simp) (by simp [go_sem]) ?_
            refine (cl1_no true 0 (.inr (.inl rfl)) ((H.out.2.1.far (by show M ≠ B + 1 + 1 + 1; have := HV.out.2.2.2.2; omega) _).cell 0) ((H.out.1.err 0).fr.b3.cell 0)).mono ?_
            rintro e u' w'' ⟨rfl, rfl, rfl⟩
            refine ⟨.int .i64 0, res_rep rfl ((H.out.1.err 0).fr.b3.cell 0), ?_⟩
            rw [HC.out.2, H.out.2.2.2.2]
            exact ⟨rfl, (H.out.1.err 0).done (by omega)⟩
      · have hrb : (r != 0) = true := by simpa using hr0
        have HQ0 := Lib.hid hr0
        clear hr0
        rcases hx01 with rfl | rfl
        all_goals
        go_wp2_with (first
          | (go_at_call 25
             have z0 := T0
             clear z0
             refine (lv_size nm HR.out.1.lv hnz).mono ?_
             rintro e w6 ⟨rfl, hb6⟩
             rw [HE.out.1]
             have hR6 := HR.out.1.next hb6
             have hc0 := hR6.fr.b0.cell
             have hc4 := hR6.fr.b4.cell
             have hc3 := hR6.fr.b3.cell
             have hf3 := hR6.fr.b3.free
             have H6 := Lib.hid (And.intro hR6 hb6)
             clear hR6 hb6
             have T1 := Lib.hid True.intro
             clear T0)
          | (go_at_call 25
             have z0 := T1
             clear z0
             refine (lv_size tm H6.out.1.lv htz).mono ?_
             rintro e w7 ⟨rfl, hb7⟩
             rw [HE2.out]
             have hR7 := H6.out.1.next hb7
             have hc0 := hR7.fr.b0.cell
             have hc4 := hR7.fr.b4.cell
             have hc3 := hR7.fr.b3.cell
             have hf3 := hR7.fr.b3.free
             have H7 := Lib.hid hR7
             clear hR7 hb7
             have T2 := Lib.hid True.intro
             clear T1)
          | (go_at_call 26
             refine (lv_remove tm H7.out.lv (by omega) htz).mono ?_
             rintro e w8 ⟨rfl, hT⟩
             obtain ⟨S8, hR8, _, _⟩ := H7.out.then_ hT
             rw [HQ.out.1]
             rw [HQ.out.2.1] at hR8
             have hc0 := hR8.fr.b0.cell
             have hc4 := hR8.fr.b4.cell
             have hc3 := hR8.fr.b3.cell
             have hf3 := hR8.fr.b3.free
             have H8 := Lib.hid hR8
             clear hR8 hT))
        refine ⟨.int .i64 r, res_rep rfl ((H8.out.err r).fr.b3.cell 0), ?_⟩
        rw [HQ.out.2.2, if_neg HQ0.out]
        exact ⟨rfl, (H8.out.err r).done (by omega)⟩
    · subst h31
      rcases hx01 with rfl | rfl
      all_goals
      go_upto_region 15 with (first
        | (go_at_call 25
           have z0 := T0
           clear z0
           refine (lv_size nm HR.out.1.lv hnz).mono ?_
           rintro e w6 ⟨rfl, hb6⟩
           rw [HE.out.1]
           have hR6 := HR.out.1.next hb6
           have hc0 := hR6.fr.b0.cell
           have hc4 := hR6.fr.b4.cell
           have hc3 := hR6.fr.b3.cell
           have hf3 := hR6.fr.b3.free
           have H6 := Lib.hid (And.intro hR6 hb6)
           clear hR6 hb6
           have T1 := Lib.hid True.intro
           clear T0)
        | (go_at_call 25
           have z0 := T1
           clear z0
           refine (lv_size tm H6.out.1.lv htz).mono ?_
           rintro e w7 ⟨rfl, hb7⟩
           rw [HE2.out]
           have hR7 := H6.out.1.next hb7
           have hc0 := hR7.fr.b0.cell
           have hc4 := hR7.fr.b4.cell
           have hc3 := hR7.fr.b3.cell
           have hf3 := hR7.fr.b3.free
           have H7 := Lib.hid hR7
           clear hR7 hb7
           have T2 := Lib.hid True.intro
           clear T1))
      have HC := Lib.hid (And.intro ((H7.out).up (show N ≤ N + 1 by omega)) (show replT nm tm bs s = runK nm tm bs 5 0 s from by have := HE.out.2; simpa using this))
      have hl0 := HC.out.1.fr.b0.lt
      go_upto_region 18 with fail
      obtain ⟨M, hM⟩ : ∃ M, w7.heap.size = M := ⟨_, rfl⟩
      have hbm : Box ((w7.alloc (.cells #[.bool false] 4)).alloc (.cells #[.func (.func 28) #[] #[.pointer (some ⟨B, 0, none⟩), .pointer (some ⟨B + 1 + 1 + 1 + 1, 0, none⟩)], .func (.func 30) #[] #[.pointer (some ⟨B, 0, none⟩), .pointer (some ⟨B + 1 + 1 + 1 + 1, 0, none⟩), .pointer (some ⟨B + 1 + 1, 0, none⟩)], .func (.func 32) #[] #[.pointer (some ⟨B, 0, none⟩), .pointer (some ⟨B + 1 + 1 + 1 + 1, 0, none⟩)], .func (.func 34) #[] #[.pointer (some ⟨B, 0, none⟩), .pointer (some ⟨B + 1 + 1 + 1 + 1, 0, none⟩), .pointer (some ⟨B + 1, 0, none⟩)], .func (.func 36) #[.pointer (some ⟨d, 0, none⟩)] #[]] 71)) M 4 #[.bool false] := hM ▸ (Box.new w7 _ _).alloc _
      have hbs : Box ((w7.alloc (.cells #[.bool false] 4)).alloc (.cells #[.func (.func 28) #[] #[.pointer (some ⟨B, 0, none⟩), .pointer (some ⟨B + 1 + 1 + 1 + 1, 0, none⟩)], .func (.func 30) #[] #[.pointer (some ⟨B, 0, none⟩), .pointer (some ⟨B + 1 + 1 + 1 + 1, 0, none⟩), .pointer (some ⟨B + 1 + 1, 0, none⟩)], .func (.func 32) #[] #[.pointer (some ⟨B, 0, none⟩), .pointer (some ⟨B + 1 + 1 + 1 + 1, 0, none⟩)], .func (.func 34) #[] #[.pointer (some ⟨B, 0, none⟩), .pointer (some ⟨B + 1 + 1 + 1 + 1, 0, none⟩), .pointer (some ⟨B + 1, 0, none⟩)], .func (.func 36) #[.pointer (some ⟨d, 0, none⟩)] #[]] 71)) (M + 1) 71 #[.func (.func 28) #[] #[.pointer (some ⟨B, 0, none⟩), .pointer (some ⟨B + 1 + 1 + 1 + 1, 0, none⟩)], .func (.func 30) #[] #[.pointer (some ⟨B, 0, none⟩), .pointer (some ⟨B + 1 + 1 + 1 + 1, 0, none⟩), .pointer (some ⟨B + 1 + 1, 0, none⟩)], .func (.func 32) #[] #[.pointer (some ⟨B, 0, none⟩), .pointer (some ⟨B + 1 + 1 + 1 + 1, 0, none⟩)], .func (.func 34) #[] #[.pointer (some ⟨B, 0, none⟩), .pointer (some ⟨B + 1 + 1 + 1 + 1, 0, none⟩), .pointer (some ⟨B + 1, 0, none⟩)], .func (.func 36) #[.pointer (some ⟨d, 0, none⟩)] #[]] := by
        have := Box.new (w7.alloc (.cells #[.bool false] 4)) 71 #[.func (.func 28) #[] #[.pointer (some ⟨B, 0, none⟩), .pointer (some ⟨B + 1 + 1 + 1 + 1, 0, none⟩)], .func (.func 30) #[] #[.pointer (some ⟨B, 0, none⟩), .pointer (some ⟨B + 1 + 1 + 1 + 1, 0, none⟩), .pointer (some ⟨B + 1 + 1, 0, none⟩)], .func (.func 32) #[] #[.pointer (some ⟨B, 0, none⟩), .pointer (some ⟨B + 1 + 1 + 1 + 1, 0, none⟩)], .func (.func 34) #[] #[.pointer (some ⟨B, 0, none⟩), .pointer (some ⟨B + 1 + 1 + 1 + 1, 0, none⟩), .pointer (some ⟨B + 1, 0, none⟩)], .func (.func 36) #[.pointer (some ⟨d, 0, none⟩)] #[]]
        simp only [World.alloc, Array.size_push] at this ⊢
        rw [hM] at this
        exact this
      have hrc := HC.out.1.next ((Below.al w7 (.cells #[.bool false] 4)).trans ((Below.al (w7.alloc (.cells #[.bool false] 4)) (.cells #[.func (.func 28) #[] #[.pointer (some ⟨B, 0, none⟩), .pointer (some ⟨B + 1 + 1 + 1 + 1, 0, none⟩)], .func (.func 30) #[] #[.pointer (some ⟨B, 0, none⟩), .pointer (some ⟨B + 1 + 1 + 1 + 1, 0, none⟩), .pointer (some ⟨B + 1 + 1, 0, none⟩)], .func (.func 32) #[] #[.pointer (some ⟨B, 0, none⟩), .pointer (some ⟨B + 1 + 1 + 1 + 1, 0, none⟩)], .func (.func 34) #[] #[.pointer (some ⟨B, 0, none⟩), .pointer (some ⟨B + 1 + 1 + 1 + 1, 0, none⟩), .pointer (some ⟨B + 1, 0, none⟩)], .func (.func 36) #[.pointer (some ⟨d, 0, none⟩)] #[]] 71)).mono (by simp)))
      have haw : Aw S M (M + 2) := fun k h1 _ h3 => by have := HC.out.1.lv.1.lt k h3; omega
      have hBM : B + 5 ≤ M := hM ▸ HC.out.1.fr.lt
      rw [hM]
      generalize hwv : ((w7.alloc (.cells #[.bool false] 4)).alloc (.cells #[.func (.func 28) #[] #[.pointer (some ⟨B, 0, none⟩), .pointer (some ⟨B + 1 + 1 + 1 + 1, 0, none⟩)], .func (.func 30) #[] #[.pointer (some ⟨B, 0, none⟩), .pointer (some ⟨B + 1 + 1 + 1 + 1, 0, none⟩), .pointer (some ⟨B + 1 + 1, 0, none⟩)], .func (.func 32) #[] #[.pointer (some ⟨B, 0, none⟩), .pointer (some ⟨B + 1 + 1 + 1 + 1, 0, none⟩)], .func (.func 34) #[] #[.pointer (some ⟨B, 0, none⟩), .pointer (some ⟨B + 1 + 1 + 1 + 1, 0, none⟩), .pointer (some ⟨B + 1, 0, none⟩)], .func (.func 36) #[.pointer (some ⟨d, 0, none⟩)] #[]] 71)) = wv at hbm hbs hrc ⊢
      have HV := Lib.hid (And.intro hrc (And.intro hbm (And.intro hbs (And.intro haw hBM))))
      clear hwv hbm hbs hrc haw hl0 hM hc0 hc4 hc3 hf3
      go_wp2
      go_loopw [63] (fun v63 wr => ∃ (k : Nat) (sk : Dk) (Sk : Nat → Prop), k ≤ 5 ∧ v63 = .int .i64 k ∧ RC W w wr S Sk d sk (N + 1 + k) B nm A n c tm 0 bs ∧ Box wr M 4 #[.bool (decide (0 < k))] ∧ Box wr (M + 1) 71 #[.func (.func 28) #[] #[.pointer (some ⟨B, 0, none⟩), .pointer (some ⟨B + 1 + 1 + 1 + 1, 0, none⟩)], .func (.func 30) #[] #[.pointer (some ⟨B, 0, none⟩), .pointer (some ⟨B + 1 + 1 + 1 + 1, 0, none⟩), .pointer (some ⟨B + 1 + 1, 0, none⟩)], .func (.func 32) #[] #[.pointer (some ⟨B, 0, none⟩), .pointer (some ⟨B + 1 + 1 + 1 + 1, 0, none⟩)], .func (.func 34) #[] #[.pointer (some ⟨B, 0, none⟩), .pointer (some ⟨B + 1 + 1 + 1 + 1, 0, none⟩), .pointer (some ⟨B + 1, 0, none⟩)], .func (.func 36) #[.pointer (some ⟨d, 0, none⟩)] #[]] ∧ Aw Sk M (M + 2) ∧ runK nm tm bs 5 0 s = runK nm tm bs (5 - k) k sk) (fun v63 _ => 5 - (intOf v63).toNat)
      case atStart => exact ⟨0, s, S, by omega, rfl, HV.out.1, HV.out.2.1, HV.out.2.2.1, HV.out.2.2.2.1, rfl⟩
      case round =>
        obtain ⟨k, sk, Sk, hk, rfl, hR, hbm, hbs, haw, hrun⟩ := hrel
        have hcs := hbs.cell
        have H := Lib.hid (And.intro hR (And.intro hbm (And.intro hbs (And.intro haw hrun))))
        clear hR hbm hbs haw hrun
        rcases (show k = 0 ∨ k = 1 ∨ k = 2 ∨ k = 3 ∨ k = 4 ∨ k = 5 by omega) with rfl | rfl | rfl | rfl | rfl | rfl
        · obtain ⟨ev, hev⟩ : ∃ ev, opE nm tm bs 0 sk = ev := ⟨_, rfl⟩
          obtain ⟨s2, hs2⟩ : ∃ s2, opS nm tm bs 0 sk = s2 := ⟨_, rfl⟩
          have HO := Lib.hid (And.intro hev hs2)
          clear hev hs2
          by_cases he : ev = 0
          · subst he
            go_wp2_with (first
              | (go_at_call 28
                 refine (cl2 H.out.1.lv (by omega) htz (H.out.1.fr.b0.cell 0) (H.out.1.fr.b4.cell 0)).mono ?_
                 rintro e w9 ⟨rfl, hT⟩
                 rw [show createE tm sk = 0 from HO.out.1]
                 rw [show createS tm sk = s2 from HO.out.2] at hT
                 obtain ⟨S9, hR9, hch, hsu⟩ := H.out.1.then_ hT
                 have hbm9 := H.out.2.1.chg hch (H.out.2.2.2.1 M (Nat.le_refl _) (by omega))
                 have hbs9 := H.out.2.2.1.chg hch (H.out.2.2.2.1 (M + 1) (by omega) (by omega))
                 have haw9 := H.out.2.2.2.1.then_ hsu (by have := H.out.2.2.1.lt; omega)
                 have hcm := hbm9.cell
                 have hfm := hbm9.free
                 have hc3 := hR9.fr.b3.cell
                 have hf3 := hR9.fr.b3.free
                 have H9 := Lib.hid (And.intro hR9 (And.intro hbm9 (And.intro hbs9 haw9)))
                 clear hT hR9 hch hsu hbm9 hbs9 haw9 hcs))
            go_roundw
            case rel =>
              have hp := H9.out.1.put (q := M) (by have := HV.out.2.2.2.2; omega) (H9.out.2.2.2 M (Nat.le_refl _) (by omega)) (.bool true)
              refine ⟨1, s2, S9, by omega, by go_num, hp.up (by omega), by simpa using H9.out.2.1.set_ 0 (.bool true), H9.out.2.2.1.far (by show M + 1 ≠ M; omega) _, H9.out.2.2.2, ?_⟩
              rw [H.out.2.2.2.2, runK_ok HO.out.1, HO.out.2]
            case measure => simp [intOf]
          · have heb : (ev != 0) = true := by simpa using he
            have HE0 := Lib.hid he
            clear he
            go_wp2_with (first
              | (go_at_call 28
                 refine (cl2 H.out.1.lv (by omega) htz (H.out.1.fr.b0.cell 0) (H.out.1.fr.b4.cell 0)).mono ?_
                 rintro e w9 ⟨rfl, hT⟩
                 rw [show createE tm sk = ev from HO.out.1]
                 rw [show createS tm sk = s2 from HO.out.2] at hT
                 obtain ⟨S9, hR9, hch, hsu⟩ := H.out.1.then_ hT
                 have hbm9 := H.out.2.1.chg hch (H.out.2.2.2.1 M (Nat.le_refl _) (by omega))
                 have hbs9 := H.out.2.2.1.chg hch (H.out.2.2.2.1 (M + 1) (by omega) (by omega))
                 have haw9 := H.out.2.2.2.1.then_ hsu (by have := H.out.2.2.1.lt; omega)
                 have hcm := hbm9.cell
                 have hfm := hbm9.free
                 have hc3 := hR9.fr.b3.cell
                 have hf3 := hR9.fr.b3.free
                 have H9 := Lib.hid (And.intro hR9 (And.intro hbm9 (And.intro hbs9 haw9)))
                 clear hT hR9 hch hsu hbm9 hbs9 haw9 hcs))
            refine leaves_cons (f := 27) (args := #[.pointer (some ⟨M, 0, none⟩), .pointer (some ⟨B + 1 + 1 + 1, 0, none⟩), .pointer (some ⟨B, 0, none⟩), .pointer (some ⟨B + 1 + 1 + 1 + 1, 0, none⟩)]) (by simp) (by simp [go_sem]) ?_
            refine (cl1_no false ev (.inl rfl) ((H9.out.2.1.far (by show M ≠ B + 1 + 1 + 1; have := HV.out.2.2.2.2; omega) _).cell 0) ((H9.out.1.err ev).fr.b3.cell 0)).mono ?_
            rintro e u' w'' ⟨rfl, rfl, rfl⟩
            refine ⟨.int .i64 ev, res_rep rfl ((H9.out.1.err ev).fr.b3.cell 0), ?_⟩
            rw [HC.out.2, H.out.2.2.2.2, runK_err (by rw [HO.out.1]; exact HE0.out) (.inl rfl), HO.out.1, HO.out.2]
            exact ⟨rfl, (H9.out.1.err ev).done (by omega)⟩
        · obtain ⟨ev, hev⟩ : ∃ ev, opE nm tm bs 1 sk = ev := ⟨_, rfl⟩
          obtain ⟨s2, hs2⟩ : ∃ s2, opS nm tm bs 1 sk = s2 := ⟨_, rfl⟩
          have HO := Lib.hid (And.intro hev hs2)
          clear hev hs2
          by_cases he : ev = 0
          · subst he
            go_wp2_with (first
              | (go_at_call 30
                 refine (cl3 H.out.1.lv (by omega) htz H.out.1.out HR.out.2 hm (H.out.1.fr.b0.cell 0) (H.out.1.fr.b4.cell 0) (H.out.1.fr.b2.cell 0)).mono ?_
                 rintro e w9 ⟨rfl, hT⟩
                 rw [show appendE tm bs sk = 0 from HO.out.1]
                 rw [show appendS tm bs sk = s2 from HO.out.2] at hT
                 obtain ⟨S9, hR9, hch, hsu⟩ := H.out.1.then_ hT
                 have hbm9 := H.out.2.1.chg hch (H.out.2.2.2.1 M (Nat.le_refl _) (by omega))
                 have hbs9 := H.out.2.2.1.chg hch (H.out.2.2.2.1 (M + 1) (by omega) (by omega))
                 have haw9 := H.out.2.2.2.1.then_ hsu (by have := H.out.2.2.1.lt; omega)
                 have hcm := hbm9.cell
                 have hfm := hbm9.free
                 have hc3 := hR9.fr.b3.cell
                 have hf3 := hR9.fr.b3.free
                 have H9 := Lib.hid (And.intro hR9 (And.intro hbm9 (And.intro hbs9 haw9)))
                 clear hT hR9 hch hsu hbm9 hbs9 haw9 hcs))
            go_roundw
            case rel =>
              have hp := H9.out.1.put (q := M) (by have := HV.out.2.2.2.2; omega) (H9.out.2.2.2 M (Nat.le_refl _) (by omega)) (.bool true)
              refine ⟨2, s2, S9, by omega, by go_num, hp.up (by omega), by simpa using H9.out.2.1.set_ 0 (.bool true), H9.out.2.2.1.far (by show M + 1 ≠ M; omega) _, H9.out.2.2.2, ?_⟩
              rw [H.out.2.2.2.2, runK_ok HO.out.1, HO.out.2]
            case measure => simp [intOf]
          · have heb : (ev != 0) = true := by simpa using he
            have HE0 := Lib.hid he
            clear he
            go_wp2_with (first
              | (go_at_call 30
                 refine (cl3 H.out.1.lv (by omega) htz H.out.1.out HR.out.2 hm (H.out.1.fr.b0.cell 0) (H.out.1.fr.b4.cell 0) (H.out.1.fr.b2.cell 0)).mono ?_
                 rintro e w9 ⟨rfl, hT⟩
                 rw [show appendE tm bs sk = ev from HO.out.1]
                 rw [show appendS tm bs sk = s2 from HO.out.2] at hT
                 obtain ⟨S9, hR9, hch, hsu⟩ := H.out.1.then_ hT
                 have hbm9 := H.out.2.1.chg hch (H.out.2.2.2.1 M (Nat.le_refl _) (by omega))
                 have hbs9 := H.out.2.2.1.chg hch (H.out.2.2.2.1 (M + 1) (by omega) (by omega))
                 have haw9 := H.out.2.2.2.1.then_ hsu (by have := H.out.2.2.1.lt; omega)
                 have hcm := hbm9.cell
                 have hfm := hbm9.free
                 have hc3 := hR9.fr.b3.cell
                 have hf3 := hR9.fr.b3.free
                 have H9 := Lib.hid (And.intro hR9 (And.intro hbm9 (And.intro hbs9 haw9)))
                 clear hT hR9 hch hsu hbm9 hbs9 haw9 hcs))
            by_cases h34 : ev = 34
            · 
              refine leaves_cons (f := 27) (args := #[.pointer (some ⟨M, 0, none⟩), .pointer (some ⟨B + 1 + 1 + 1, 0, none⟩), .pointer (some ⟨B, 0, none⟩), .pointer (some ⟨B + 1 + 1 + 1 + 1, 0, none⟩)]) (by simp) (by simp [go_sem]) ?_
              refine (cl1_no true ev (.inr (.inr h34)) ((H9.out.2.1.far (by show M ≠ B + 1 + 1 + 1; have := HV.out.2.2.2.2; omega) _).cell 0) ((H9.out.1.err ev).fr.b3.cell 0)).mono ?_
              rintro e u' w'' ⟨rfl, rfl, rfl⟩
              refine ⟨.int .i64 ev, res_rep rfl ((H9.out.1.err ev).fr.b3.cell 0), ?_⟩
              rw [HC.out.2, H.out.2.2.2.2, runK_err (by rw [HO.out.1]; exact HE0.out) (.inr (by rw [HO.out.1]; exact h34)), HO.out.1, HO.out.2]
              exact ⟨rfl, (H9.out.1.err ev).done (by omega)⟩
            · refine leaves_cons (f := 27) (args := #[.pointer (some ⟨M, 0, none⟩), .pointer (some ⟨B + 1 + 1 + 1, 0, none⟩), .pointer (some ⟨B, 0, none⟩), .pointer (some ⟨B + 1 + 1 + 1 + 1, 0, none⟩)]) (by simp) (by simp [go_sem]) ?_
              refine (cl1_yes (W := W) ev ⟨HE0.out, h34⟩ (H9.out.1.err ev).lv (by omega) htz ((H9.out.2.1.far (by show M ≠ B + 1 + 1 + 1; have := HV.out.2.2.2.2; omega) _).cell 0) ((H9.out.1.err ev).fr.b3.cell 0) ((H9.out.1.err ev).fr.b0.cell 0) ((H9.out.1.err ev).fr.b4.cell 0)).mono ?_
              rintro e u' w'' ⟨rfl, rfl, hT⟩
              obtain ⟨S10, hR10, _, _⟩ := (H9.out.1.err ev).then_ hT
              refine ⟨.int .i64 ev, res_rep rfl (hR10.fr.b3.cell 0), ?_⟩
              rw [HC.out.2, H.out.2.2.2.2, runK_rem (by rw [HO.out.1]; exact HE0.out) ⟨by decide, by rw [HO.out.1]; exact h34⟩, HO.out.1, HO.out.2]
              exact ⟨rfl, hR10.done (by omega)⟩
        · obtain ⟨ev, hev⟩ : ∃ ev, opE nm tm bs 2 sk = ev := ⟨_, rfl⟩
          obtain ⟨s2, hs2⟩ : ∃ s2, opS nm tm bs 2 sk = s2 := ⟨_, rfl⟩
          have HO := Lib.hid (And.intro hev hs2)
          clear hev hs2
          by_cases he : ev = 0
          · subst he
            go_wp2_with (first
              | (go_at_call 32
                 refine (cl4 H.out.1.lv (by omega) htz (H.out.1.fr.b0.cell 0) (H.out.1.fr.b4.cell 0)).mono ?_
                 rintro e w9 ⟨rfl, hT⟩
                 rw [show syncE tm sk = 0 from HO.out.1]
                 rw [show syncS tm sk = s2 from HO.out.2] at hT
                 obtain ⟨S9, hR9, hch, hsu⟩ := H.out.1.then_ hT
                 have hbm9 := H.out.2.1.chg hch (H.out.2.2.2.1 M (Nat.le_refl _) (by omega))
                 have hbs9 := H.out.2.2.1.chg hch (H.out.2.2.2.1 (M + 1) (by omega) (by omega))
                 have haw9 := H.out.2.2.2.1.then_ hsu (by have := H.out.2.2.1.lt; omega)
                 have hcm := hbm9.cell
                 have hfm := hbm9.free
                 have hc3 := hR9.fr.b3.cell
                 have hf3 := hR9.fr.b3.free
                 have H9 := Lib.hid (And.intro hR9 (And.intro hbm9 (And.intro hbs9 haw9)))
                 clear hT hR9 hch hsu hbm9 hbs9 haw9 hcs))
            go_roundw
            case rel =>
              have hp := H9.out.1.put (q := M) (by have := HV.out.2.2.2.2; omega) (H9.out.2.2.2 M (Nat.le_refl _) (by omega)) (.bool true)
              refine ⟨3, s2, S9, by omega, by go_num, hp.up (by omega), by simpa using H9.out.2.1.set_ 0 (.bool true), H9.out.2.2.1.far (by show M + 1 ≠ M; omega) _, H9.out.2.2.2, ?_⟩
              rw [H.out.2.2.2.2, runK_ok HO.out.1, HO.out.2]
            case measure => simp [intOf]
          · have heb : (ev != 0) = true := by simpa using he
            have HE0 := Lib.hid he
            clear he
            go_wp2_with (first
              | (go_at_call 32
                 refine (cl4 H.out.1.lv (by omega) htz (H.out.1.fr.b0.cell 0) (H.out.1.fr.b4.cell 0)).mono ?_
                 rintro e w9 ⟨rfl, hT⟩
                 rw [show syncE tm sk = ev from HO.out.1]
                 rw [show syncS tm sk = s2 from HO.out.2] at hT
                 obtain ⟨S9, hR9, hch, hsu⟩ := H.out.1.then_ hT
                 have hbm9 := H.out.2.1.chg hch (H.out.2.2.2.1 M (Nat.le_refl _) (by omega))
                 have hbs9 := H.out.2.2.1.chg hch (H.out.2.2.2.1 (M + 1) (by omega) (by omega))
                 have haw9 := H.out.2.2.2.1.then_ hsu (by have := H.out.2.2.1.lt; omega)
                 have hcm := hbm9.cell
                 have hfm := hbm9.free
                 have hc3 := hR9.fr.b3.cell
                 have hf3 := hR9.fr.b3.free
                 have H9 := Lib.hid (And.intro hR9 (And.intro hbm9 (And.intro hbs9 haw9)))
                 clear hT hR9 hch hsu hbm9 hbs9 haw9 hcs))
            by_cases h34 : ev = 34
            · 
              refine leaves_cons (f := 27) (args := #[.pointer (some ⟨M, 0, none⟩), .pointer (some ⟨B + 1 + 1 + 1, 0, none⟩), .pointer (some ⟨B, 0, none⟩), .pointer (some ⟨B + 1 + 1 + 1 + 1, 0, none⟩)]) (by simp) (by simp [go_sem]) ?_
              refine (cl1_no true ev (.inr (.inr h34)) ((H9.out.2.1.far (by show M ≠ B + 1 + 1 + 1; have := HV.out.2.2.2.2; omega) _).cell 0) ((H9.out.1.err ev).fr.b3.cell 0)).mono ?_
              rintro e u' w'' ⟨rfl, rfl, rfl⟩
              refine ⟨.int .i64 ev, res_rep rfl ((H9.out.1.err ev).fr.b3.cell 0), ?_⟩
              rw [HC.out.2, H.out.2.2.2.2, runK_err (by rw [HO.out.1]; exact HE0.out) (.inr (by rw [HO.out.1]; exact h34)), HO.out.1, HO.out.2]
              exact ⟨rfl, (H9.out.1.err ev).done (by omega)⟩
            · refine leaves_cons (f := 27) (args := #[.pointer (some ⟨M, 0, none⟩), .pointer (some ⟨B + 1 + 1 + 1, 0, none⟩), .pointer (some ⟨B, 0, none⟩), .pointer (some ⟨B + 1 + 1 + 1 + 1, 0, none⟩)]) (by simp) (by simp [go_sem]) ?_
              refine (cl1_yes (W := W) ev ⟨HE0.out, h34⟩ (H9.out.1.err ev).lv (by omega) htz ((H9.out.2.1.far (by show M ≠ B + 1 + 1 + 1; have := HV.out.2.2.2.2; omega) _).cell 0) ((H9.out.1.err ev).fr.b3.cell 0) ((H9.out.1.err ev).fr.b0.cell 0) ((H9.out.1.err ev).fr.b4.cell 0)).mono ?_
              rintro e u' w'' ⟨rfl, rfl, hT⟩
              obtain ⟨S10, hR10, _, _⟩ := (H9.out.1.err ev).then_ hT
              refine ⟨.int .i64 ev, res_rep rfl (hR10.fr.b3.cell 0), ?_⟩
              rw [HC.out.2, H.out.2.2.2.2, runK_rem (by rw [HO.out.1]; exact HE0.out) ⟨by decide, by rw [HO.out.1]; exact h34⟩, HO.out.1, HO.out.2]
              exact ⟨rfl, hR10.done (by omega)⟩
        · obtain ⟨ev, hev⟩ : ∃ ev, opE nm tm bs 3 sk = ev := ⟨_, rfl⟩
          obtain ⟨s2, hs2⟩ : ∃ s2, opS nm tm bs 3 sk = s2 := ⟨_, rfl⟩
          have HO := Lib.hid (And.intro hev hs2)
          clear hev hs2
          by_cases he : ev = 0
          · subst he
            go_wp2_with (first
              | (go_at_call 34
                 refine (cl5 H.out.1.lv (by omega) htz hnz (H.out.1.fr.b0.cell 0) (H.out.1.fr.b4.cell 0) (H.out.1.fr.b1.cell 0)).mono ?_
                 rintro e w9 ⟨rfl, hT⟩
                 rw [show renameE tm nm sk = 0 from HO.out.1]
                 rw [show renameS tm nm sk = s2 from HO.out.2] at hT
                 obtain ⟨S9, hR9, hch, hsu⟩ := H.out.1.then_ hT
                 have hbm9 := H.out.2.1.chg hch (H.out.2.2.2.1 M (Nat.le_refl _) (by omega))
                 have hbs9 := H.out.2.2.1.chg hch (H.out.2.2.2.1 (M + 1) (by omega) (by omega))
                 have haw9 := H.out.2.2.2.1.then_ hsu (by have := H.out.2.2.1.lt; omega)
                 have hcm := hbm9.cell
                 have hfm := hbm9.free
                 have hc3 := hR9.fr.b3.cell
                 have hf3 := hR9.fr.b3.free
                 have H9 := Lib.hid (And.intro hR9 (And.intro hbm9 (And.intro hbs9 haw9)))
                 clear hT hR9 hch hsu hbm9 hbs9 haw9 hcs))
            go_roundw
            case rel =>
              have hp := H9.out.1.put (q := M) (by have := HV.out.2.2.2.2; omega) (H9.out.2.2.2 M (Nat.le_refl _) (by omega)) (.bool true)
              refine ⟨4, s2, S9, by omega, by go_num, hp.up (by omega), by simpa using H9.out.2.1.set_ 0 (.bool true), H9.out.2.2.1.far (by show M + 1 ≠ M; omega) _, H9.out.2.2.2, ?_⟩
              rw [H.out.2.2.2.2, runK_ok HO.out.1, HO.out.2]
            case measure => simp [intOf]
          · have heb : (ev != 0) = true := by simpa using he
            have HE0 := Lib.hid he
            clear he
            go_wp2_with (first
              | (go_at_call 34
                 refine (cl5 H.out.1.lv (by omega) htz hnz (H.out.1.fr.b0.cell 0) (H.out.1.fr.b4.cell 0) (H.out.1.fr.b1.cell 0)).mono ?_
                 rintro e w9 ⟨rfl, hT⟩
                 rw [show renameE tm nm sk = ev from HO.out.1]
                 rw [show renameS tm nm sk = s2 from HO.out.2] at hT
                 obtain ⟨S9, hR9, hch, hsu⟩ := H.out.1.then_ hT
                 have hbm9 := H.out.2.1.chg hch (H.out.2.2.2.1 M (Nat.le_refl _) (by omega))
                 have hbs9 := H.out.2.2.1.chg hch (H.out.2.2.2.1 (M + 1) (by omega) (by omega))
                 have haw9 := H.out.2.2.2.1.then_ hsu (by have := H.out.2.2.1.lt; omega)
                 have hcm := hbm9.cell
                 have hfm := hbm9.free
                 have hc3 := hR9.fr.b3.cell
                 have hf3 := hR9.fr.b3.free
                 have H9 := Lib.hid (And.intro hR9 (And.intro hbm9 (And.intro hbs9 haw9)))
                 clear hT hR9 hch hsu hbm9 hbs9 haw9 hcs))
            by_cases h34 : ev = 34
            · 
              refine leaves_cons (f := 27) (args := #[.pointer (some ⟨M, 0, none⟩), .pointer (some ⟨B + 1 + 1 + 1, 0, none⟩), .pointer (some ⟨B, 0, none⟩), .pointer (some ⟨B + 1 + 1 + 1 + 1, 0, none⟩)]) (by simp) (by simp [go_sem]) ?_
              refine (cl1_no true ev (.inr (.inr h34)) ((H9.out.2.1.far (by show M ≠ B + 1 + 1 + 1; have := HV.out.2.2.2.2; omega) _).cell 0) ((H9.out.1.err ev).fr.b3.cell 0)).mono ?_
              rintro e u' w'' ⟨rfl, rfl, rfl⟩
              refine ⟨.int .i64 ev, res_rep rfl ((H9.out.1.err ev).fr.b3.cell 0), ?_⟩
              rw [HC.out.2, H.out.2.2.2.2, runK_err (by rw [HO.out.1]; exact HE0.out) (.inr (by rw [HO.out.1]; exact h34)), HO.out.1, HO.out.2]
              exact ⟨rfl, (H9.out.1.err ev).done (by omega)⟩
            · refine leaves_cons (f := 27) (args := #[.pointer (some ⟨M, 0, none⟩), .pointer (some ⟨B + 1 + 1 + 1, 0, none⟩), .pointer (some ⟨B, 0, none⟩), .pointer (some ⟨B + 1 + 1 + 1 + 1, 0, none⟩)]) (by simp) (by simp [go_sem]) ?_
              refine (cl1_yes (W := W) ev ⟨HE0.out, h34⟩ (H9.out.1.err ev).lv (by omega) htz ((H9.out.2.1.far (by show M ≠ B + 1 + 1 + 1; have := HV.out.2.2.2.2; omega) _).cell 0) ((H9.out.1.err ev).fr.b3.cell 0) ((H9.out.1.err ev).fr.b0.cell 0) ((H9.out.1.err ev).fr.b4.cell 0)).mono ?_
              rintro e u' w'' ⟨rfl, rfl, hT⟩
              obtain ⟨S10, hR10, _, _⟩ := (H9.out.1.err ev).then_ hT
              refine ⟨.int .i64 ev, res_rep rfl (hR10.fr.b3.cell 0), ?_⟩
              rw [HC.out.2, H.out.2.2.2.2, runK_rem (by rw [HO.out.1]; exact HE0.out) ⟨by decide, by rw [HO.out.1]; exact h34⟩, HO.out.1, HO.out.2]
              exact ⟨rfl, hR10.done (by omega)⟩
        · obtain ⟨ev, hev⟩ : ∃ ev, opE nm tm bs 4 sk = ev := ⟨_, rfl⟩
          obtain ⟨s2, hs2⟩ : ∃ s2, opS nm tm bs 4 sk = s2 := ⟨_, rfl⟩
          have HO := Lib.hid (And.intro hev hs2)
          clear hev hs2
          by_cases he : ev = 0
          · subst he
            go_wp2_with (first
              | (go_at_call 36
                 refine (lv_syncDir H.out.1.lv (by omega)).mono ?_
                 rintro e w9 ⟨rfl, hT⟩
                 rw [show syncDirE sk = 0 from HO.out.1]
                 rw [show syncDirS sk = s2 from HO.out.2] at hT
                 obtain ⟨S9, hR9, hch, hsu⟩ := H.out.1.then_ hT
                 have hbm9 := H.out.2.1.chg hch (H.out.2.2.2.1 M (Nat.le_refl _) (by omega))
                 have hbs9 := H.out.2.2.1.chg hch (H.out.2.2.2.1 (M + 1) (by omega) (by omega))
                 have haw9 := H.out.2.2.2.1.then_ hsu (by have := H.out.2.2.1.lt; omega)
                 have hcm := hbm9.cell
                 have hfm := hbm9.free
                 have hc3 := hR9.fr.b3.cell
                 have hf3 := hR9.fr.b3.free
                 have H9 := Lib.hid (And.intro hR9 (And.intro hbm9 (And.intro hbs9 haw9)))
                 clear hT hR9 hch hsu hbm9 hbs9 haw9 hcs))
            go_roundw
            case rel =>
              have hp := H9.out.1.put (q := M) (by have := HV.out.2.2.2.2; omega) (H9.out.2.2.2 M (Nat.le_refl _) (by omega)) (.bool true)
              refine ⟨5, s2, S9, by omega, by go_num, hp.up (by omega), by simpa using H9.out.2.1.set_ 0 (.bool true), H9.out.2.2.1.far (by show M + 1 ≠ M; omega) _, H9.out.2.2.2, ?_⟩
              rw [H.out.2.2.2.2, runK_ok HO.out.1, HO.out.2]
            case measure => simp [intOf]
          · have heb : (ev != 0) = true := by simpa using he
            have HE0 := Lib.hid he
            clear he
            go_wp2_with (first
              | (go_at_call 36
                 refine (lv_syncDir H.out.1.lv (by omega)).mono ?_
                 rintro e w9 ⟨rfl, hT⟩
                 rw [show syncDirE sk = ev from HO.out.1]
                 rw [show syncDirS sk = s2 from HO.out.2] at hT
                 obtain ⟨S9, hR9, hch, hsu⟩ := H.out.1.then_ hT
                 have hbm9 := H.out.2.1.chg hch (H.out.2.2.2.1 M (Nat.le_refl _) (by omega))
                 have hbs9 := H.out.2.2.1.chg hch (H.out.2.2.2.1 (M + 1) (by omega) (by omega))
                 have haw9 := H.out.2.2.2.1.then_ hsu (by have := H.out.2.2.1.lt; omega)
                 have hcm := hbm9.cell
                 have hfm := hbm9.free
                 have hc3 := hR9.fr.b3.cell
                 have hf3 := hR9.fr.b3.free
                 have H9 := Lib.hid (And.intro hR9 (And.intro hbm9 (And.intro hbs9 haw9)))
                 clear hT hR9 hch hsu hbm9 hbs9 haw9 hcs))
            by_cases h34 : ev = 34
            · 
              refine leaves_cons (f := 27) (args := #[.pointer (some ⟨M, 0, none⟩), .pointer (some ⟨B + 1 + 1 + 1, 0, none⟩), .pointer (some ⟨B, 0, none⟩), .pointer (some ⟨B + 1 + 1 + 1 + 1, 0, none⟩)]) (by simp) (by simp [go_sem]) ?_
              refine (cl1_no true ev (.inr (.inr h34)) ((H9.out.2.1.far (by show M ≠ B + 1 + 1 + 1; have := HV.out.2.2.2.2; omega) _).cell 0) ((H9.out.1.err ev).fr.b3.cell 0)).mono ?_
              rintro e u' w'' ⟨rfl, rfl, rfl⟩
              refine ⟨.int .i64 ev, res_rep rfl ((H9.out.1.err ev).fr.b3.cell 0), ?_⟩
              rw [HC.out.2, H.out.2.2.2.2, runK_err (by rw [HO.out.1]; exact HE0.out) (.inr (by rw [HO.out.1]; exact h34)), HO.out.1, HO.out.2]
              exact ⟨rfl, (H9.out.1.err ev).done (by omega)⟩
            · refine leaves_cons (f := 27) (args := #[.pointer (some ⟨M, 0, none⟩), .pointer (some ⟨B + 1 + 1 + 1, 0, none⟩), .pointer (some ⟨B, 0, none⟩), .pointer (some ⟨B + 1 + 1 + 1 + 1, 0, none⟩)]) (by simp) (by simp [go_sem]) ?_
              refine (cl1_yes (W := W) ev ⟨HE0.out, h34⟩ (H9.out.1.err ev).lv (by omega) htz ((H9.out.2.1.far (by show M ≠ B + 1 + 1 + 1; have := HV.out.2.2.2.2; omega) _).cell 0) ((H9.out.1.err ev).fr.b3.cell 0) ((H9.out.1.err ev).fr.b0.cell 0) ((H9.out.1.err ev).fr.b4.cell 0)).mono ?_
              rintro e u' w'' ⟨rfl, rfl, hT⟩
              obtain ⟨S10, hR10, _, _⟩ := (H9.out.1.err ev).then_ hT
              refine ⟨.int .i64 ev, res_rep rfl (hR10.fr.b3.cell 0), ?_⟩
              rw [HC.out.2, H.out.2.2.2.2, runK_rem (by rw [HO.out.1]; exact HE0.out) ⟨by decide, by rw [HO.out.1]; exact h34⟩, HO.out.1, HO.out.2]
              exact ⟨rfl, hR10.done (by omega)⟩
        · have hc3 := H.out.1.fr.b3.cell
          have hf3 := H.out.1.fr.b3.free
          clear hcs
          go_wp2
          refine leaves_cons (f := 27) (args := #[.pointer (some ⟨M, 0, none⟩), .pointer (some ⟨B + 1 + 1 + 1, 0, none⟩), .pointer (some ⟨B, 0, none⟩), .pointer (some ⟨B + 1 + 1 + 1 + 1, 0, none⟩)]) (by simp) (by simp [go_sem]) ?_
          refine (cl1_no true 0 (.inr (.inl rfl)) ((H.out.2.1.far (by show M ≠ B + 1 + 1 + 1; have := HV.out.2.2.2.2; omega) _).cell 0) ((H.out.1.err 0).fr.b3.cell 0)).mono ?_
          rintro e u' w'' ⟨rfl, rfl, rfl⟩
          refine ⟨.int .i64 0, res_rep rfl ((H.out.1.err 0).fr.b3.cell 0), ?_⟩
          rw [HC.out.2, H.out.2.2.2.2]
          exact ⟨rfl, (H.out.1.err 0).done (by omega)⟩
    · have hz0 : (e2 == 0) = false := by simpa using h0
      have hz31 : (e2 == 31) = false := by simpa using h31
      have hrep : replT nm tm bs s = (e2, s) := by rw [HE.out.2, if_neg h0, if_neg h31]
      have HQ := Lib.hid hrep
      clear hrep h0 h31
      rcases hx01 with rfl | rfl
      all_goals
      go_wp2_with (first
        | (go_at_call 25
           have z0 := T0
           clear z0
           refine (lv_size nm HR.out.1.lv hnz).mono ?_
           rintro e w6 ⟨rfl, hb6⟩
           rw [HE.out.1]
           have hR6 := HR.out.1.next hb6
           have hc0 := hR6.fr.b0.cell
           have hc4 := hR6.fr.b4.cell
           have hc3 := hR6.fr.b3.cell
           have hf3 := hR6.fr.b3.free
           have H6 := Lib.hid (And.intro hR6 hb6)
           clear hR6 hb6
           have T1 := Lib.hid True.intro
           clear T0)
        | (go_at_call 25
           have z0 := T1
           clear z0
           refine (lv_size tm H6.out.1.lv htz).mono ?_
           rintro e w7 ⟨rfl, hb7⟩
           rw [HE2.out]
           have hR7 := H6.out.1.next hb7
           have hc0 := hR7.fr.b0.cell
           have hc4 := hR7.fr.b4.cell
           have hc3 := hR7.fr.b3.cell
           have hf3 := hR7.fr.b3.free
           have H7 := Lib.hid hR7
           clear hR7 hb7
           have T2 := Lib.hid True.intro
           clear T1))
      refine ⟨.int .i64 e2, res_rep rfl ((H7.out.err e2).fr.b3.cell 0), ?_⟩
      rw [HQ.out]
      exact ⟨rfl, (H7.out.err e2).done (by omega)⟩
end Go.Proofs.Ytnecafhakkjbpaa
