import Derived.Test.YtmhlgbpgdhhfnaaGreatV15
set_option linter.unusedVariables false
set_option linter.unusedSimpArgs false
namespace Go.Proofs.YtmhlgbpgdhhfnaaGreat
open Go.RowKit Go.Maps Sqz

set_option maxRecDepth 100000 in
theorem refRest (p : Nat) (b : Option Addr) (cap : Nat) (er ea : Int) (l : List UInt8) (s : RSt) (w : World) (h : RRx w p b cap er ea l s) (hmx : l.length ≤ 140737488355328) :
    Calls Tryz.prog 41 #[.pointer (some ⟨p, 0, none⟩)] w fun e w' => e = .returned (.int .i64 ((l.length : Int) - s.at_)) ∧ ∃ n, w' = w.drewN n := by
  have hc := h.box.cell
  have hl := h.box.lt
  have hle := h.le
  obtain ⟨at_, fl⟩ := s
  simp only at hc hle
  clear h
  go_enter Tryz.func41, Tryz.ntmps41
  go_wp2
  go_quiet (fail)
  go_wp2
  go_ret
  exact ⟨rfl, _, rfl⟩

theorem step_app {P : Program} {w : World} {o : Oper} {a : Act} {K : Act → World → Prop} {Q : Exit → Act → World → Prop} (s x : Operand) (t : TypeId)
    (hop : o.op = Op.call { callee := Callee.builtin Builtin.append, args := #[s, x], argTypes := #[t, t] })
    (base : Nat) (e : TypeId) (i : TypeInfo) (z : Value) (size bytes : Nat) (ht : P.underlying t = some (.slice e)) (hi : P.info? e = some i) (hz : i.zero = some z)
    (hsize : i.size = size) (hby : i.bytes = bytes) (hzs : z.cells.size = size) (hsz : 0 < size)
    (v : Value) (k : Nat) (xs : List Value) (hs : a.eval s = v) (hown : w.ownsRow base e size v k xs)
    (B : Nat) (A : Option Addr) (m c : Nat) (news : List Value) (hx : a.eval x = .slice A m c) (hl : news.length = m * size) (hr : Rd w B A news) (h1 : ∀ u ∈ news, u.oneCell' = true)
    (h63 : k + m ≤ maxLen) (hbytes : (k + m) * bytes ≤ 140737488355328) (hbase : base ≤ w.heap.size)
    (h : ∀ v' w', w'.ownsRow base e size v' (k + m) (xs ++ news) → w.grownBy w' v.ownBlock → (v'.ownBlock = v.ownBlock ∨ v'.ownBlock = some w.heap.size) → K (a.put o.dst v') w') :
    Oper.wp P o a w K Q := by
  obtain ⟨v', w', hrun, r1, r2, r3⟩ := run_app (P := P) w base t o.type e i z size bytes ht hi hz hsize hby hzs hsz v k xs hown B A m c news hl hr h1 h63 hbytes hbase
  unfold Oper.wp execOp
  simp only [hop, resolve, invoke, builtin, Sem.run_bind, Sem.run_pure, Result.andThen_ok, List.map_toArray, List.map_cons, List.map_nil, hs, hx, hrun]
  exact h _ _ r1 r2 r3

theorem refRawX (p n : Nat) (b : Option Addr) (cap : Nat) (er ea : Int) (l : List UInt8) (s : RSt) (w : World) (h : RRx w p b cap er ea l s) (hn : n ≤ 140737488355000) (hmx : l.length ≤ 140737488355328) :
    Calls Tryz.prog 40 #[.pointer (some ⟨p, 0, none⟩), .int .i64 n] w fun e w' => ∃ b c, e = .returned (.slice b (tkS n l s).1.length c) ∧ w'.ownsRow w.heap.size 5 1 (.slice b (tkS n l s).1.length c) (tkS n l s).1.length (bv (tkS n l s).1) ∧ SAft p l (tkS n l s).2 w w' := by
  obtain ⟨i1, hi1, hz1, hs1, hy1⟩ := info_parts info_u8
  have hc := h.box.cell
  have hff := h.box.free
  have hl := h.box.lt
  have hle := h.le
  have hcp := h.cap_
  have hfl := h.fl
  obtain ⟨at_, fl⟩ := s
  simp only at hc hle hfl
  have hnn : ¬ (n : Int) < 0 := by omega
  cases fl with
  | true =>
    have hne : (er != 0) = true := by simpa using hfl
    have hne2 : (er == 0) = false := by simpa using hfl
    have HT : Hid (tkS n l ⟨at_, true⟩ = ([], ⟨at_, true⟩)) := by show _ = _; rw [tkS_bad (.inl rfl)]; rfl
    have H := Lib.hid h
    clear h hfl
    go_enter Tryz.func40, Tryz.ntmps40
    go_wp2
    go_ret
    rw [HT.out]
    exact ⟨none, 0, rfl, World.ownsRow_nil _ _ _ _, SAft.same H.out⟩
  | false =>
    obtain rfl : er = 0 := by
      rcases Classical.em (er = 0) with e | e
      · exact e
      exact absurd (hfl.2 e) (by simp)
    have H := Lib.hid h
    clear h hfl
    have r1 : IntKind.i64.wrap ((l.length : Int) - at_) = (l.length : Int) - at_ := IntWalk.i64_in _ (by omega)
    by_cases hok : at_ + n ≤ l.length
    · have HT : Hid (tkS n l ⟨at_, false⟩ = ((l.drop at_).take n, ⟨at_ + n, false⟩)) := tkS_ok rfl hok
      have HLL : Hid (((l.drop at_).take n).length = n) := by show _ = _; rw [List.length_take, List.length_drop]; omega
      have d1 : decide ((l.length : Int) - at_ < n) = false := decide_eq_false (by omega)
      have hsl := fun W => run_part2 W b l.length cap at_ n (at_ : Int) ((at_ : Int) + n) rfl rfl (by omega)
      have r2 : IntKind.i64.wrap ((at_ : Int) + n) = (at_ : Int) + n := IntWalk.i64_in _ (by omega)
      have HR : Hid (Rd w p (tailA b cap at_) (bv ((l.drop at_).take n))) := (H.out.rd.tail_ at_ hcp).take_ n
      generalize (l.drop at_).take n = t at *
      go_enter Tryz.func40, Tryz.ntmps40
      go_wp2
      go_quiet (fail)
      go_wp2
      obtain ⟨W1, hW1⟩ : ∃ W1, (w.drewN nq).drew = W1 := ⟨_, rfl⟩
      have k0 : Chg (fun k => k = p) w W1 := by rw [← hW1]; exact ((Chg.refl _ w).drewN nq).drew
      have k1 : RRx W1 p b cap 0 ea l ⟨at_, false⟩ := by rw [← hW1]; exact H.out.chg (((Chg.refl (fun _ => False) w).drewN nq).drew) (fun _ e => e.elim)
      have k2 : Rd W1 p (tailA b cap at_) (bv t) := by rw [← hW1]; exact HR.out
      have k3 : W1.heap.size = w.heap.size := by rw [← hW1]; rfl
      have hS0 : (fun w' : World => w'.cell? ⟨p, 0, none⟩ = some (.slice b l.length cap) ∧ w'.cell? ⟨p, 1, none⟩ = some (.int .i64 at_)) W1 := ⟨k1.box.cell 0, k1.box.cell 1⟩
      have H1 := Lib.hid (And.intro k0 (And.intro k1 k2))
      have K3 := Lib.hid k3
      have hp1 : p < W1.heap.size := by rw [k3]; exact hl
      clear k3
      refine WT.start (fun w' : World => w'.cell? ⟨p, 0, none⟩ = some (.slice b l.length cap) ∧ w'.cell? ⟨p, 1, none⟩ = some (.int .i64 at_)) 17 (by kernel_rfl) ?_
      rw [hW1]
      clear hW1 k0 k1 k2 hc hff
      refine WT.take 1 (v := ?_) rfl (by kernel_rfl) (by kernel_rfl) (by kernel_rfl) (by kernel_rfl) (fun _ _ _ h => h) (Or.inl ⟨by rfl, ?hy⟩) hS0 ?_
      case hy => first | (intro w hSw; go_simp; done) | (intro w hSw; go_simp; with_reducible rfl)
      simp only [Act.put, List.setIfInBounds_toArray, List.set_cons_zero, List.set_cons_succ]
      refine WT.take 2 (v := ?_) rfl (by kernel_rfl) (by kernel_rfl) (by kernel_rfl) (by kernel_rfl) (fun _ _ _ h => h) (Or.inl ⟨by rfl, ?hy⟩) hS0 ?_
      case hy => first | (intro w hSw; go_simp; done) | (intro w hSw; go_simp; with_reducible rfl)
      simp only [Act.put, List.setIfInBounds_toArray, List.set_cons_zero, List.set_cons_succ]
      refine WT.take 3 (v := ?_) rfl (by kernel_rfl) (by kernel_rfl) (by kernel_rfl) (by kernel_rfl) (fun _ _ _ h => h) (Or.inl ⟨by rfl, ?hy⟩) hS0 ?_
      case hy => first | (intro w hSw; go_simp; done) | (intro w hSw; go_simp; with_reducible rfl)
      simp only [Act.put, List.setIfInBounds_toArray, List.set_cons_zero, List.set_cons_succ]
      refine WT.take 4 (v := ?_) rfl (by kernel_rfl) (by kernel_rfl) (by kernel_rfl) (by kernel_rfl) (fun _ _ _ h => h) (Or.inl ⟨by rfl, ?hy⟩) hS0 ?_
      case hy => first | (intro w hSw; go_simp; done) | (intro w hSw; go_simp; with_reducible rfl)
      simp only [Act.put, List.setIfInBounds_toArray, List.set_cons_zero, List.set_cons_succ]
      refine WT.take 5 (v := ?_) rfl (by kernel_rfl) (by kernel_rfl) (by kernel_rfl) (by kernel_rfl) (fun _ _ _ h => h) (Or.inl ⟨by rfl, ?hy⟩) hS0 ?_
      case hy => first | (intro w hSw; go_simp; done) | (intro w hSw; go_simp; with_reducible rfl)
      simp only [Act.put, List.setIfInBounds_toArray, List.set_cons_zero, List.set_cons_succ]
      refine WT.take 6 (v := ?_) rfl (by kernel_rfl) (by kernel_rfl) (by kernel_rfl) (by kernel_rfl) (fun _ _ _ h => h) (Or.inl ⟨by rfl, ?hy⟩) hS0 ?_
      case hy => first | (intro w hSw; go_simp; done) | (intro w hSw; go_simp; with_reducible rfl)
      simp only [Act.put, List.setIfInBounds_toArray, List.set_cons_zero, List.set_cons_succ]
      refine WT.take 7 (v := ?_) rfl (by kernel_rfl) (by kernel_rfl) (by kernel_rfl) (by kernel_rfl) (fun _ _ _ h => h) (Or.inl ⟨by rfl, ?hy⟩) hS0 ?_
      case hy => first | (intro w hSw; go_simp; done) | (intro w hSw; go_simp; with_reducible rfl)
      simp only [Act.put, List.setIfInBounds_toArray, List.set_cons_zero, List.set_cons_succ]
      refine WT.take 8 (v := ?_) rfl (by kernel_rfl) (by kernel_rfl) (by kernel_rfl) (by kernel_rfl) (fun _ _ _ h => h) (Or.inl ⟨by rfl, ?hy⟩) hS0 ?_
      case hy => first | (intro w hSw; go_simp; done) | (intro w hSw; go_simp; with_reducible rfl)
      simp only [Act.put, List.setIfInBounds_toArray, List.set_cons_zero, List.set_cons_succ]
      refine WT.take 9 (v := ?_) rfl (by kernel_rfl) (by kernel_rfl) (by kernel_rfl) (by kernel_rfl) (fun _ _ _ h => h) (Or.inl ⟨by rfl, ?hy⟩) hS0 ?_
      case hy => first | (intro w hSw; go_simp; done) | (intro w hSw; go_simp; with_reducible rfl)
      simp only [Act.put, List.setIfInBounds_toArray, List.set_cons_zero, List.set_cons_succ]
      refine WT.take 10 (v := ?_) rfl (by kernel_rfl) (by kernel_rfl) (by kernel_rfl) (by kernel_rfl) (fun _ _ _ h => h) (Or.inl ⟨by rfl, ?hy⟩) hS0 ?_
      case hy => first | (intro w hSw; go_simp; done) | (intro w hSw; go_simp; with_reducible rfl)
      simp only [Act.put, List.setIfInBounds_toArray, List.set_cons_zero, List.set_cons_succ]
      refine WT.take 11 (v := ?_) rfl (by kernel_rfl) (by kernel_rfl) (by kernel_rfl) (by kernel_rfl) (fun _ _ _ h => h) (Or.inl ⟨by rfl, ?hy⟩) hS0 ?_
      case hy => first | (intro w hSw; go_simp; done) | (intro w hSw; go_simp; with_reducible rfl)
      simp only [Act.put, List.setIfInBounds_toArray, List.set_cons_zero, List.set_cons_succ]
      refine WT.take 12 (v := ?_) rfl (by kernel_rfl) (by kernel_rfl) (by kernel_rfl) (by kernel_rfl) (fun _ _ _ h => h) (Or.inl ⟨by rfl, ?hy⟩) hS0 ?_
      case hy => first | (intro w hSw; go_simp; done) | (intro w hSw; go_simp; with_reducible rfl)
      simp only [Act.put, List.setIfInBounds_toArray, List.set_cons_zero, List.set_cons_succ]
      refine WT.take 13 (v := ?_) rfl (by kernel_rfl) (by kernel_rfl) (by kernel_rfl) (by kernel_rfl) (fun _ _ _ h => h) (Or.inl ⟨by rfl, ?hy⟩) hS0 ?_
      case hy => first | (intro w hSw; go_simp; done) | (intro w hSw; go_simp; with_reducible rfl)
      simp only [Act.put, List.setIfInBounds_toArray, List.set_cons_zero, List.set_cons_succ]
      refine WT.take 14 (v := ?_) rfl (by kernel_rfl) (by kernel_rfl) (by kernel_rfl) (by kernel_rfl) (fun _ _ _ h => h) (Or.inl ⟨by rfl, ?hy⟩) hS0 ?_
      case hy => first | (intro w hSw; go_simp; done) | (intro w hSw; go_simp; with_reducible rfl)
      simp only [Act.put, List.setIfInBounds_toArray, List.set_cons_zero, List.set_cons_succ]
      refine WT.take 15 (v := ?_) rfl (by kernel_rfl) (by kernel_rfl) (by kernel_rfl) (by kernel_rfl) (fun _ _ _ h => h) (Or.inl ⟨by rfl, ?hy⟩) hS0 ?_
      case hy => first | (intro w hSw; go_simp; done) | (intro w hSw; go_simp; with_reducible rfl)
      simp only [Act.put, List.setIfInBounds_toArray, List.set_cons_zero, List.set_cons_succ]
      refine WT.step 0 rfl (by kernel_rfl) (by decide) fun K hK => ?_
      go_simp
      have k4 : Below W1.heap.size W1 (W1.alloc (.cells #[] 5)) := (Below.refl _ _).alloc (Nat.le_refl _) _
      have hS2 : (fun w' : World => w'.cell? ⟨p, 0, none⟩ = some (.slice b l.length cap) ∧ w'.cell? ⟨p, 1, none⟩ = some (.int .i64 at_)) (W1.alloc (.cells #[] 5)) := ⟨(k4.cell hp1).trans hS0.1, (k4.cell hp1).trans hS0.2⟩
      have Hown := Lib.hid (own_empty W1 W1.heap.size 5 1 (Nat.le_refl _))
      have hsz2 : (W1.alloc (.cells #[] 5)).heap.size = W1.heap.size + 1 := by simp
      have H2 := Lib.hid k4
      clear k4
      obtain ⟨W2, hW2⟩ : ∃ W2, W1.alloc (.cells #[] 5) = W2 := ⟨_, rfl⟩
      rw [hW2] at hS2 hsz2 H2 Hown
      rw [hW2]
      refine hK.out _ _ hS2 ?_
      clear hK K
      refine WT.step 16 rfl (by kernel_rfl) (by decide) fun K hK => ?_
      refine step_app _ _ 22 (by rfl) W1.heap.size 5 i1 _ 1 1 Tryz.underlying22 hi1 hz1 hs1 hy1 rfl (by decide) (.slice (some ⟨W1.heap.size, 0, none⟩) 0 0) 0 [] (by rfl) Hown.out p (tailA b cap at_) n (cap - at_) (bv t) (by rfl) (by rw [bv_len, HLL.out, Nat.mul_one]) (H1.out.2.2.below (H2.out.mono (Nat.le_of_lt hp1))) (one_bv _) (by unfold maxLen; omega) (by omega) (by omega) ?_
      intro v9 w9 hown hgr hor
      rw [Nat.zero_add, List.nil_append] at hown
      obtain ⟨b9, c9, rfl⟩ := ownsRow_slice hown
      have hb9 : Below W1.heap.size W1 w9 := H2.out.grown hgr (by omega) (fun j e => by simp [Value.ownBlock] at e; omega)
      have hS3 : (fun w' : World => w'.cell? ⟨p, 0, none⟩ = some (.slice b l.length cap) ∧ w'.cell? ⟨p, 1, none⟩ = some (.int .i64 at_)) w9 := ⟨(hb9.cell hp1).trans hS0.1, (hb9.cell hp1).trans hS0.2⟩
      have h9 : RRx w9 p b cap 0 ea l ⟨at_, false⟩ := H1.out.2.1.chg (Chg.of_below hb9 fun _ => False) (fun _ e => e.elim)
      have hfc := h9.box.cell
      have hff := h9.box.free
      have hfl9 := h9.box.lt
      have H9 := Lib.hid (And.intro hown (And.intro hb9 h9))
      clear hown hgr hor hb9 h9
      go_simp
      refine hK.out _ _ hS3 ?_
      clear hK K
      refine WT.last 17 rfl (by kernel_rfl) rfl fun K hK => ?_
      go_simp
      refine hK.out _ _ ?_
      clear hK K
      refine WT.done (by kernel_rfl) ?_
      go_wp2
      go_ret
      rw [HT.out]
      have h9 := H9.out.2.2.set_at (k := at_ + n) hok
      have e9 : ((at_ + n : Nat) : Int) = (at_ : Int) + n := by omega
      rw [e9] at h9
      refine ⟨b9, c9, by simp only [HLL.out]; rfl, ?_, ⟨_, _, _, _, h9⟩, (H1.out.1.trans (Chg.of_below H9.out.2.1 _)).set1 rfl _ _⟩
      simp only [HLL.out]
      have hle1 : w.heap.size ≤ W1.heap.size := Nat.le_of_eq K3.out.symm
      exact ownsRow_le (ownsRow_block H9.out.1 fun k hk => Below.heap_setCell _ _ _ k (by
        have := (H9.out.1.lt k hk).1
        show k ≠ p; omega)) hle1
    have HT : Hid (tkS n l ⟨at_, false⟩ = ([], ⟨l.length, true⟩)) := by show _ = _; rw [tkS_bad (.inr (by show l.length < at_ + n; omega))]; rfl
    have d1 : decide ((l.length : Int) - at_ < n) = true := decide_eq_true (by omega)
    go_enter Tryz.func40, Tryz.ntmps40
    go_wp2
    go_quiet (fail)
    go_wp2_with (go_at_call 54; refine (refFail1 p b cap ea 10 l at_ _ (H.out.drewN _) (by decide)).mono ?_; rintro e w1 ⟨rfl, h2, h3⟩; have H2 := Lib.hid (And.intro h2 h3); clear h2 h3)
    go_ret
    rw [HT.out]
    exact ⟨none, 0, rfl, World.ownsRow_nil _ _ _ _, ⟨_, _, _, _, H2.out.1⟩, ((Chg.refl (fun j => j = p) w).drewN nq).trans H2.out.2⟩
theorem refRaw (p n m : Nat) (l t : List UInt8) (s s' : RSt) (w : World) (h : RRd w p l s) (hu : tkS n l s = (t, s')) (ht : t.length = m) (hn : n ≤ 140737488355000) (hmx : l.length ≤ 140737488355328) :
    Calls Tryz.prog 40 #[.pointer (some ⟨p, 0, none⟩), .int .i64 n] w fun e w' => ∃ b c, e = .returned (.slice b m c) ∧ w'.ownsRow w.heap.size 5 1 (.slice b m c) m (bv t) ∧ SAft p l s' w w' := by
  obtain ⟨b, cap, er, ea, h⟩ := h
  have := refRawX p n b cap er ea l s w h hn hmx
  rw [hu] at this
  simp only at this
  rw [ht] at this
  exact this
theorem refRestD (p L a : Nat) (l : List UInt8) (s : RSt) (w : World) (h : RRd w p l s) (hL : l.length = L) (ha : s.at_ = a) (hmx : L ≤ 140737488355328) :
    Calls Tryz.prog 41 #[.pointer (some ⟨p, 0, none⟩)] w fun e w' => e = .returned (.int .i64 ((L : Int) - a)) ∧ ∃ n, w' = w.drewN n := by
  subst hL; subst ha
  obtain ⟨b, cap, er, ea, h⟩ := h
  exact refRest p b cap er ea l s w h hmx
theorem refUvD (p u : Nat) (l : List UInt8) (s s' : RSt) (w : World) (h : RRd w p l s) (hu : uvS l s = (u, s')) (hmx : l.length ≤ 140737488355328) :
    Calls Tryz.prog 38 #[.pointer (some ⟨p, 0, none⟩)] w fun e w' => e = .returned (.int .u64 u) ∧ SAft p l s' w w' := by
  have := refUv p l s w h hmx
  rw [hu] at this
  exact this
theorem byS_tk (l : List UInt8) (s : RSt) (h : s.at_ ≤ l.length) : byS l s = ((hd0 (tkS 1 l s).1).toNat, (tkS 1 l s).2) := by
  obtain ⟨a, fl⟩ := s
  cases fl with
  | true => rw [tkS_bad (.inl rfl)]; rfl
  | false =>
    simp only at h
    by_cases h1 : a + 1 ≤ l.length
    · rw [tkS_ok rfl h1]
      unfold byS
      simp only [Bool.false_eq_true, if_false]
      rw [drop_next (show a < l.length by omega)]
      rfl
    rw [tkS_bad (.inr (by show l.length < a + 1; omega))]
    unfold byS
    simp only [Bool.false_eq_true, if_false]
    rw [List.drop_eq_nil_of_le (by omega)]
    rfl
theorem octByteD (p u : Nat) (l : List UInt8) (s s' : RSt) (w : World) (h : ORd w p l s) (hu : byS l s = (u, s')) (hmx : l.length ≤ 140737488355328) :
    Calls Tryz.prog 25 #[.pointer (some ⟨p, 0, none⟩)] w fun e w' => e = .returned (.int .u8 u) ∧ RAft p l s' w w' := by
  have := octByte p l s w h hmx
  rw [byS_tk l s h.le] at hu
  cases hu
  exact this
set_option maxRecDepth 100000 in
set_option maxHeartbeats 1000000 in
theorem readFixed1 (A : Option Addr) (n c : Nat) (t : List UInt8) (w : World) (hA : Rd w w.heap.size A (bv t)) (hn : t.length = n) (h1 : n ≤ 1) :
    Calls Tryz.prog 52 #[.slice A n c] w fun e w' => e = .returned (.int .u64 (hd0 t).toNat) ∧ w = w' := by
  go_enter Tryz.func52, Tryz.ntmps52
  go_wp2
  go_loop [3, 4] (fun v i => ∃ k : Nat, k ≤ n ∧ i = .int .i64 k ∧ v = .int .u64 (hd0 (t.take k)).toNat) (fun _ i => 1 - (intOf i).toNat)
  case atStart => exact ⟨0, Nat.zero_le _, rfl, rfl⟩
  case round =>
    obtain ⟨k, hk, rfl, rfl⟩ := hrel
    by_cases hlt : k < n
    · obtain rfl : k = 0 := by omega
      cases t with
      | nil => simp at hn; omega
      | cons y r =>
        obtain rfl : r = [] := List.eq_nil_of_length_eq_zero (by simp at hn; omega)
        obtain ⟨ad, rfl, had, p0⟩ := hA 0 (.int .u8 y.toNat) (by simp [bv])
        have hy := y.toNat_lt
        have p0' : w.cell? ad = some (.int .u8 y.toNat) := by simpa [Addr.add] using p0
        have e0 : (hd0 (([y] : List UInt8).take 0)).toNat = 0 := rfl
        rw [e0]
        have HT : Hid ((hd0 (([y] : List UInt8).take 1)).toNat = y.toNat) := rfl
        generalize y.toNat = z at *
        go_wp2
        go_round
        case rel => exact ⟨1, by omega, by go_num, by rw [HT.out] <;> go_num⟩
        case measure => simp [intOf]
    have HT : Hid (t.take k = t) := List.take_of_length_le (by omega)
    go_wp2
    go_ret
    rw [HT.out]
    exact ⟨rfl, rfl⟩
set_option maxRecDepth 100000 in
set_option maxHeartbeats 1000000 in
theorem refByteD (p u : Nat) (l : List UInt8) (s s' : RSt) (w : World) (h : RRd w p l s) (hu : byS l s = (u, s')) (hmx : l.length ≤ 140737488355328) :
    Calls Tryz.prog 37 #[.pointer (some ⟨p, 0, none⟩)] w fun e w' => e = .returned (.int .u8 u) ∧ SAft p l s' w w' := by
  rw [byS_tk l s h.le] at hu
  have hln := tkS_len (n := 1) (l := l) (s := s)
  cases hr : tkS 1 l s with
  | mk t st =>
    rw [hr] at hu hln
    cases hu
    obtain ⟨m, hm⟩ : ∃ m, t.length = m := ⟨_, rfl⟩
    simp only at hln ⊢
    rw [hm] at hln
    have Hm := Lib.hid hm
    have HR := Lib.hid hr
    have H := Lib.hid h
    have hu8 := (hd0 t).toNat_lt
    clear hr hm h
    go_enter Tryz.func37, Tryz.ntmps37
    go_wp2_with (first
      | (go_at_call 40; refine (refRaw p 1 m l t s st _ H.out HR.out Hm.out (by omega) hmx).mono ?_; rintro e w1 ⟨b1, c1, rfl, h1, h2⟩; have H1 := Lib.hid (And.intro h1 h2); clear h1 h2)
      | (go_at_call 52; refine (readFixed1 b1 m c1 t _ (ownsRow_rd H1.out.1) Hm.out hln).mono ?_; rintro e w2 ⟨rfl, rfl⟩))
    go_ret
    exact ⟨rfl, H1.out.2⟩
end Go.Proofs.YtmhlgbpgdhhfnaaGreat
