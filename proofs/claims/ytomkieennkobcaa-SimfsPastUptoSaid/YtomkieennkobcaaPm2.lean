import Derived.Test.YtomkieennkobcaaPm1
import Derived.Test.YtomkieennkobcaaSm21
/- SimfsPast: note: what is written down of a SyncDir. -/
namespace Go.Proofs.Ytomkieennkobcaa
open Go.RowKit Go.Maps

/-- All that is written down. -/
def PS (w : World) (L : Nat → Nat) (pp : Nat) (fs : VS) (gs : GS) (ds : List (List KE)) : Prop := ∃ vF uF vG uG vD uD, PsM w L pp vF uF vG uG vD uD fs gs ds
/-- What note leaves. -/
def Noted (w w' : World) (L : Nat → Nat) (pp : Nat) (fs : VS) (gs : GS) (ds : List (List KE)) : Prop := ∃ L', PS w' L' pp fs gs ds ∧ Ex w w' L L'
theorem add_zero_ (g i : Nat) : (⟨g, 0, none⟩ : Addr).add i = ⟨g, i, none⟩ := by unfold Addr.add; split <;> simp_all
theorem cell_al {w : World} {p : Addr} {v : Value} (h : w.cell? p = some v) (o : Obj) : (w.alloc o).cell? p = some v := by
  rw [World.cell?_alloc_lt _ _ _ (World.block_lt_of_cell? w _ h)]
  exact h
theorem own_one (w : World) (t : TypeId) (u : Value) : (w.alloc (.cells #[u] t)).ownsRow w.heap.size t 1 (.slice (some ⟨w.heap.size, 0, none⟩) 1 1) 1 [u] :=
  ⟨rfl, .inr ⟨w.heap.size, 1, #[u], rfl, Nat.le_refl _, heap_alloc_new w _, Nat.le_refl _, by decide, rfl, rfl⟩⟩
theorem row_zero {w : World} {B n z : Nat} {e : TypeId} {v : Value} {xs : List Value} (h : w.ownsRow B e z v n xs) : w.ownsRow 0 e z v n xs := by
  refine ⟨h.1, ?_⟩
  rcases h.2 with h2 | ⟨g, cap, cur, h1, _, h3⟩
  · exact .inl h2
  · exact .inr ⟨g, cap, cur, h1, Nat.zero_le _, h3⟩
theorem where_new {w w1 : World} {L : Nat → Nat} {B n z a : Nat} {e : TypeId} {v : Value} {xs : List Value} (h : w1.ownsRow B e z v n xs) (hB : w.heap.size ≤ B) : Where w L v a := fun b hb => .inr (Nat.le_trans hB (h.lt b hb).1)
section
variable {w w' : World} {L : Nat → Nat} {pp n : Nat} {vF vG vD : Value} {uF uG uD : List Value} {fs : VS} {gs : GS} {ds : List (List KE)} {l : List KE}
/-- The directory's row of now. -/
theorem PsM.last_ (h : PsM w L pp vF uF vG uG vD uD fs gs ds) (hl : ds[ds.length - 1]? = some l) :
    ∃ (i n g c : Nat) (u : Value) (x : Option Addr) (cx : Nat), ds.length = n ∧ n = i + 1 ∧ vD = .slice (some ⟨g, 0, none⟩) n c ∧ L g = 4 ∧ uD[i]? = some u ∧ u = .slice x l.length cx ∧ NmM w L u l ∧ w.cell? ⟨pp, 2, none⟩ = some vD ∧ w.cell? ⟨g, i, none⟩ = some u := by
  have hlt : ds.length - 1 < ds.length := (List.getElem?_eq_some_iff.1 hl).1
  obtain ⟨i, hi⟩ : ∃ i, ds.length = i + 1 := ⟨ds.length - 1, by omega⟩
  rw [hi, Nat.add_sub_cancel] at hl
  have hr := h.D.r
  obtain ⟨g, c, hv, _, _, ho⟩ := Own.of_row hr (by omega)
  have hul : uD.length = i + 1 := by rw [← hi]; have := hr.1; simpa using this
  obtain ⟨u, hu⟩ : ∃ u, uD[i]? = some u := ⟨_, List.getElem?_eq_getElem (by omega)⟩
  have hN := h.D.f i l u hl hu
  obtain ⟨x, cx, hx⟩ := row_slice hN.1
  refine ⟨i, _, g, c, u, x, cx, rfl, hi, hv, h.D.l g (by rw [hv]; rfl), hu, hx, hN, h.box.cell 2, ?_⟩
  obtain ⟨ad, e, _, hc⟩ := ho.rd (B' := w.heap.size) ho.lt (fun _ _ h => h) i u hu
  injection e with e
  subst e
  rw [add_zero_] at hc
  exact hc
end
set_option maxRecDepth 100000 in
set_option maxHeartbeats 8000000 in
theorem note5_any (pp : Nat) (L : Nat → Nat) (vF vG vD : Value) (uF uG uD : List Value) (fs : VS) (gs : GS) (ds : List (List KE)) (l : List KE) (nm nt : ByteArray) (x y : Int) (A A2 : Option Addr) (nb c np c2 : Nat) (w : World) (h : PsM w L pp vF uF vG uG vD uD fs gs ds) (hl : ds[ds.length - 1]? = some l) (hmx : ds.length ≤ 999999999999) :
    Calls Try.prog 28 #[.pointer (some ⟨pp, 0, none⟩), .agg #[.int .i64 5, .string nm, .string nt, .int .i64 x, .int .i64 y, .slice A nb c, .slice A2 np c2]] w fun e w' => e = .returned (.bool true) ∧ Noted w w' L pp fs gs [l] := by
  have HX := Lib.hid (Box.new w 44 #[.int .i64 5, .string nm, .string nt, .int .i64 x, .int .i64 y, .slice A nb c, .slice A2 np c2])
  have HB := Lib.hid (Below.al w (.cells #[.int .i64 5, .string nm, .string nt, .int .i64 x, .int .i64 y, .slice A nb c, .slice A2 np c2] 44))
  have H := Lib.hid (h.next (Below.al w (.cells #[.int .i64 5, .string nm, .string nt, .int .i64 x, .int .i64 y, .slice A nb c, .slice A2 np c2] 44)))
  clear h
  go_enter Try.func28, Try.ntmps28
  go_upto_region 12 with fail
  obtain ⟨wy, hwy⟩ : ∃ wy, w.alloc (.cells #[.int .i64 5, .string nm, .string nt, .int .i64 x, .int .i64 y, .slice A nb c, .slice A2 np c2] 44) = wy := ⟨_, rfl⟩
  have HX1 := Lib.hid HX.out
  have HB1 := Lib.hid HB.out
  have H1 := Lib.hid H.out
  rw [hwy] at HX1 HB1 H1 ⊢
  clear HX HB H hwy
  obtain ⟨i, n, g, cD, u, ax, cx, hn, hi, rfl, hLg, hu, rfl, hN, hc2, hcu⟩ := H1.out.last_ hl
  rw [hn] at hmx
  have HD := Lib.hid (And.intro (And.intro hn hi) (And.intro hLg (And.intro hu hN)))
  have hii : (n : Int) - 1 = (i : Int) := by omega
  have hi0 : (0 : Int) ≤ i := by omega
  have hi1 : (i : Int) < n := by omega
  have him : (i : Int) ≤ 999999999999 := by omega
  have hwr : IntKind.i64.wrap ((n : Int) - 1) = (i : Int) := by rw [hii]; exact IntWalk.i64_in _ (by omega)
  have hwi : IntKind.i64.wrap (i : Int) = (i : Int) := IntWalk.i64_in _ (by omega)
  clear hLg hu hN hi hn
  obtain ⟨wz, hwz⟩ : ∃ wz, wy.drew = wz := ⟨_, rfl⟩
  have hbz : Below wy.heap.size wy wz := by rw [← hwz]; exact below_drew (Below.refl _ _)
  have hP : PsM wz L pp vF uF vG uG (.slice (some ⟨g, 0, none⟩) n cD) uD fs gs ds := H1.out.next hbz
  have hcz : wz.cell? ⟨pp, 2, none⟩ = some (.slice (some ⟨g, 0, none⟩) n cD) := by rw [← hwz]; exact hc2
  have hcv : wz.cell? ⟨g, i, none⟩ = some (.slice ax l.length cx) := by rw [← hwz]; exact hcu
  have HZ := Lib.hid (And.intro hbz (And.intro hP (show (wz.alloc (.cells #[.slice ax l.length cx] 108)).cell? ⟨pp, 2, none⟩ = some (.slice (some ⟨g, 0, none⟩) n cD) ∧ (wz.alloc (.cells #[.slice ax l.length cx] 108)).cell? ⟨g, i, none⟩ = some (.slice ax l.length cx) from ⟨cell_al hcz _, cell_al hcv _⟩)))
  have hfz := (hP.box.alloc (.cells #[.slice ax l.length cx] 108)).free 2
  have hS0 : wz.cell? ⟨pp, 2, none⟩ = some (.slice (some ⟨g, 0, none⟩) n cD) ∧ wz.cell? ⟨g, i, none⟩ = some (.slice ax l.length cx) := ⟨hcz, hcv⟩
  clear hc2 hcu hcz hcv hbz hP
  have hS0' : wy.drew.cell? ⟨pp, 2, none⟩ = some (.slice (some ⟨g, 0, none⟩) n cD) ∧ wy.drew.cell? ⟨g, i, none⟩ = some (.slice ax l.length cx) := by rw [hwz]; exact hS0
  clear hS0'
  refine WT.start (fun w' : World => w'.cell? ⟨pp, 2, none⟩ = some (.slice (some ⟨g, 0, none⟩) n cD) ∧ w'.cell? ⟨g, i, none⟩ = some (.slice ax l.length cx)) 16 (by kernel_rfl) ?_
  rw [hwz]
  clear hwz
  refine WT.take 0 (v := ?_) rfl (by kernel_rfl) (by kernel_rfl) (by kernel_rfl) (by kernel_rfl) (fun _ _ _ h => h) (Or.inl ⟨by rfl, ?hy⟩) hS0 ?_
  case hy => first | (intro w hSw; go_simp; done) | (intro w hSw; go_simp; with_reducible rfl)
  simp only [Act.put, List.setIfInBounds_toArray, List.set_cons_zero, List.set_cons_succ]
  refine WT.take 1 (v := ?_) rfl (by kernel_rfl) (by kernel_rfl) (by kernel_rfl) (by kernel_rfl) (fun _ _ _ h => h) (Or.inl ⟨by rfl, ?hy⟩) hS0 ?_
  case hy => first | (intro w hSw; go_simp; done) | (intro w hSw; go_simp; with_reducible rfl)
  simp only [Act.put, List.setIfInBounds_toArray, List.set_cons_zero, List.set_cons_succ]
  refine WT.take 2 (v := ?_) rfl (by kernel_rfl) (by kernel_rfl) (by kernel_rfl) (by kernel_rfl) (fun _ _ _ h => h) (Or.inl ⟨by rfl, ?hy⟩) hS0 ?_
  case hy => first | (intro w hSw; go_simp; done) | (intro w hSw; go_simp; with_reducible rfl)
  simp only [Act.put, List.setIfInBounds_toArray, List.set_cons_zero, List.set_cons_succ]
  refine WT.take 3 (v := ?_) rfl (by kernel_rfl) (by kernel_rfl) (by kernel_rfl) (by kernel_rfl) (fun _ _ _ h => h) (Or.inl ⟨by rfl, ?hy⟩) hS0 ?_
  case hy => first | (intro w hSw; go_simp; done) | (intro w hSw; go_simp; with_reducible rfl)
  simp only [Act.put, List.setIfInBounds_toArray, List.set_cons_zero, List.set_cons_succ]
  refine WT.take 4 (v := ?_) rfl (by kernel_rfl) (by kernel_rfl) (by kernel_rfl) (by kernel_rfl) (fun _ _ _ h => h) (Or.inl ⟨by rfl, ?hy⟩) hS0 ?_
  case hy => first | (intro w hSw; go_simp; done) | (intro w hSw; go_simp; with_reducible rfl)
  simp only [Act.put, List.setIfInBounds_toArray, List.set_cons_zero, List.set_cons_succ]
  refine WT.take 5 (v := ?_) rfl (by kernel_rfl) (by kernel_rfl) (by kernel_rfl) (by kernel_rfl) (fun _ _ _ h => h) (Or.inl ⟨by rfl, ?hy⟩) hS0 ?_
  case hy => first | (intro w hSw; go_simp; done) | (intro w hSw; go_simp; with_reducible rfl)
  simp only [Act.put, List.setIfInBounds_toArray, List.set_cons_zero, List.set_cons_succ]
  refine WT.take 6 (v := ?_) rfl (by kernel_rfl) (by kernel_rfl) (by kernel_rfl) (by kernel_rfl) (fun _ _ _ h => h) (Or.inl ⟨by rfl, ?hy⟩) hS0 ?_
  case hy => first | (intro w hSw; go_simp; done) | (intro w hSw; go_simp; with_reducible rfl)
  simp only [Act.put, List.setIfInBounds_toArray, List.set_cons_zero, List.set_cons_succ]
  refine WT.take 7 (v := ?_) rfl (by kernel_rfl) (by kernel_rfl) (by kernel_rfl) (by kernel_rfl) (fun _ _ _ h => h) (Or.inl ⟨by rfl, ?hy⟩) hS0 ?_
  case hy => first | (intro w hSw; go_simp; done) | (intro w hSw; go_simp; with_reducible rfl)
  simp only [Act.put, List.setIfInBounds_toArray, List.set_cons_zero, List.set_cons_succ]
  refine WT.take 8 (v := ?_) rfl (by kernel_rfl) (by kernel_rfl) (by kernel_rfl) (by kernel_rfl) (fun _ _ _ h => h) (Or.inl ⟨by rfl, ?hy⟩) hS0 ?_
  case hy => first | (intro w hSw; go_simp; done) | (intro w hSw; go_simp; with_reducible rfl)
  simp only [Act.put, List.setIfInBounds_toArray, List.set_cons_zero, List.set_cons_succ]
  refine WT.take 9 (v := ?_) rfl (by kernel_rfl) (by kernel_rfl) (by kernel_rfl) (by kernel_rfl) (fun _ _ _ h => h) (Or.inl ⟨by rfl, ?hy⟩) hS0 ?_
  case hy => first | (intro w hSw; go_simp; done) | (intro w hSw; go_simp; with_reducible rfl)
  simp only [Act.put, List.setIfInBounds_toArray, List.set_cons_zero, List.set_cons_succ]
  refine WT.take 10 (v := ?_) rfl (by kernel_rfl) (by kernel_rfl) (by kernel_rfl) (by kernel_rfl) (fun _ _ _ h => h) (Or.inl ⟨by rfl, ?hy⟩) hS0 ?_
  case hy => first | (intro w hSw; go_simp; done) | (intro w hSw; go_simp; with_reducible rfl)
  simp only [Act.put, List.setIfInBounds_toArray, List.set_cons_zero, List.set_cons_succ]
  refine WT.take 11 (v := ?_) rfl (by kernel_rfl) (by kernel_rfl) (by kernel_rfl) (by kernel_rfl) (fun _ _ _ h => h) (Or.inl ⟨by rfl, ?hy⟩) hS0 ?_
  case hy => first | (intro w hSw; go_simp; done) | (intro w hSw; go_simp; with_reducible rfl)
  simp only [Act.put, List.setIfInBounds_toArray, List.set_cons_zero, List.set_cons_succ]
  refine WT.take 12 (v := ?_) rfl (by kernel_rfl) (by kernel_rfl) (by kernel_rfl) (by kernel_rfl) (fun _ _ _ h => h) (Or.inl ⟨by rfl, ?hy⟩) hS0 ?_
  case hy => first | (intro w hSw; go_simp; done) | (intro w hSw; go_simp; with_reducible rfl)
  simp only [Act.put, List.setIfInBounds_toArray, List.set_cons_zero, List.set_cons_succ]
  refine WT.step 13 rfl (by kernel_rfl) (by decide) fun K hK => ?_
  go_simp
  have hS1 := HZ.out.2.2
  clear hS0
  refine hK.out _ _ hS1 ?_
  clear hK K
  refine WT.step 14 rfl (by kernel_rfl) (by decide) fun K hK => ?_
  go_simp
  refine hK.out _ _ hS1 ?_
  clear hK K
  refine WT.take 15 (v := ?_) rfl (by kernel_rfl) (by kernel_rfl) (by kernel_rfl) (by kernel_rfl) (fun _ _ _ h => h) (Or.inl ⟨by rfl, ?hy⟩) hS1 ?_
  case hy => first | (intro w hSw; go_simp; done) | (intro w hSw; go_simp; with_reducible rfl)
  simp only [Act.put, List.setIfInBounds_toArray, List.set_cons_zero, List.set_cons_succ]
  refine WT.last 16 rfl (by kernel_rfl) rfl fun K hK => ?_
  go_simp
  refine hK.out _ _ ?_
  clear hK K
  refine WT.done (by kernel_rfl) ?_
  have hR := own_one wz 108 (.slice ax l.length cx)
  obtain ⟨t1, t2⟩ := HZ.out.2.1.turnD (ds' := [l]) (Chg.of_below (Below.al wz (.cells #[.slice ax l.length cx] 108)) _) (row_zero hR) (where_new hR (Nat.le_refl _)) (fun j l' u' hj hu' => by
    cases j with
    | zero =>
      simp at hj hu'
      subst hj hu'
      exact (show NmM wz L _ l from ⟨row_same HD.out.2.2.2.1 HD.out.2.2.2.2 (fun b hb => HZ.out.1.block b (H1.out.lt b (by rw [hb]; decide))), HD.out.2.2.2.2⟩)
    | succ j => simp at hj)
  have HF := Lib.hid (show Noted w ((wz.alloc (.cells #[.slice ax l.length cx] 108)).setCell ⟨pp, 2, none⟩ (.slice (some ⟨wz.heap.size, 0, none⟩) 1 1)) L pp fs gs [l] from ⟨_, ⟨_, _, _, _, _, _, t1⟩, ((Ex.below HB1.out L).trans (Ex.below HZ.out.1 L)).trans t2⟩)
  clear hR t1 t2
  go_wp2
  go_ret
  exact ⟨rfl, HF.out⟩
end Go.Proofs.Ytomkieennkobcaa
/- SimfsPast: what note reads. -/
namespace Go.Proofs.Ytomkieennkobcaa
open Go.RowKit Go.Maps

theorem cell_kept {w w' : World} {p : Addr} {v : Value} (h : w.cell? p = some v) (hb : Below w.heap.size w w') : w'.cell? p = some v := (hb.cell (World.block_lt_of_cell? w _ h)).trans h
/-- Versions of a file, their headers named. -/
structure VerU (w : World) (L : Nat → Nat) (a : Nat) (u : Value) (vs : List (List UInt8)) (us : List Value) : Prop where
  r : w.ownsRow 0 22 1 u vs.length us
  l : Lb L u a
  x : ∀ (j : Nat) (x : List UInt8) (v : Value), vs[j]? = some x → us[j]? = some v → w.ownsRow 0 5 1 v x.length (bv x) ∧ Lb L v 5
section
variable {w w' w1 : World} {L L' : Nat → Nat} {pp n a f : Nat} {u vF vG vD : Value} {us uF uG uD : List Value} {vs : List (List UInt8)} {fs : VS} {gs : GS} {ds : List (List KE)} {l : List KE}
theorem VerU.keep (h : VerU w L a u vs us) (ha : a ≠ 0) (hb : Below w.heap.size w w') (ho : ∀ b, L b ≠ 0 → L' b = L b) : VerU w' L' a u vs us :=
  ⟨row_block h.r fun k hk => hb.block k (h.r.lt k hk).2, h.l.old ha ho, fun j x v hx hv => ⟨row_block (h.x j x v hx hv).1 fun k hk => hb.block k ((h.x j x v hx hv).1.lt k hk).2, (h.x j x v hx hv).2.old (by decide) ho⟩⟩
theorem ncell_get : ∀ (l : List KE) (i : Nat) (p : KE), l[i]? = some p → (l.flatMap ncell)[i * 2]? = some (.string p.1) ∧ (l.flatMap ncell)[i * 2 + 1]? = some (.int .i64 (p.2 : Nat))
  | [], i, p, h => by simp at h
  | q :: r, 0, p, h => by
    simp at h
    subst h
    exact ⟨rfl, rfl⟩
  | q :: r, i + 1, p, h => by
    obtain ⟨h1, h2⟩ := ncell_get r i p (by simpa using h)
    rw [List.flatMap_cons, show (i + 1) * 2 = (ncell q).length + i * 2 by show _ = 2 + i * 2; omega]
    refine ⟨?_, ?_⟩
    · rw [List.getElem?_append_right (by omega), Nat.add_sub_cancel_left]; exact h1
    · rw [show (ncell q).length + i * 2 + 1 = (ncell q).length + (i * 2 + 1) by omega, List.getElem?_append_right (by omega), Nat.add_sub_cancel_left]; exact h2
theorem rd_own {e : TypeId} {z B : Nat} {b : Option Addr} {c : Nat} {xs : List Value} (h : w.ownsRow B e z (.slice b n c) n xs) : Rd w w.heap.size b xs := row_rd h
theorem NmM.rd {b : Option Addr} {c : Nat} (h : NmM w L (.slice b l.length c) l) : RdN w w.heap.size b l := by
  intro i p hp
  obtain ⟨h1, h2⟩ := ncell_get l i p hp
  obtain ⟨ad, rfl, hb, c1⟩ := row_rd h.1 _ _ h1
  obtain ⟨ad', e, _, c2⟩ := row_rd h.1 _ _ h2
  cases e
  rw [← add_add'] at c2
  refine ⟨ad, rfl, hb, c1, ?_⟩
  exact c2
theorem PsM.rdD (h : PsM w L pp vF uF vG uG vD uD fs gs ds) : ∃ D c, vD = .slice D ds.length c ∧ w.cell? ⟨pp, 2, none⟩ = some vD ∧ RdD w w.heap.size D ds := by
  obtain ⟨D, c, hv⟩ := row_slice h.D.r
  refine ⟨D, c, hv, h.box.cell 2, fun i l hl => ?_⟩
  have hr := h.D.r
  rw [hv] at hr
  have hul : uD.length = ds.length := by have := hr.1; simpa using this
  have hil := (List.getElem?_eq_some_iff.1 hl).1
  obtain ⟨u, hu⟩ : ∃ u, uD[i]? = some u := ⟨_, List.getElem?_eq_getElem (by omega)⟩
  obtain ⟨ad, rfl, hb, hc⟩ := row_rd hr i u hu
  have hN := h.D.f i l u hl hu
  obtain ⟨x, cx, rfl⟩ := row_slice hN.1
  exact ⟨ad, x, cx, rfl, hb, hc, hN.rd⟩
theorem leadV_some {nm : ByteArray} (h : leadP nm l = some f) : leadV nm l = (f : Nat) := by
  unfold leadV
  rw [h]
theorem leadV_none {nm : ByteArray} (h : leadP nm l = none) : leadV nm l = -1 := by
  unfold leadV
  rw [h]
/-- A row's cell. -/
theorem row_at {e : TypeId} {i : Nat} {g c : Nat} {xs : List Value} (h : w.ownsRow 0 e 1 (.slice (some ⟨g, 0, none⟩) n c) n xs) (hu : xs[i]? = some u) : w.cell? ⟨g, i, none⟩ = some u ∧ w.frozen? ⟨g, i, none⟩ = false := by
  have hn : 0 < n := by have h1 := (List.getElem?_eq_some_iff.1 hu).1; have h2 := h.1; omega
  obtain ⟨g', c', e', _, _, ho⟩ := Own.of_row h hn
  injection e' with e1 _ e2
  injection e1 with e1
  injection e1 with e1
  subst e1 e2
  obtain ⟨hi, rfl⟩ := List.getElem?_eq_some_iff.1 hu
  exact ⟨ho.cell hi, ho.free i⟩
/-- The file's row and its bytes of now. -/
theorem PsM.now_ {now : List UInt8} (h : PsM w L pp vF uF vG uG vD uD fs gs ds) (hv : fs[f]? = some vs) (hn : vs[vs.length - 1]? = some now) :
    ∃ (gF nF cF gu m j cu : Nat) (us : List Value) (xn : Option Addr) (cn : Nat), vF = .slice (some ⟨gF, 0, none⟩) nF cF ∧ fs.length = nF ∧ f < nF ∧ L gF = 2 ∧ uF[f]? = some (.slice (some ⟨gu, 0, none⟩) m cu) ∧ vs.length = m ∧ m = j + 1 ∧ VerU w L (8 + 2 * f) (.slice (some ⟨gu, 0, none⟩) m cu) vs us ∧ us[j]? = some (.slice xn now.length cn) ∧
      w.cell? ⟨pp, 0, none⟩ = some (.slice (some ⟨gF, 0, none⟩) nF cF) ∧ w.cell? ⟨gF, f, none⟩ = some (.slice (some ⟨gu, 0, none⟩) m cu) ∧ w.cell? ⟨gu, j, none⟩ = some (.slice xn now.length cn) ∧ w.ownsRow 0 5 1 (.slice xn now.length cn) now.length (bv now) ∧ Lb L (.slice xn now.length cn) 5 ∧ w.frozen? ⟨gF, f, none⟩ = false := by
  have hfl := (List.getElem?_eq_some_iff.1 hv).1
  obtain ⟨gF, cF, rfl, _, _, hoF⟩ := Own.of_row h.F.r (by omega)
  have hul : uF.length = fs.length := by have := h.F.r.1; simpa using this
  obtain ⟨u, hu⟩ : ∃ u, uF[f]? = some u := ⟨_, List.getElem?_eq_getElem (by omega)⟩
  obtain ⟨us, r1, r2, r3⟩ := h.F.f f vs u hv hu
  have hvl := (List.getElem?_eq_some_iff.1 hn).1
  obtain ⟨gu, cu, rfl, _, _, hou⟩ := Own.of_row r1 (by omega)
  obtain ⟨j, hj⟩ : ∃ j, vs.length = j + 1 := ⟨vs.length - 1, by omega⟩
  rw [hj, Nat.add_sub_cancel] at hn
  have hsl : us.length = vs.length := by have := r1.1; simpa using this
  obtain ⟨x, hx⟩ : ∃ x, us[j]? = some x := ⟨_, List.getElem?_eq_getElem (by omega)⟩
  obtain ⟨q1, q2⟩ := r3 j now x hn hx
  obtain ⟨xn, cn, rfl⟩ := row_slice q1
  exact ⟨gF, _, cF, gu, _, j, cu, us, xn, cn, rfl, rfl, hfl, h.F.l gF rfl, hu, rfl, hj, ⟨r1, r2, r3⟩, hx, h.box.cell 0, (row_at h.F.r hu).1, (row_at r1 hx).1, q1, q2, (row_at h.F.r hu).2⟩
/-- The file's row of growths. -/
theorem PsM.grow_ {gv : List Int} (h : PsM w L pp vF uF vG uG vD uD fs gs ds) (hv : gs[f]? = some gv) :
    ∃ (gG nG cG : Nat) (u : Value), vG = .slice (some ⟨gG, 0, none⟩) nG cG ∧ gs.length = nG ∧ f < nG ∧ L gG = 3 ∧ uG[f]? = some u ∧ GrM w L (9 + 2 * f) u gv ∧
      w.cell? ⟨pp, 1, none⟩ = some (.slice (some ⟨gG, 0, none⟩) nG cG) ∧ w.cell? ⟨gG, f, none⟩ = some u ∧ w.frozen? ⟨gG, f, none⟩ = false := by
  have hfl := (List.getElem?_eq_some_iff.1 hv).1
  obtain ⟨gG, cG, rfl, _, _, hoG⟩ := Own.of_row h.G.r (by omega)
  have hul : uG.length = gs.length := by have := h.G.r.1; simpa using this
  obtain ⟨u, hu⟩ : ∃ u, uG[f]? = some u := ⟨_, List.getElem?_eq_getElem (by omega)⟩
  exact ⟨gG, _, cG, u, rfl, rfl, hfl, h.G.l gG rfl, hu, h.G.f f gv u hv hu, h.box.cell 1, (row_at h.G.r hu).1, (row_at h.G.r hu).2⟩
/-- A file's row is made anew. -/
theorem PsM.newF {gF nF cF : Nat} {x : Value} {y : List UInt8} (h : PsM w L pp (.slice (some ⟨gF, 0, none⟩) nF cF) uF vG uG vD uD fs gs ds) (hv : fs[f]? = some vs) (hu : uF[f]? = some u) (hr : w.ownsRow 0 5 1 x y.length (bv y)) (hx : Lb L x 5) :
    PsM ((w.alloc (.cells #[x] 22)).setCell ⟨gF, f, none⟩ (.slice (some ⟨w.heap.size, 0, none⟩) 1 1)) (relab L (.slice (some ⟨w.heap.size, 0, none⟩) 1 1) (8 + 2 * f)) pp (.slice (some ⟨gF, 0, none⟩) nF cF) (uF.set f (.slice (some ⟨w.heap.size, 0, none⟩) 1 1)) vG uG vD uD (fs.set f [y]) gs ds ∧
      Ex w ((w.alloc (.cells #[x] 22)).setCell ⟨gF, f, none⟩ (.slice (some ⟨w.heap.size, 0, none⟩) 1 1)) L (relab L (.slice (some ⟨w.heap.size, 0, none⟩) 1 1) (8 + 2 * f)) :=
  have hR := own_one w 22 x
  h.putF hv hu (Chg.of_below (Below.al w _) _) (us := [x]) (row_zero hR) (where_new hR (Nat.le_refl _)) fun j z v hz hv2 => by
    cases j with
    | zero =>
      simp at hz hv2
      subst hz hv2
      exact ⟨hr, hx⟩
    | succ j => simp at hz
theorem PsM.newG {gG nG cG : Nat} {gi : List Int} {y : Int} (h : PsM w L pp vF uF (.slice (some ⟨gG, 0, none⟩) nG cG) uG vD uD fs gs ds) (hv : gs[f]? = some gi) (hu : uG[f]? = some u) :
    PsM ((w.alloc (.cells #[.int .i64 y] 3)).setCell ⟨gG, f, none⟩ (.slice (some ⟨w.heap.size, 0, none⟩) 1 1)) (relab L (.slice (some ⟨w.heap.size, 0, none⟩) 1 1) (9 + 2 * f)) pp vF uF (.slice (some ⟨gG, 0, none⟩) nG cG) (uG.set f (.slice (some ⟨w.heap.size, 0, none⟩) 1 1)) vD uD fs (gs.set f [y]) ds ∧
      Ex w ((w.alloc (.cells #[.int .i64 y] 3)).setCell ⟨gG, f, none⟩ (.slice (some ⟨w.heap.size, 0, none⟩) 1 1)) L (relab L (.slice (some ⟨w.heap.size, 0, none⟩) 1 1) (9 + 2 * f)) :=
  have hR := own_one w 3 (.int .i64 y)
  h.putG hv hu (Chg.of_below (Below.al w _) _) (gi' := [y]) (row_zero hR) (where_new hR (Nat.le_refl _))
end
end Go.Proofs.Ytomkieennkobcaa
/- SimfsPast: note: what is written down of a Sync. -/
namespace Go.Proofs.Ytomkieennkobcaa
open Go.RowKit Go.Maps

set_option maxRecDepth 100000 in
set_option maxHeartbeats 8000000 in
theorem note4_any (pp : Nat) (L : Nat → Nat) (vF vG vD : Value) (uF uG uD : List Value) (fs : VS) (gs : GS) (ds : List (List KE)) (l : List KE) (nm nt : ByteArray) (x y : Int) (A A2 : Option Addr) (nb c np c2 : Nat) (w : World) (h : PsM w L pp vF uF vG uG vD uD fs gs ds) (hl : ds[ds.length - 1]? = some l) (hmx : ds.length ≤ 999999999999) (hlm : l.length ≤ 999999999999) (f : Nat) (vs : List (List UInt8)) (now : List UInt8) (gv : List Int) (hld : leadP nm l = some f) (hv : fs[f]? = some vs) (hn : vs[vs.length - 1]? = some now) (hg : gs[f]? = some gv) (hfm : f ≤ 999999999999) (hvm : vs.length ≤ 999999999999) :
    Calls Try.prog 28 #[.pointer (some ⟨pp, 0, none⟩), .agg #[.int .i64 4, .string nm, .string nt, .int .i64 x, .int .i64 y, .slice A nb c, .slice A2 np c2]] w fun e w' => e = .returned (.bool true) ∧ Noted w w' L pp (fs.set f [now]) (gs.set f [-1]) ds := by
  have HX := Lib.hid (Box.new w 44 #[.int .i64 4, .string nm, .string nt, .int .i64 x, .int .i64 y, .slice A nb c, .slice A2 np c2])
  have HB := Lib.hid (Below.al w (.cells #[.int .i64 4, .string nm, .string nt, .int .i64 x, .int .i64 y, .slice A nb c, .slice A2 np c2] 44))
  have H := Lib.hid (h.next (Below.al w (.cells #[.int .i64 4, .string nm, .string nt, .int .i64 x, .int .i64 y, .slice A nb c, .slice A2 np c2] 44)))
  clear h
  go_enter Try.func28, Try.ntmps28
  go_upto_region 16 with (first
    | (go_at_call 58
       obtain ⟨D, cD, hvD, hcD, hrD⟩ := H.out.rdD
       rw [hvD] at hcD
       refine (lead_any pp D ds.length cD ds l nm _ hcD hrD hl (by have := (List.getElem?_eq_some_iff.1 hl).1; omega) hmx hlm).mono ?_
       rintro e wl ⟨rfl, kl, hwl⟩
       rw [show leadV nm l = ((f : Nat) : Int) from leadV_some hld]
       have hbl : Below (w.alloc (.cells #[.int .i64 4, .string nm, .string nt, .int .i64 x, .int .i64 y, .slice A nb c, .slice A2 np c2] 44)).heap.size (w.alloc (.cells #[.int .i64 4, .string nm, .string nt, .int .i64 x, .int .i64 y, .slice A nb c, .slice A2 np c2] 44)) wl := by rw [hwl]; exact below_drewN (Below.refl _ _) kl
       have hbw : Below w.heap.size w wl := HB.out.trans (hbl.mono (by simp))
       have HX2 := Lib.hid (show Box wl w.heap.size 44 #[.int .i64 4, .string nm, .string nt, .int .i64 x, .int .i64 y, .slice A nb c, .slice A2 np c2] from by rw [hwl]; exact HX.out)
       have H2 := Lib.hid (And.intro (H.out.next hbl) hbw)
       have hxc := HX2.out.cell
       clear hvD hcD hrD hwl hbl hbw))
  obtain ⟨gF, nF, cF, gu, m, j, cu, us, xn, cn, rfl, hnF, hfn, hLF, huf, hvm2, hmj, hVU, hus, hc0, hcf, hcj, hro, hlb, hfr⟩ := H2.out.1.now_ hv hn
  have HU := Lib.hid (And.intro hnF (And.intro hLF (And.intro huf (And.intro hvm2 (And.intro hmj (And.intro hVU (And.intro hus (And.intro hro hlb))))))))
  rw [hvm2] at hvm
  have hf0 : (0 : Int) ≤ f := by omega
  have hf1 : (f : Int) < nF := by omega
  have hii : (m : Int) - 1 = (j : Int) := by omega
  have hi0 : (0 : Int) ≤ j := by omega
  have hi1 : (j : Int) < m := by omega
  have hwr : IntKind.i64.wrap ((m : Int) - 1) = (j : Int) := by rw [hii]; exact IntWalk.i64_in _ (by omega)
  have hwi : IntKind.i64.wrap (j : Int) = (j : Int) := IntWalk.i64_in _ (by omega)
  clear hnF hLF huf hvm2 hmj hVU hus hro hlb
  go_quiet (fail)
  generalize hw2 : wl.drewN _ = w2
  have hb2 : Below wl.heap.size wl w2 := by rw [← hw2]; exact below_drewN (Below.refl _ _) _
  have HX3 := Lib.hid (HX2.out.next hb2)
  have H3 := Lib.hid (And.intro (H2.out.1.next hb2) (And.intro (H2.out.2.trans (hb2.mono H2.out.2.size)) (And.intro (HU.out.2.2.2.2.2.1.keep (by omega) hb2 (fun _ _ => rfl)) (And.intro (show w2.ownsRow 0 5 1 (.slice xn now.length cn) now.length (bv now) from row_block HU.out.2.2.2.2.2.2.2.1 fun k hk => hb2.block k (HU.out.2.2.2.2.2.2.2.1.lt k hk).2) (cell_kept hc0 hb2)))))
  have hd0 := cell_kept hc0 hb2
  have hdf := cell_kept hcf hb2
  have hdr : w2.frozen? ⟨gF, f, none⟩ = false := by rw [← hw2]; exact hfr
  have hxd := HX3.out.cell
  clear hc0 hcf hcj hfr hw2 hb2 hxc hii hwr hwi hi0 hi1
  go_upto_region 27 with fail
  have hda := cell_al hdf (.cells #[.slice xn now.length cn] 22)
  have hdb : (w2.alloc (.cells #[.slice xn now.length cn] 22)).frozen? ⟨gF, f, none⟩ = false := by
    have hr := H3.out.1.F.r
    rw [HU.out.1] at hr
    exact (row_at (row_block hr fun k hk => Below.heap_alloc w2 _ k (hr.lt k hk).2) HU.out.2.2.1).2
  have hF := H3.out.1.newF (u := .slice (some ⟨gu, 0, none⟩) m cu) (y := now) hv HU.out.2.2.1 H3.out.2.2.2.1 HU.out.2.2.2.2.2.2.2.2
  have HF := Lib.hid hF
  clear hF
  go_cut [4] (fun s4 wy => s4 = .bool false ∧ ∃ L' uF', PsM wy L' pp (.slice (some ⟨gF, 0, none⟩) nF cF) uF' vG uG vD uD (fs.set f [now]) gs ds ∧ Ex w2 wy L L')
  case first =>
    go_wp2_with fail
    go_meet
    case rel => exact ⟨rfl, _, _, HF.out.1, HF.out.2⟩
  case rest =>
    obtain ⟨rfl, L3, uF3, hP3, hE3⟩ := hcut
    clear hd0 hdf hdr hxd hda hdb
    obtain ⟨gG, nG, cG, ug, rfl, hnG, hfG, hLG, hug, hGr, hg1, hgf, hgz⟩ := hP3.grow_ hg
    have hga := cell_al hgf (.cells #[.int .i64 (-1)] 3)
    have hgb : (wc.alloc (.cells #[.int .i64 (-1)] 3)).frozen? ⟨gG, f, none⟩ = false := by
      have hr := hP3.G.r
      rw [hnG] at hr
      exact (row_at (row_block hr fun k hk => Below.heap_alloc wc _ k (hr.lt k hk).2) hug).2
    have hG := hP3.newG (y := -1) hg hug
    have hg2 : (f : Int) < nG := by omega
    have HG := Lib.hid (And.intro hE3 hG)
    clear hP3 hE3 hG hug hGr hgf hgz
    go_wp2
    go_ret
    exact ⟨rfl, _, ⟨_, _, _, _, _, _, HG.out.2.1⟩, ((Ex.below H3.out.2.1 L).trans HG.out.1).trans HG.out.2.2⟩
end Go.Proofs.Ytomkieennkobcaa
/- SimfsPast: rows that grow by one. -/
namespace Go.Proofs.Ytomkieennkobcaa
open Go.RowKit Go.Maps

theorem info_bs : (Try.prog.info? 22).map (fun i => (i.zero, i.size, i.bytes)) = some (some (.slice none 0 0), 1, 24) := by kernel_rfl
theorem info_int : (Try.prog.info? 3).map (fun i => (i.zero, i.size, i.bytes)) = some (some (.int .i64 0), 1, 8) := by kernel_rfl
theorem info_bss : (Try.prog.info? 110).map (fun i => (i.zero, i.size, i.bytes)) = some (some (.slice none 0 0), 1, 24) := by kernel_rfl
theorem info_ints : (Try.prog.info? 23).map (fun i => (i.zero, i.size, i.bytes)) = some (some (.slice none 0 0), 1, 24) := by kernel_rfl
theorem info_nms : (Try.prog.info? 108).map (fun i => (i.zero, i.size, i.bytes)) = some (some (.slice none 0 0), 1, 24) := by kernel_rfl
section
variable {w w' w1 wz w5 w6 w7 : World} {L L' : Nat → Nat} {pp n a f gF nF cF gG nG cG : Nat} {u v5 v7 vF vG vD : Value} {us uF uG uD : List Value} {vs : List (List UInt8)} {fs : VS} {gs : GS} {ds : List (List KE)} {l : List KE} {y : List UInt8}
/-- A cell of another block, behind an allocation and a growth. -/
theorem cell_grow {p : Addr} {v : Value} {row : Option Nat} (h : w.cell? p = some v) (hb : Below w.heap.size w w6) (hg : w6.grownBy w7 row) (hne : some p.block ≠ row) : w7.cell? p = some v := by
  have hl := World.block_lt_of_cell? w _ h
  rw [hg.cell_far p (Nat.lt_of_lt_of_le hl hb.size) hne]
  exact cell_kept h hb
theorem grow_free {e : TypeId} {i g c : Nat} {xs : List Value} {row : Option Nat} (h : w.ownsRow 0 e 1 (.slice (some ⟨g, 0, none⟩) n c) n xs) (hu : xs[i]? = some u) (hb : Below w.heap.size w w6) (hg : w6.grownBy w7 row) (hne : some g ≠ row) : w7.frozen? ⟨g, i, none⟩ = false :=
  (row_at (row_block (row_block h fun k hk => hb.block k (h.lt k hk).2) fun k hk => hg.block k (by have := (h.lt k hk).2; have := hb.size; omega) (by simp [Value.ownBlock] at hk; subst hk; exact hne)) hu).2
/-- A file's versions grow. -/
theorem PsM.growF (h : PsM wz L pp (.slice (some ⟨gF, 0, none⟩) nF cF) uF vG uG vD uD fs gs ds) (hv : fs[f]? = some vs) (hu : uF[f]? = some u) (hV : VerU wz L (8 + 2 * f) u vs us) (hb : Below wz.heap.size wz w5)
    (hr5 : w5.ownsRow wz.heap.size 5 1 v5 y.length (bv y)) (hr7 : w7.ownsRow 0 22 1 v7 (vs.length + 1) (us ++ [v5])) (hg : (w5.alloc (.cells #[v5] 22)).grownBy w7 u.ownBlock) (hor : v7.ownBlock = u.ownBlock ∨ v7.ownBlock = some (w5.alloc (.cells #[v5] 22)).heap.size) :
    ∃ L', PsM (w7.setCell ⟨gF, f, none⟩ v7) L' pp (.slice (some ⟨gF, 0, none⟩) nF cF) (uF.set f v7) vG uG vD uD (fs.set f (vs ++ [y])) gs ds ∧ Ex wz (w7.setCell ⟨gF, f, none⟩ v7) L L' := by
  obtain ⟨h5, hx5, e5⟩ := h.fresh (a := 5) hb (fun b hb => hr5.lt b hb) (by decide)
  have hw5 : Where wz L v5 5 := where_new hr5 (Nat.le_refl _)
  have ho := hw5.old h.lt
  have hV5 := hV.keep (L' := relab L v5 5) (by omega) hb ho
  have ha := Below.al w5 (.cells #[v5] 22)
  have h6 := h5.next ha
  have hV6 := hV5.keep (L' := relab L v5 5) (by omega) ha (fun _ _ => rfl)
  have hr6 : (w5.alloc (.cells #[v5] 22)).ownsRow 0 5 1 v5 y.length (bv y) := row_zero (hr5.alloc _)
  have hW : Where (w5.alloc (.cells #[v5] 22)) (relab L v5 5) v7 (8 + 2 * f) := fun b hb => by
    rcases hor with e | e
    · exact .inl (hV6.l b (e ▸ hb))
    · rw [e] at hb
      injection hb with hb
      exact .inr (by omega)
  obtain ⟨t1, t2⟩ := h6.putF (vs' := vs ++ [y]) (us := us ++ [v5]) hv hu ((Chg.refl _ _).grown hg fun k hk => .inl hk) (by rw [List.length_append]; exact hr7) hW fun j x v hj hv2 => by
    have hus : us.length = vs.length := by have := hV.r.1; simpa using this
    rcases Nat.lt_trichotomy j vs.length with hl | hl | hl
    · rw [List.getElem?_append_left hl] at hj
      rw [List.getElem?_append_left (by omega)] at hv2
      exact hV6.x j x v hj hv2
    · subst hl
      rw [List.getElem?_append_right (Nat.le_refl _), Nat.sub_self] at hj
      rw [List.getElem?_append_right (by omega), hus, Nat.sub_self] at hv2
      simp at hj hv2
      subst hj hv2
      exact ⟨hr6, hx5⟩
    · rw [List.getElem?_eq_none (by simp; omega)] at hj
      cases hj
  exact ⟨_, t1, (e5.trans (Ex.below ha _)).trans t2⟩
/-- A file's growths grow. -/
theorem PsM.growG {gi : List Int} {z : Int} (h : PsM wz L pp vF uF (.slice (some ⟨gG, 0, none⟩) nG cG) uG vD uD fs gs ds) (hv : gs[f]? = some gi) (hu : uG[f]? = some u) 
    (hr7 : w7.ownsRow 0 3 1 v7 (gi.length + 1) (gi.map (Value.int .i64) ++ [.int .i64 z])) (hg : (wz.alloc (.cells #[.int .i64 z] 3)).grownBy w7 u.ownBlock) (hor : v7.ownBlock = u.ownBlock ∨ v7.ownBlock = some (wz.alloc (.cells #[.int .i64 z] 3)).heap.size) :
    ∃ L', PsM (w7.setCell ⟨gG, f, none⟩ v7) L' pp vF uF (.slice (some ⟨gG, 0, none⟩) nG cG) (uG.set f v7) vD uD fs (gs.set f (gi ++ [z])) ds ∧ Ex wz (w7.setCell ⟨gG, f, none⟩ v7) L L' := by
  have ha := Below.al wz (.cells #[.int .i64 z] 3)
  have h6 := h.next ha
  obtain ⟨_, hl⟩ := h.G.f f gi u hv hu
  have hW : Where (wz.alloc (.cells #[.int .i64 z] 3)) L v7 (9 + 2 * f) := fun b hb => by
    rcases hor with e | e
    · exact .inl (hl b (e ▸ hb))
    · rw [e] at hb
      injection hb with hb
      exact .inr (by omega)
  obtain ⟨t1, t2⟩ := h6.putG (gi' := gi ++ [z]) hv hu ((Chg.refl _ _).grown hg fun k hk => .inl hk) (by rw [List.length_append, List.map_append]; exact hr7) hW
  exact ⟨_, t1, (Ex.below ha _).trans t2⟩
end
end Go.Proofs.Ytomkieennkobcaa
/- SimfsPast: note: what is written down of an append. -/
namespace Go.Proofs.Ytomkieennkobcaa
open Go.RowKit Go.Maps

set_option maxRecDepth 100000 in
set_option maxHeartbeats 8000000 in
theorem note2_any (pp : Nat) (L : Nat → Nat) (vF vG vD : Value) (uF uG uD : List Value) (fs : VS) (gs : GS) (ds : List (List KE)) (l : List KE) (nm nt : ByteArray) (x y : Int) (A A2 : Option Addr) (nb c np c2 : Nat) (w : World) (h : PsM w L pp vF uF vG uG vD uD fs gs ds) (hl : ds[ds.length - 1]? = some l) (hmx : ds.length ≤ 999999999999) (hlm : l.length ≤ 999999999999) (f : Nat) (vs : List (List UInt8)) (now : List UInt8) (gv : List Int) (hld : leadP nm l = some f) (hv : fs[f]? = some vs) (hn : vs[vs.length - 1]? = some now) (hg : gs[f]? = some gv) (hfm : f ≤ 999999999999) (hvm : vs.length ≤ 999999999999) (hgm : gv.length ≤ 999999999999) (hnl : now.length ≤ 1073741824) (bs : List UInt8) (hA : Rd w w.heap.size A (bv bs)) (hbs : bs.length = nb) (hnb : nb ≤ 140737488351232 - 1073741824) :
    Calls Try.prog 28 #[.pointer (some ⟨pp, 0, none⟩), .agg #[.int .i64 2, .string nm, .string nt, .int .i64 x, .int .i64 y, .slice A nb c, .slice A2 np c2]] w fun e w' => e = .returned (.bool true) ∧ Noted w w' L pp (fs.set f (vs ++ [now ++ bs])) (gs.set f (gv ++ [(nb : Int)])) ds := by
  have HX := Lib.hid (Box.new w 44 #[.int .i64 2, .string nm, .string nt, .int .i64 x, .int .i64 y, .slice A nb c, .slice A2 np c2])
  have HB := Lib.hid (Below.al w (.cells #[.int .i64 2, .string nm, .string nt, .int .i64 x, .int .i64 y, .slice A nb c, .slice A2 np c2] 44))
  have H := Lib.hid (h.next (Below.al w (.cells #[.int .i64 2, .string nm, .string nt, .int .i64 x, .int .i64 y, .slice A nb c, .slice A2 np c2] 44)))
  have HL := Lib.hid h.lt
  have HA := Lib.hid (And.intro hA hbs)
  clear hA hbs
  clear h
  obtain ⟨i1, hi1, hz1, hs1, hy1⟩ := info_parts info_u8
  obtain ⟨j1, hj1, kz1, ks1, ky1⟩ := info_parts info_bs
  obtain ⟨k1, hk1, lz1, ls1, ly1⟩ := info_parts info_int
  go_enter Try.func28, Try.ntmps28
  go_upto_region 16 with (first
    | (go_at_call 58
       obtain ⟨D, cD, hvD, hcD, hrD⟩ := H.out.rdD
       rw [hvD] at hcD
       refine (lead_any pp D ds.length cD ds l nm _ hcD hrD hl (by have := (List.getElem?_eq_some_iff.1 hl).1; omega) hmx hlm).mono ?_
       rintro e wl ⟨rfl, kl, hwl⟩
       rw [show leadV nm l = ((f : Nat) : Int) from leadV_some hld]
       have hbl : Below (w.alloc (.cells #[.int .i64 2, .string nm, .string nt, .int .i64 x, .int .i64 y, .slice A nb c, .slice A2 np c2] 44)).heap.size (w.alloc (.cells #[.int .i64 2, .string nm, .string nt, .int .i64 x, .int .i64 y, .slice A nb c, .slice A2 np c2] 44)) wl := by rw [hwl]; exact below_drewN (Below.refl _ _) kl
       have hbw : Below w.heap.size w wl := HB.out.trans (hbl.mono (by simp))
       have HX2 := Lib.hid (show Box wl w.heap.size 44 #[.int .i64 2, .string nm, .string nt, .int .i64 x, .int .i64 y, .slice A nb c, .slice A2 np c2] from by rw [hwl]; exact HX.out)
       have H2 := Lib.hid (And.intro (H.out.next hbl) hbw)
       have hxc := HX2.out.cell
       clear hvD hcD hrD hwl hbl hbw))
  obtain ⟨gF, nF, cF, gu, m, j, cu, us, xn, cn, rfl, hnF, hfn, hLF, huf, hvm2, hmj, hVU, hus, hc0, hcf, hcj, hro, hlb, hfr⟩ := H2.out.1.now_ hv hn
  have HU := Lib.hid (And.intro hnF (And.intro hLF (And.intro huf (And.intro hvm2 (And.intro hmj (And.intro hVU (And.intro hus (And.intro hro hlb))))))))
  rw [hvm2] at hvm
  have hf0 : (0 : Int) ≤ f := by omega
  have hf1 : (f : Int) < nF := by omega
  have hii : (m : Int) - 1 = (j : Int) := by omega
  have hi0 : (0 : Int) ≤ j := by omega
  have hi1 : (j : Int) < m := by omega
  have hwr : IntKind.i64.wrap ((m : Int) - 1) = (j : Int) := by rw [hii]; exact IntWalk.i64_in _ (by omega)
  have hwi : IntKind.i64.wrap (j : Int) = (j : Int) := IntWalk.i64_in _ (by omega)
  clear hnF hLF huf hvm2 hmj hVU hus hro hlb
  go_quiet (fail)
  generalize hw2 : wl.drewN _ = w2
  have hb2 : Below wl.heap.size wl w2 := by rw [← hw2]; exact below_drewN (Below.refl _ _) _
  have HX3 := Lib.hid (HX2.out.next hb2)
  have H3 := Lib.hid (And.intro (H2.out.1.next hb2) (And.intro (H2.out.2.trans (hb2.mono H2.out.2.size)) (And.intro (HU.out.2.2.2.2.2.1.keep (by omega) hb2 (fun _ _ => rfl)) (And.intro (show w2.ownsRow 0 5 1 (.slice xn now.length cn) now.length (bv now) from row_block HU.out.2.2.2.2.2.2.2.1 fun k hk => hb2.block k (HU.out.2.2.2.2.2.2.2.1.lt k hk).2) (cell_kept hc0 hb2)))))
  have hd0 := cell_kept hc0 hb2
  have hdf := cell_kept hcf hb2
  have hdr : w2.frozen? ⟨gF, f, none⟩ = false := by rw [← hw2]; exact hfr
  have hxd := HX3.out.cell
  clear hc0 hcf hcj hfr hw2 hb2 hxc hii hwr hwi hi0 hi1
  go_upto_region 19 with fail
  obtain ⟨wz, hwz⟩ : ∃ wz, w2.drew = wz := ⟨_, rfl⟩
  have hbz : Below w2.heap.size w2 wz := by rw [← hwz]; exact below_drew (Below.refl _ _)
  have hPz := H3.out.1.next hbz
  have hVz := H3.out.2.2.1.keep (L' := L) (by omega) hbz (fun _ _ => rfl)
  have hXz := HX3.out.next hbz
  have hc0 := cell_kept hd0 hbz
  have hcf := cell_kept hdf hbz
  have hc5 : wz.cell? ⟨w.heap.size, 5, none⟩ = some (.slice A nb c) := hXz.cell 5
  have hRn : Rd wz wz.heap.size xn (bv now) := row_rd (row_block H3.out.2.2.2.1 fun k hk => hbz.block k (H3.out.2.2.2.1.lt k hk).2)
  have HZ := Lib.hid (And.intro hbz (And.intro hPz (And.intro hVz (And.intro hXz hRn))))
  have HC := Lib.hid (And.intro hc0 (And.intro hcf hc5))
  have hS0 : wz.cell? ⟨pp, 0, none⟩ = some (.slice (some ⟨gF, 0, none⟩) nF cF) ∧ wz.cell? ⟨gF, f, none⟩ = some (.slice (some ⟨gu, 0, none⟩) m cu) ∧ wz.cell? ⟨w.heap.size, 5, none⟩ = some (.slice A nb c) := ⟨hc0, hcf, hc5⟩
  have hLs : L pp = 1 ∧ L w.heap.size = 0 ∧ L gu = 8 + 2 * f := ⟨hPz.lp, Classical.byContradiction fun e => absurd (HL.out _ e) (Nat.lt_irrefl _), H3.out.2.2.1.l gu rfl⟩
  have hne1 : some pp ≠ (Value.slice (some ⟨gu, 0, none⟩) m cu).ownBlock := fun e => by have := H3.out.2.2.1.l pp e.symm; omega
  have hne2 : some gF ≠ (Value.slice (some ⟨gu, 0, none⟩) m cu).ownBlock := fun e => by have h1 := H3.out.2.2.1.l gF e.symm; have h2 := HU.out.2.1; omega
  have hne3 : some w.heap.size ≠ (Value.slice (some ⟨gu, 0, none⟩) m cu).ownBlock := fun e => by have := H3.out.2.2.1.l _ e.symm; omega
  have HN := Lib.hid (And.intro hne1 (And.intro hne2 (And.intro hne3 hLs)))
  clear hbz hPz hVz hXz hc0 hcf hc5 hRn hd0 hdf hdr hxd hne1 hne2 hne3 hLs
  go_cut [4] (fun s4 wy => s4 = .bool false ∧ ∃ L' uF', PsM wy L' pp (.slice (some ⟨gF, 0, none⟩) nF cF) uF' vG uG vD uD (fs.set f (vs ++ [now ++ bs])) gs ds ∧ Ex w2 wy L L')
  case first =>
    refine WT.start (fun w' : World => w'.cell? ⟨pp, 0, none⟩ = some (.slice (some ⟨gF, 0, none⟩) nF cF) ∧ w'.cell? ⟨gF, f, none⟩ = some (.slice (some ⟨gu, 0, none⟩) m cu) ∧ w'.cell? ⟨w.heap.size, 5, none⟩ = some (.slice A nb c)) 21 (by kernel_rfl) ?_
    rw [hwz]
    clear hwz
    refine WT.take 0 (v := ?_) rfl (by kernel_rfl) (by kernel_rfl) (by kernel_rfl) (by kernel_rfl) (fun _ _ _ h => h) (Or.inl ⟨by rfl, ?hy⟩) hS0 ?_
    case hy => first | (intro w hSw; go_simp; done) | (intro w hSw; go_simp; with_reducible rfl)
    simp only [Act.put, List.setIfInBounds_toArray, List.set_cons_zero, List.set_cons_succ]
    refine WT.take 1 (v := ?_) rfl (by kernel_rfl) (by kernel_rfl) (by kernel_rfl) (by kernel_rfl) (fun _ _ _ h => h) (Or.inl ⟨by rfl, ?hy⟩) hS0 ?_
    case hy => first | (intro w hSw; go_simp; done) | (intro w hSw; go_simp; with_reducible rfl)
    simp only [Act.put, List.setIfInBounds_toArray, List.set_cons_zero, List.set_cons_succ]
    refine WT.take 2 (v := ?_) rfl (by kernel_rfl) (by kernel_rfl) (by kernel_rfl) (by kernel_rfl) (fun _ _ _ h => h) (Or.inl ⟨by rfl, ?hy⟩) hS0 ?_
    case hy => first | (intro w hSw; go_simp; done) | (intro w hSw; go_simp; with_reducible rfl)
    simp only [Act.put, List.setIfInBounds_toArray, List.set_cons_zero, List.set_cons_succ]
    refine WT.take 3 (v := ?_) rfl (by kernel_rfl) (by kernel_rfl) (by kernel_rfl) (by kernel_rfl) (fun _ _ _ h => h) (Or.inl ⟨by rfl, ?hy⟩) hS0 ?_
    case hy => first | (intro w hSw; go_simp; done) | (intro w hSw; go_simp; with_reducible rfl)
    simp only [Act.put, List.setIfInBounds_toArray, List.set_cons_zero, List.set_cons_succ]
    refine WT.take 4 (v := ?_) rfl (by kernel_rfl) (by kernel_rfl) (by kernel_rfl) (by kernel_rfl) (fun _ _ _ h => h) (Or.inl ⟨by rfl, ?hy⟩) hS0 ?_
    case hy => first | (intro w hSw; go_simp; done) | (intro w hSw; go_simp; with_reducible rfl)
    simp only [Act.put, List.setIfInBounds_toArray, List.set_cons_zero, List.set_cons_succ]
    refine WT.take 5 (v := ?_) rfl (by kernel_rfl) (by kernel_rfl) (by kernel_rfl) (by kernel_rfl) (fun _ _ _ h => h) (Or.inl ⟨by rfl, ?hy⟩) hS0 ?_
    case hy => first | (intro w hSw; go_simp; done) | (intro w hSw; go_simp; with_reducible rfl)
    simp only [Act.put, List.setIfInBounds_toArray, List.set_cons_zero, List.set_cons_succ]
    refine WT.take 6 (v := ?_) rfl (by kernel_rfl) (by kernel_rfl) (by kernel_rfl) (by kernel_rfl) (fun _ _ _ h => h) (Or.inl ⟨by rfl, ?hy⟩) hS0 ?_
    case hy => first | (intro w hSw; go_simp; done) | (intro w hSw; go_simp; with_reducible rfl)
    simp only [Act.put, List.setIfInBounds_toArray, List.set_cons_zero, List.set_cons_succ]
    refine WT.take 7 (v := ?_) rfl (by kernel_rfl) (by kernel_rfl) (by kernel_rfl) (by kernel_rfl) (fun _ _ _ h => h) (Or.inl ⟨by rfl, ?hy⟩) hS0 ?_
    case hy => first | (intro w hSw; go_simp; done) | (intro w hSw; go_simp; with_reducible rfl)
    simp only [Act.put, List.setIfInBounds_toArray, List.set_cons_zero, List.set_cons_succ]
    refine WT.take 8 (v := ?_) rfl (by kernel_rfl) (by kernel_rfl) (by kernel_rfl) (by kernel_rfl) (fun _ _ _ h => h) (Or.inl ⟨by rfl, ?hy⟩) hS0 ?_
    case hy => first | (intro w hSw; go_simp; done) | (intro w hSw; go_simp; with_reducible rfl)
    simp only [Act.put, List.setIfInBounds_toArray, List.set_cons_zero, List.set_cons_succ]
    refine WT.take 9 (v := ?_) rfl (by kernel_rfl) (by kernel_rfl) (by kernel_rfl) (by kernel_rfl) (fun _ _ _ h => h) (Or.inl ⟨by rfl, ?hy⟩) hS0 ?_
    case hy => first | (intro w hSw; go_simp; done) | (intro w hSw; go_simp; with_reducible rfl)
    simp only [Act.put, List.setIfInBounds_toArray, List.set_cons_zero, List.set_cons_succ]
    refine WT.take 10 (v := ?_) rfl (by kernel_rfl) (by kernel_rfl) (by kernel_rfl) (by kernel_rfl) (fun _ _ _ h => h) (Or.inl ⟨by rfl, ?hy⟩) hS0 ?_
    case hy => first | (intro w hSw; go_simp; done) | (intro w hSw; go_simp; with_reducible rfl)
    simp only [Act.put, List.setIfInBounds_toArray, List.set_cons_zero, List.set_cons_succ]
    refine WT.take 11 (v := ?_) rfl (by kernel_rfl) (by kernel_rfl) (by kernel_rfl) (by kernel_rfl) (fun _ _ _ h => h) (Or.inl ⟨by rfl, ?hy⟩) hS0 ?_
    case hy => first | (intro w hSw; go_simp; done) | (intro w hSw; go_simp; with_reducible rfl)
    simp only [Act.put, List.setIfInBounds_toArray, List.set_cons_zero, List.set_cons_succ]
    refine WT.take 13 (v := ?_) rfl (by kernel_rfl) (by kernel_rfl) (by kernel_rfl) (by kernel_rfl) (fun _ _ _ h => h) (Or.inl ⟨by rfl, ?hy⟩) hS0 ?_
    case hy => first | (intro w hSw; go_simp; done) | (intro w hSw; go_simp; with_reducible rfl)
    simp only [Act.put, List.setIfInBounds_toArray, List.set_cons_zero, List.set_cons_succ]
    refine WT.take 15 (v := ?_) rfl (by kernel_rfl) (by kernel_rfl) (by kernel_rfl) (by kernel_rfl) (fun _ _ _ h => h) (Or.inl ⟨by rfl, ?hy⟩) hS0 ?_
    case hy => first | (intro w hSw; go_simp; done) | (intro w hSw; go_simp; with_reducible rfl)
    simp only [Act.put, List.setIfInBounds_toArray, List.set_cons_zero, List.set_cons_succ]
    refine WT.take 16 (v := ?_) rfl (by kernel_rfl) (by kernel_rfl) (by kernel_rfl) (by kernel_rfl) (fun _ _ _ h => h) (Or.inl ⟨by rfl, ?hy⟩) hS0 ?_
    case hy => first | (intro w hSw; go_simp; done) | (intro w hSw; go_simp; with_reducible rfl)
    simp only [Act.put, List.setIfInBounds_toArray, List.set_cons_zero, List.set_cons_succ]
    refine WT.step 12 rfl (by kernel_rfl) (by decide) fun K hK => ?_
    go_simp
    have hS3 := And.intro (cell_al HC.out.1 (.cells #[] 5)) (And.intro (cell_al HC.out.2.1 (.cells #[] 5)) (cell_al HC.out.2.2 (.cells #[] 5)))
    clear hS0
    refine hK.out _ _ hS3 ?_
    clear hK K
    refine WT.step 14 rfl (by kernel_rfl) (by decide) fun K hK => ?_
    refine step_app _ (by rfl) (.tmp 119) (.tmp 120) 22 (by rfl) wz.heap.size 5 i1 _ 1 1 Try.underlying22 hi1 hz1 hs1 hy1 rfl (by omega) (.slice (some ⟨wz.heap.size, 0, none⟩) 0 0) 0 [] (by rfl) (own_empty wz wz.heap.size 5 1 (Nat.le_refl _)) (wz.alloc (.cells #[] 5)).heap.size xn now.length cn (bv now) (by rfl) (by rw [bv_len, Nat.mul_one]) (rd_low (HZ.out.2.2.2.2) (Below.al wz (.cells #[] 5))) (one_bv _) (by unfold maxLen; omega) (by omega) (by simp) ?_
    intro v4 w4 hown4 hg4 hor4
    have hb4 : Below wz.heap.size wz w4 := Below.grown ((Below.refl _ _).alloc (Nat.le_refl _) _) hg4 (by simp) (fun j e => by simp [Value.ownBlock] at e; omega)
    have hS4 := And.intro (cell_kept HC.out.1 hb4) (And.intro (cell_kept HC.out.2.1 hb4) (cell_kept HC.out.2.2 hb4))
    have H4 := Lib.hid (And.intro hb4 (show w4.ownsRow wz.heap.size 5 1 v4 (0 + now.length) (bv now) from hown4))
    clear hS3 hown4 hg4 hor4 hb4
    go_simp
    refine hK.out _ _ hS4 ?_
    clear hK K
    refine WT.step 17 rfl (by kernel_rfl) (by decide) fun K hK => ?_
    refine step_app _ (by rfl) (.tmp 121) (.tmp 123) 22 (by rfl) wz.heap.size 5 i1 _ 1 1 Try.underlying22 hi1 hz1 hs1 hy1 rfl (by omega) v4 (0 + now.length) (bv now) (by rfl) H4.out.2 w4.heap.size A nb c (bv bs) (by rfl) (by rw [bv_len, HA.out.2, Nat.mul_one]) (rd_low HA.out.1 (H3.out.2.1.trans ((HZ.out.1.trans (H4.out.1.mono HZ.out.1.size)).mono H3.out.2.1.size))) (one_bv _) (by unfold maxLen; omega) (by omega) H4.out.1.size ?_
    intro v5 w5 hown5 hg5 hor5
    have hb5 : Below wz.heap.size wz w5 := Below.grown H4.out.1 hg5 H4.out.1.size (fun j e => (H4.out.2.lt j e).1)
    have hS5 := And.intro (cell_kept HC.out.1 hb5) (And.intro (cell_kept HC.out.2.1 hb5) (cell_kept HC.out.2.2 hb5))
    have H5 := Lib.hid (And.intro hb5 (show w5.ownsRow wz.heap.size 5 1 v5 (now ++ bs).length (bv (now ++ bs)) by rw [bv_app, List.length_append, HA.out.2]; rw [Nat.zero_add] at hown5; exact hown5))
    clear hS4 hown5 hg5 hor5 hb5
    obtain ⟨q5, hq5⟩ : ∃ q5, (now ++ bs).length = q5 := ⟨_, rfl⟩
    obtain ⟨b5, c5, hv5⟩ := row_slice H5.out.2
    rw [hq5] at hv5 H5
    subst hv5
    have HQ := Lib.hid hq5
    clear hq5
    go_simp
    refine hK.out _ _ hS5 ?_
    clear hK K
    refine WT.step 18 rfl (by kernel_rfl) (by decide) fun K hK => ?_
    go_simp
    have hS6 := And.intro (cell_al hS5.1 (.cells #[(.slice b5 q5 c5)] 22)) (And.intro (cell_al hS5.2.1 (.cells #[(.slice b5 q5 c5)] 22)) (cell_al hS5.2.2 (.cells #[(.slice b5 q5 c5)] 22)))
    clear hS5
    refine hK.out _ _ hS6 ?_
    clear hK K
    refine WT.step 19 rfl (by kernel_rfl) (by decide) fun K hK => ?_
    refine step_app _ (by rfl) (.tmp 118) (.tmp 125) 110 (by rfl) 0 22 j1 _ 1 24 Try.underlying110 hj1 kz1 ks1 ky1 rfl (by omega) (.slice (some ⟨gu, 0, none⟩) m cu) m us (by rfl) (by have := ((HZ.out.2.2.1.keep (L' := L) (by omega) H5.out.1 (fun _ _ => rfl)).keep (L' := L) (by omega) (Below.al w5 (.cells #[(.slice b5 q5 c5)] 22)) (fun _ _ => rfl)).r; rw [HU.out.2.2.2.1] at this; exact this) (w5.heap.size + 1) (some ⟨w5.heap.size, 0, none⟩) 1 1 [(.slice b5 q5 c5)] (by rfl) (by rfl) (rd_new _ _ _) (by simp [Value.oneCell']) (by unfold maxLen; omega) (by omega) (Nat.zero_le _) ?_
    intro v7 w7 hown7 hg7 hor7
    obtain ⟨b7, c7, hv7⟩ := row_slice hown7
    subst hv7
    have hb6 : Below wz.heap.size wz (w5.alloc (.cells #[(.slice b5 q5 c5)] 22)) := H5.out.1.trans ((Below.al w5 _).mono H5.out.1.size)
    have hS7 := And.intro (cell_grow HC.out.1 hb6 hg7 HN.out.1) (And.intro (cell_grow HC.out.2.1 hb6 hg7 HN.out.2.1) (cell_grow HC.out.2.2 hb6 hg7 HN.out.2.2.1))
    have hfz : w7.frozen? ⟨gF, f, none⟩ = false := by
      have hr := HZ.out.2.1.F.r
      rw [HU.out.1] at hr
      exact grow_free hr HU.out.2.2.1 hb6 hg7 HN.out.2.1
    have H7 := Lib.hid (HZ.out.2.1.growF (y := now ++ bs) hv HU.out.2.2.1 HZ.out.2.2.1 H5.out.1 (by rw [HQ.out]; exact H5.out.2) (by rw [HU.out.2.2.2.1]; exact hown7) hg7 hor7)
    clear hS6 hown7 hg7 hor7 hb6
    go_simp
    refine hK.out _ _ hS7 ?_
    clear hK K
    refine WT.take 20 (v := ?_) rfl (by kernel_rfl) (by kernel_rfl) (by kernel_rfl) (by kernel_rfl) (fun _ _ _ h => h) (Or.inl ⟨by rfl, ?hy⟩) hS7 ?_
    case hy => first | (intro w hSw; go_simp; done) | (intro w hSw; go_simp; with_reducible rfl)
    simp only [Act.put, List.setIfInBounds_toArray, List.set_cons_zero, List.set_cons_succ]
    refine WT.last 21 rfl (by kernel_rfl) rfl fun K hK => ?_
    go_simp
    refine hK.out _ _ ?_
    clear hK K
    refine WT.done (by kernel_rfl) ?_
    have hdo := hS7.2.1
    go_wp2_with fail
    go_meet
    case rel =>
      obtain ⟨L7, q1, q2⟩ := H7.out
      exact ⟨rfl, L7, _, q1, (Ex.below HZ.out.1 L).trans q2⟩
  case rest =>
    obtain ⟨rfl, L3, uF3, hP3, hE3⟩ := hcut
    have hX4 : Box wc w.heap.size 44 #[.int .i64 2, .string nm, .string nt, .int .i64 x, .int .i64 y, .slice A nb c, .slice A2 np c2] := HX3.out.chg hE3.chg fun e => e HN.out.2.2.2.2.1
    have hxd := hX4.cell
    go_upto_region 20 with fail
    obtain ⟨wz, hwz⟩ : ∃ wz, wc.drew = wz := ⟨_, rfl⟩
    have hbz : Below wc.heap.size wc wz := by rw [← hwz]; exact below_drew (Below.refl _ _)
    have hPz := hP3.next hbz
    have hXz := hX4.next hbz
    obtain ⟨gG, nG, cG, ug, rfl, hnG, hfG, hLG, hug, hGr, hg1, hgf, hgz⟩ := hPz.grow_ hg
    obtain ⟨ub, uc, hub⟩ := row_slice hGr.1
    subst hub
    have hgl : gv.length ≤ 999999999999 := hgm
    obtain ⟨mg, hmg⟩ : ∃ mg, gv.length = mg := ⟨_, rfl⟩
    rw [hmg] at hgl hgf hug hGr
    have hg2 : (f : Int) < nG := by omega
    have hlp := hPz.lp
    have hl0 : L3 w.heap.size = 0 := Classical.byContradiction fun e => by
      rcases hE3.new _ e with h1 | h1
      · exact h1 HN.out.2.2.2.2.1
      · have := HX3.out.lt; omega
    have hn1 : some pp ≠ (Value.slice ub mg uc).ownBlock := fun e => by have := hGr.2 pp e.symm; omega
    have hn2 : some gG ≠ (Value.slice ub mg uc).ownBlock := fun e => by have := hGr.2 gG e.symm; omega
    have hn3 : some w.heap.size ≠ (Value.slice ub mg uc).ownBlock := fun e => by have := hGr.2 _ e.symm; omega
    have hc5 : wz.cell? ⟨w.heap.size, 5, none⟩ = some (.slice A nb c) := hXz.cell 5
    have hS0 : wz.cell? ⟨pp, 1, none⟩ = some (.slice (some ⟨gG, 0, none⟩) nG cG) ∧ wz.cell? ⟨gG, f, none⟩ = some (.slice ub mg uc) ∧ wz.cell? ⟨w.heap.size, 5, none⟩ = some (.slice A nb c) := ⟨hg1, hgf, hc5⟩
    have HC2 := Lib.hid hS0
    have HN2 := Lib.hid (And.intro hn1 (And.intro hn2 hn3))
    have HG := Lib.hid (And.intro hbz (And.intro hPz (And.intro hnG (And.intro hug (And.intro hGr.1 (And.intro hE3 hmg))))))
    clear hP3 hE3 hX4 hxd hbz hPz hXz hnG hug hGr hg1 hgf hgz hlp hl0 hn1 hn2 hn3 hc5 hLG hmg
    refine WT.start (fun w' : World => w'.cell? ⟨pp, 1, none⟩ = some (.slice (some ⟨gG, 0, none⟩) nG cG) ∧ w'.cell? ⟨gG, f, none⟩ = some (.slice ub mg uc) ∧ w'.cell? ⟨w.heap.size, 5, none⟩ = some (.slice A nb c)) 18 (by kernel_rfl) ?_
    rw [hwz]
    clear hwz
    refine WT.take 0 (v := ?_) rfl (by kernel_rfl) (by kernel_rfl) (by kernel_rfl) (by kernel_rfl) (fun _ _ _ h => h) (Or.inl ⟨by rfl, ?hy⟩) hS0 ?_
    case hy => first | (intro w hSw; go_simp; done) | (intro w hSw; go_simp; with_reducible rfl)
    simp only [Act.put, List.setIfInBounds_toArray, List.set_cons_zero, List.set_cons_succ]
    refine WT.take 1 (v := ?_) rfl (by kernel_rfl) (by kernel_rfl) (by kernel_rfl) (by kernel_rfl) (fun _ _ _ h => h) (Or.inl ⟨by rfl, ?hy⟩) hS0 ?_
    case hy => first | (intro w hSw; go_simp; done) | (intro w hSw; go_simp; with_reducible rfl)
    simp only [Act.put, List.setIfInBounds_toArray, List.set_cons_zero, List.set_cons_succ]
    refine WT.take 2 (v := ?_) rfl (by kernel_rfl) (by kernel_rfl) (by kernel_rfl) (by kernel_rfl) (fun _ _ _ h => h) (Or.inl ⟨by rfl, ?hy⟩) hS0 ?_
    case hy => first | (intro w hSw; go_simp; done) | (intro w hSw; go_simp; with_reducible rfl)
    simp only [Act.put, List.setIfInBounds_toArray, List.set_cons_zero, List.set_cons_succ]
    refine WT.take 3 (v := ?_) rfl (by kernel_rfl) (by kernel_rfl) (by kernel_rfl) (by kernel_rfl) (fun _ _ _ h => h) (Or.inl ⟨by rfl, ?hy⟩) hS0 ?_
    case hy => first | (intro w hSw; go_simp; done) | (intro w hSw; go_simp; with_reducible rfl)
    simp only [Act.put, List.setIfInBounds_toArray, List.set_cons_zero, List.set_cons_succ]
    refine WT.take 4 (v := ?_) rfl (by kernel_rfl) (by kernel_rfl) (by kernel_rfl) (by kernel_rfl) (fun _ _ _ h => h) (Or.inl ⟨by rfl, ?hy⟩) hS0 ?_
    case hy => first | (intro w hSw; go_simp; done) | (intro w hSw; go_simp; with_reducible rfl)
    simp only [Act.put, List.setIfInBounds_toArray, List.set_cons_zero, List.set_cons_succ]
    refine WT.take 5 (v := ?_) rfl (by kernel_rfl) (by kernel_rfl) (by kernel_rfl) (by kernel_rfl) (fun _ _ _ h => h) (Or.inl ⟨by rfl, ?hy⟩) hS0 ?_
    case hy => first | (intro w hSw; go_simp; done) | (intro w hSw; go_simp; with_reducible rfl)
    simp only [Act.put, List.setIfInBounds_toArray, List.set_cons_zero, List.set_cons_succ]
    refine WT.take 6 (v := ?_) rfl (by kernel_rfl) (by kernel_rfl) (by kernel_rfl) (by kernel_rfl) (fun _ _ _ h => h) (Or.inl ⟨by rfl, ?hy⟩) hS0 ?_
    case hy => first | (intro w hSw; go_simp; done) | (intro w hSw; go_simp; with_reducible rfl)
    simp only [Act.put, List.setIfInBounds_toArray, List.set_cons_zero, List.set_cons_succ]
    refine WT.take 7 (v := ?_) rfl (by kernel_rfl) (by kernel_rfl) (by kernel_rfl) (by kernel_rfl) (fun _ _ _ h => h) (Or.inl ⟨by rfl, ?hy⟩) hS0 ?_
    case hy => first | (intro w hSw; go_simp; done) | (intro w hSw; go_simp; with_reducible rfl)
    simp only [Act.put, List.setIfInBounds_toArray, List.set_cons_zero, List.set_cons_succ]
    refine WT.take 8 (v := ?_) rfl (by kernel_rfl) (by kernel_rfl) (by kernel_rfl) (by kernel_rfl) (fun _ _ _ h => h) (Or.inl ⟨by rfl, ?hy⟩) hS0 ?_
    case hy => first | (intro w hSw; go_simp; done) | (intro w hSw; go_simp; with_reducible rfl)
    simp only [Act.put, List.setIfInBounds_toArray, List.set_cons_zero, List.set_cons_succ]
    refine WT.take 9 (v := ?_) rfl (by kernel_rfl) (by kernel_rfl) (by kernel_rfl) (by kernel_rfl) (fun _ _ _ h => h) (Or.inl ⟨by rfl, ?hy⟩) hS0 ?_
    case hy => first | (intro w hSw; go_simp; done) | (intro w hSw; go_simp; with_reducible rfl)
    simp only [Act.put, List.setIfInBounds_toArray, List.set_cons_zero, List.set_cons_succ]
    refine WT.take 10 (v := ?_) rfl (by kernel_rfl) (by kernel_rfl) (by kernel_rfl) (by kernel_rfl) (fun _ _ _ h => h) (Or.inl ⟨by rfl, ?hy⟩) hS0 ?_
    case hy => first | (intro w hSw; go_simp; done) | (intro w hSw; go_simp; with_reducible rfl)
    simp only [Act.put, List.setIfInBounds_toArray, List.set_cons_zero, List.set_cons_succ]
    refine WT.take 11 (v := ?_) rfl (by kernel_rfl) (by kernel_rfl) (by kernel_rfl) (by kernel_rfl) (fun _ _ _ h => h) (Or.inl ⟨by rfl, ?hy⟩) hS0 ?_
    case hy => first | (intro w hSw; go_simp; done) | (intro w hSw; go_simp; with_reducible rfl)
    simp only [Act.put, List.setIfInBounds_toArray, List.set_cons_zero, List.set_cons_succ]
    refine WT.take 12 (v := ?_) rfl (by kernel_rfl) (by kernel_rfl) (by kernel_rfl) (by kernel_rfl) (fun _ _ _ h => h) (Or.inl ⟨by rfl, ?hy⟩) hS0 ?_
    case hy => first | (intro w hSw; go_simp; done) | (intro w hSw; go_simp; with_reducible rfl)
    simp only [Act.put, List.setIfInBounds_toArray, List.set_cons_zero, List.set_cons_succ]
    refine WT.take 13 (v := ?_) rfl (by kernel_rfl) (by kernel_rfl) (by kernel_rfl) (by kernel_rfl) (fun _ _ _ h => h) (Or.inl ⟨by rfl, ?hy⟩) hS0 ?_
    case hy => first | (intro w hSw; go_simp; done) | (intro w hSw; go_simp; with_reducible rfl)
    simp only [Act.put, List.setIfInBounds_toArray, List.set_cons_zero, List.set_cons_succ]
    refine WT.take 14 (v := ?_) rfl (by kernel_rfl) (by kernel_rfl) (by kernel_rfl) (by kernel_rfl) (fun _ _ _ h => h) (Or.inl ⟨by rfl, ?hy⟩) hS0 ?_
    case hy => first | (intro w hSw; go_simp; done) | (intro w hSw; go_simp; with_reducible rfl)
    simp only [Act.put, List.setIfInBounds_toArray, List.set_cons_zero, List.set_cons_succ]
    refine WT.step 15 rfl (by kernel_rfl) (by decide) fun K hK => ?_
    go_simp
    have hS6 := And.intro (cell_al HC2.out.1 (.cells #[.int .i64 (nb : Int)] 3)) (And.intro (cell_al HC2.out.2.1 (.cells #[.int .i64 (nb : Int)] 3)) (cell_al HC2.out.2.2 (.cells #[.int .i64 (nb : Int)] 3)))
    clear hS0
    refine hK.out _ _ hS6 ?_
    clear hK K
    refine WT.step 16 rfl (by kernel_rfl) (by decide) fun K hK => ?_
    refine step_app _ (by rfl) (.tmp 139) (.tmp 143) 23 (by rfl) 0 3 k1 _ 1 8 Try.underlying23 hk1 lz1 ls1 ly1 rfl (by omega) (.slice ub mg uc) mg (gv.map (Value.int .i64)) (by rfl) (by have := HG.out.2.2.2.2.1; rw [HG.out.2.2.2.2.2.2] at this; exact this.alloc _) (wz.heap.size + 1) (some ⟨wz.heap.size, 0, none⟩) 1 1 [.int .i64 (nb : Int)] (by rfl) (by rfl) (rd_new _ _ _) (by simp [Value.oneCell']) (by unfold maxLen; omega) (by omega) (Nat.zero_le _) ?_
    intro v7 w7 hown7 hg7 hor7
    obtain ⟨b7, c7, hv7⟩ := row_slice hown7
    subst hv7
    have hb6 : Below wz.heap.size wz (wz.alloc (.cells #[.int .i64 (nb : Int)] 3)) := Below.al wz _
    have hS7 := And.intro (cell_grow HC2.out.1 hb6 hg7 HN2.out.1) (And.intro (cell_grow HC2.out.2.1 hb6 hg7 HN2.out.2.1) (cell_grow HC2.out.2.2 hb6 hg7 HN2.out.2.2))
    have hfz : w7.frozen? ⟨gG, f, none⟩ = false := by
      have hr := HG.out.2.1.G.r
      rw [HG.out.2.2.1] at hr
      exact grow_free hr HG.out.2.2.2.1 hb6 hg7 HN2.out.2.1
    have H7 := Lib.hid (HG.out.2.1.growG hg HG.out.2.2.2.1 (by rw [HG.out.2.2.2.2.2.2]; exact hown7) hg7 hor7)
    clear hS6 hown7 hg7 hor7 hb6
    go_simp
    refine hK.out _ _ hS7 ?_
    clear hK K
    refine WT.take 17 (v := ?_) rfl (by kernel_rfl) (by kernel_rfl) (by kernel_rfl) (by kernel_rfl) (fun _ _ _ h => h) (Or.inl ⟨by rfl, ?hy⟩) hS7 ?_
    case hy => first | (intro w hSw; go_simp; done) | (intro w hSw; go_simp; with_reducible rfl)
    simp only [Act.put, List.setIfInBounds_toArray, List.set_cons_zero, List.set_cons_succ]
    refine WT.last 18 rfl (by kernel_rfl) rfl fun K hK => ?_
    go_simp
    refine hK.out _ _ ?_
    clear hK K
    refine WT.done (by kernel_rfl) ?_
    have hdo := hS7.2.1
    go_wp2_with fail
    go_ret
    obtain ⟨L7, q1, q2⟩ := H7.out
    exact ⟨rfl, L7, ⟨_, _, _, _, _, _, q1⟩, ((Ex.below H3.out.2.1 L).trans HG.out.2.2.2.2.2.1).trans ((Ex.below HG.out.1 L3).trans q2)⟩
end Go.Proofs.Ytomkieennkobcaa
/- SimfsPast: note: what is written down of a cut. -/
namespace Go.Proofs.Ytomkieennkobcaa
open Go.RowKit Go.Maps

set_option maxRecDepth 100000 in
set_option maxHeartbeats 8000000 in
theorem note3_any (pp : Nat) (L : Nat → Nat) (vF vG vD : Value) (uF uG uD : List Value) (fs : VS) (gs : GS) (ds : List (List KE)) (l : List KE) (nm nt : ByteArray) (x : Int) (A A2 : Option Addr) (nb c np c2 : Nat) (q : Nat) (w : World) (h : PsM w L pp vF uF vG uG vD uD fs gs ds) (hl : ds[ds.length - 1]? = some l) (hmx : ds.length ≤ 999999999999) (hlm : l.length ≤ 999999999999) (f : Nat) (vs : List (List UInt8)) (now : List UInt8) (gv : List Int) (hld : leadP nm l = some f) (hv : fs[f]? = some vs) (hn : vs[vs.length - 1]? = some now) (hg : gs[f]? = some gv) (hfm : f ≤ 999999999999) (hvm : vs.length ≤ 999999999999) (hgm : gv.length ≤ 999999999999) (hnl : now.length ≤ 1073741824) (hq : q ≤ now.length) :
    Calls Try.prog 28 #[.pointer (some ⟨pp, 0, none⟩), .agg #[.int .i64 3, .string nm, .string nt, .int .i64 x, .int .i64 (q : Nat), .slice A nb c, .slice A2 np c2]] w fun e w' => e = .returned (.bool true) ∧ Noted w w' L pp (fs.set f (vs ++ [now.take q])) (gs.set f (gv ++ [-1])) ds := by
  have HX := Lib.hid (Box.new w 44 #[.int .i64 3, .string nm, .string nt, .int .i64 x, .int .i64 (q : Nat), .slice A nb c, .slice A2 np c2])
  have HB := Lib.hid (Below.al w (.cells #[.int .i64 3, .string nm, .string nt, .int .i64 x, .int .i64 (q : Nat), .slice A nb c, .slice A2 np c2] 44))
  have H := Lib.hid (h.next (Below.al w (.cells #[.int .i64 3, .string nm, .string nt, .int .i64 x, .int .i64 (q : Nat), .slice A nb c, .slice A2 np c2] 44)))
  have HL := Lib.hid h.lt
  have HT := Lib.hid (show (now.take q).length = q by rw [List.length_take]; omega)
  clear h
  obtain ⟨i1, hi1, hz1, hs1, hy1⟩ := info_parts info_u8
  obtain ⟨j1, hj1, kz1, ks1, ky1⟩ := info_parts info_bs
  obtain ⟨k1, hk1, lz1, ls1, ly1⟩ := info_parts info_int
  have hq0 : (0 : Int) ≤ q := by omega
  have hq1 : (q : Int) ≤ now.length := by omega
  go_enter Try.func28, Try.ntmps28
  go_upto_region 16 with (first
    | (go_at_call 58
       obtain ⟨D, cD, hvD, hcD, hrD⟩ := H.out.rdD
       rw [hvD] at hcD
       refine (lead_any pp D ds.length cD ds l nm _ hcD hrD hl (by have := (List.getElem?_eq_some_iff.1 hl).1; omega) hmx hlm).mono ?_
       rintro e wl ⟨rfl, kl, hwl⟩
       rw [show leadV nm l = ((f : Nat) : Int) from leadV_some hld]
       have hbl : Below (w.alloc (.cells #[.int .i64 3, .string nm, .string nt, .int .i64 x, .int .i64 (q : Nat), .slice A nb c, .slice A2 np c2] 44)).heap.size (w.alloc (.cells #[.int .i64 3, .string nm, .string nt, .int .i64 x, .int .i64 (q : Nat), .slice A nb c, .slice A2 np c2] 44)) wl := by rw [hwl]; exact below_drewN (Below.refl _ _) kl
       have hbw : Below w.heap.size w wl := HB.out.trans (hbl.mono (by simp))
       have HX2 := Lib.hid (show Box wl w.heap.size 44 #[.int .i64 3, .string nm, .string nt, .int .i64 x, .int .i64 (q : Nat), .slice A nb c, .slice A2 np c2] from by rw [hwl]; exact HX.out)
       have H2 := Lib.hid (And.intro (H.out.next hbl) hbw)
       have hxc := HX2.out.cell
       clear hvD hcD hrD hwl hbl hbw))
  obtain ⟨gF, nF, cF, gu, m, j, cu, us, xn, cn, rfl, hnF, hfn, hLF, huf, hvm2, hmj, hVU, hus, hc0, hcf, hcj, hro, hlb, hfr⟩ := H2.out.1.now_ hv hn
  have HU := Lib.hid (And.intro hnF (And.intro hLF (And.intro huf (And.intro hvm2 (And.intro hmj (And.intro hVU (And.intro hus (And.intro hro hlb))))))))
  rw [hvm2] at hvm
  have hf0 : (0 : Int) ≤ f := by omega
  have hf1 : (f : Int) < nF := by omega
  have hii : (m : Int) - 1 = (j : Int) := by omega
  have hi0 : (0 : Int) ≤ j := by omega
  have hi1 : (j : Int) < m := by omega
  have hwr : IntKind.i64.wrap ((m : Int) - 1) = (j : Int) := by rw [hii]; exact IntWalk.i64_in _ (by omega)
  have hwi : IntKind.i64.wrap (j : Int) = (j : Int) := IntWalk.i64_in _ (by omega)
  clear hnF hLF huf hvm2 hmj hVU hus hro hlb
  go_quiet (fail)
  generalize hw2 : wl.drewN _ = w2
  have hb2 : Below wl.heap.size wl w2 := by rw [← hw2]; exact below_drewN (Below.refl _ _) _
  have HX3 := Lib.hid (HX2.out.next hb2)
  have H3 := Lib.hid (And.intro (H2.out.1.next hb2) (And.intro (H2.out.2.trans (hb2.mono H2.out.2.size)) (And.intro (HU.out.2.2.2.2.2.1.keep (by omega) hb2 (fun _ _ => rfl)) (And.intro (show w2.ownsRow 0 5 1 (.slice xn now.length cn) now.length (bv now) from row_block HU.out.2.2.2.2.2.2.2.1 fun k hk => hb2.block k (HU.out.2.2.2.2.2.2.2.1.lt k hk).2) (cell_kept hc0 hb2)))))
  have hd0 := cell_kept hc0 hb2
  have hdf := cell_kept hcf hb2
  have hdr : w2.frozen? ⟨gF, f, none⟩ = false := by rw [← hw2]; exact hfr
  have hxd := HX3.out.cell
  clear hc0 hcf hcj hfr hw2 hb2 hxc hii hwr hwi hi0 hi1
  have hq2 : (q : Int) ≤ cn := by have := row_cap H3.out.2.2.2.1; omega
  go_upto_region 24 with fail
  obtain ⟨wz, hwz⟩ : ∃ wz, w2.drew = wz := ⟨_, rfl⟩
  have hbz : Below w2.heap.size w2 wz := by rw [← hwz]; exact below_drew (Below.refl _ _)
  have hPz := H3.out.1.next hbz
  have hVz := H3.out.2.2.1.keep (L' := L) (by omega) hbz (fun _ _ => rfl)
  have hXz := HX3.out.next hbz
  have hc0 := cell_kept hd0 hbz
  have hcf := cell_kept hdf hbz
  have hc5 : wz.cell? ⟨w.heap.size, 4, none⟩ = some (.int .i64 (q : Nat)) := hXz.cell 4
  have hRn : Rd wz wz.heap.size xn (bv now) := row_rd (row_block H3.out.2.2.2.1 fun k hk => hbz.block k (H3.out.2.2.2.1.lt k hk).2)
  have HZ := Lib.hid (And.intro hbz (And.intro hPz (And.intro hVz (And.intro hXz hRn))))
  have HC := Lib.hid (And.intro hc0 (And.intro hcf hc5))
  have hS0 : wz.cell? ⟨pp, 0, none⟩ = some (.slice (some ⟨gF, 0, none⟩) nF cF) ∧ wz.cell? ⟨gF, f, none⟩ = some (.slice (some ⟨gu, 0, none⟩) m cu) ∧ wz.cell? ⟨w.heap.size, 4, none⟩ = some (.int .i64 (q : Nat)) := ⟨hc0, hcf, hc5⟩
  have hLs : L pp = 1 ∧ L w.heap.size = 0 ∧ L gu = 8 + 2 * f := ⟨hPz.lp, Classical.byContradiction fun e => absurd (HL.out _ e) (Nat.lt_irrefl _), H3.out.2.2.1.l gu rfl⟩
  have hne1 : some pp ≠ (Value.slice (some ⟨gu, 0, none⟩) m cu).ownBlock := fun e => by have := H3.out.2.2.1.l pp e.symm; omega
  have hne2 : some gF ≠ (Value.slice (some ⟨gu, 0, none⟩) m cu).ownBlock := fun e => by have h1 := H3.out.2.2.1.l gF e.symm; have h2 := HU.out.2.1; omega
  have hne3 : some w.heap.size ≠ (Value.slice (some ⟨gu, 0, none⟩) m cu).ownBlock := fun e => by have := H3.out.2.2.1.l _ e.symm; omega
  have HN := Lib.hid (And.intro hne1 (And.intro hne2 (And.intro hne3 hLs)))
  clear hbz hPz hVz hXz hc0 hcf hc5 hRn hd0 hdf hdr hxd hne1 hne2 hne3 hLs
  go_cut [4] (fun s4 wy => s4 = .bool false ∧ ∃ L' uF', PsM wy L' pp (.slice (some ⟨gF, 0, none⟩) nF cF) uF' vG uG vD uD (fs.set f (vs ++ [now.take q])) gs ds ∧ Ex w2 wy L L')
  case first =>
    refine WT.start (fun w' : World => w'.cell? ⟨pp, 0, none⟩ = some (.slice (some ⟨gF, 0, none⟩) nF cF) ∧ w'.cell? ⟨gF, f, none⟩ = some (.slice (some ⟨gu, 0, none⟩) m cu) ∧ w'.cell? ⟨w.heap.size, 4, none⟩ = some (.int .i64 (q : Nat))) 21 (by kernel_rfl) ?_
    rw [hwz]
    clear hwz
    refine WT.take 0 (v := ?_) rfl (by kernel_rfl) (by kernel_rfl) (by kernel_rfl) (by kernel_rfl) (fun _ _ _ h => h) (Or.inl ⟨by rfl, ?hy⟩) hS0 ?_
    case hy => first | (intro w hSw; go_simp; done) | (intro w hSw; go_simp; with_reducible rfl)
    simp only [Act.put, List.setIfInBounds_toArray, List.set_cons_zero, List.set_cons_succ]
    refine WT.take 1 (v := ?_) rfl (by kernel_rfl) (by kernel_rfl) (by kernel_rfl) (by kernel_rfl) (fun _ _ _ h => h) (Or.inl ⟨by rfl, ?hy⟩) hS0 ?_
    case hy => first | (intro w hSw; go_simp; done) | (intro w hSw; go_simp; with_reducible rfl)
    simp only [Act.put, List.setIfInBounds_toArray, List.set_cons_zero, List.set_cons_succ]
    refine WT.take 2 (v := ?_) rfl (by kernel_rfl) (by kernel_rfl) (by kernel_rfl) (by kernel_rfl) (fun _ _ _ h => h) (Or.inl ⟨by rfl, ?hy⟩) hS0 ?_
    case hy => first | (intro w hSw; go_simp; done) | (intro w hSw; go_simp; with_reducible rfl)
    simp only [Act.put, List.setIfInBounds_toArray, List.set_cons_zero, List.set_cons_succ]
    refine WT.take 3 (v := ?_) rfl (by kernel_rfl) (by kernel_rfl) (by kernel_rfl) (by kernel_rfl) (fun _ _ _ h => h) (Or.inl ⟨by rfl, ?hy⟩) hS0 ?_
    case hy => first | (intro w hSw; go_simp; done) | (intro w hSw; go_simp; with_reducible rfl)
    simp only [Act.put, List.setIfInBounds_toArray, List.set_cons_zero, List.set_cons_succ]
    refine WT.take 4 (v := ?_) rfl (by kernel_rfl) (by kernel_rfl) (by kernel_rfl) (by kernel_rfl) (fun _ _ _ h => h) (Or.inl ⟨by rfl, ?hy⟩) hS0 ?_
    case hy => first | (intro w hSw; go_simp; done) | (intro w hSw; go_simp; with_reducible rfl)
    simp only [Act.put, List.setIfInBounds_toArray, List.set_cons_zero, List.set_cons_succ]
    refine WT.take 5 (v := ?_) rfl (by kernel_rfl) (by kernel_rfl) (by kernel_rfl) (by kernel_rfl) (fun _ _ _ h => h) (Or.inl ⟨by rfl, ?hy⟩) hS0 ?_
    case hy => first | (intro w hSw; go_simp; done) | (intro w hSw; go_simp; with_reducible rfl)
    simp only [Act.put, List.setIfInBounds_toArray, List.set_cons_zero, List.set_cons_succ]
    refine WT.take 6 (v := ?_) rfl (by kernel_rfl) (by kernel_rfl) (by kernel_rfl) (by kernel_rfl) (fun _ _ _ h => h) (Or.inl ⟨by rfl, ?hy⟩) hS0 ?_
    case hy => first | (intro w hSw; go_simp; done) | (intro w hSw; go_simp; with_reducible rfl)
    simp only [Act.put, List.setIfInBounds_toArray, List.set_cons_zero, List.set_cons_succ]
    refine WT.take 7 (v := ?_) rfl (by kernel_rfl) (by kernel_rfl) (by kernel_rfl) (by kernel_rfl) (fun _ _ _ h => h) (Or.inl ⟨by rfl, ?hy⟩) hS0 ?_
    case hy => first | (intro w hSw; go_simp; done) | (intro w hSw; go_simp; with_reducible rfl)
    simp only [Act.put, List.setIfInBounds_toArray, List.set_cons_zero, List.set_cons_succ]
    refine WT.take 8 (v := ?_) rfl (by kernel_rfl) (by kernel_rfl) (by kernel_rfl) (by kernel_rfl) (fun _ _ _ h => h) (Or.inl ⟨by rfl, ?hy⟩) hS0 ?_
    case hy => first | (intro w hSw; go_simp; done) | (intro w hSw; go_simp; with_reducible rfl)
    simp only [Act.put, List.setIfInBounds_toArray, List.set_cons_zero, List.set_cons_succ]
    refine WT.take 9 (v := ?_) rfl (by kernel_rfl) (by kernel_rfl) (by kernel_rfl) (by kernel_rfl) (fun _ _ _ h => h) (Or.inl ⟨by rfl, ?hy⟩) hS0 ?_
    case hy => first | (intro w hSw; go_simp; done) | (intro w hSw; go_simp; with_reducible rfl)
    simp only [Act.put, List.setIfInBounds_toArray, List.set_cons_zero, List.set_cons_succ]
    refine WT.take 10 (v := ?_) rfl (by kernel_rfl) (by kernel_rfl) (by kernel_rfl) (by kernel_rfl) (fun _ _ _ h => h) (Or.inl ⟨by rfl, ?hy⟩) hS0 ?_
    case hy => first | (intro w hSw; go_simp; done) | (intro w hSw; go_simp; with_reducible rfl)
    simp only [Act.put, List.setIfInBounds_toArray, List.set_cons_zero, List.set_cons_succ]
    refine WT.take 11 (v := ?_) rfl (by kernel_rfl) (by kernel_rfl) (by kernel_rfl) (by kernel_rfl) (fun _ _ _ h => h) (Or.inl ⟨by rfl, ?hy⟩) hS0 ?_
    case hy => first | (intro w hSw; go_simp; done) | (intro w hSw; go_simp; with_reducible rfl)
    simp only [Act.put, List.setIfInBounds_toArray, List.set_cons_zero, List.set_cons_succ]
    refine WT.take 13 (v := ?_) rfl (by kernel_rfl) (by kernel_rfl) (by kernel_rfl) (by kernel_rfl) (fun _ _ _ h => h) (Or.inl ⟨by rfl, ?hy⟩) hS0 ?_
    case hy => first | (intro w hSw; go_simp; done) | (intro w hSw; go_simp; with_reducible rfl)
    simp only [Act.put, List.setIfInBounds_toArray, List.set_cons_zero, List.set_cons_succ]
    refine WT.take 14 (v := ?_) rfl (by kernel_rfl) (by kernel_rfl) (by kernel_rfl) (by kernel_rfl) (fun _ _ _ h => h) (Or.inl ⟨by rfl, ?hy⟩) hS0 ?_
    case hy => first | (intro w hSw; go_simp; done) | (intro w hSw; go_simp; with_reducible rfl)
    simp only [Act.put, List.setIfInBounds_toArray, List.set_cons_zero, List.set_cons_succ]
    refine WT.take 15 (v := ?_) rfl (by kernel_rfl) (by kernel_rfl) (by kernel_rfl) (by kernel_rfl) (fun _ _ _ h => h) (Or.inl ⟨by rfl, ?hy⟩) hS0 ?_
    case hy => first | (intro w hSw; go_simp; done) | (intro w hSw; go_simp; with_reducible rfl)
    simp only [Act.put, List.setIfInBounds_toArray, List.set_cons_zero, List.set_cons_succ]
    refine WT.take 16 (v := ?_) rfl (by kernel_rfl) (by kernel_rfl) (by kernel_rfl) (by kernel_rfl) (fun _ _ _ h => h) (Or.inl ⟨by rfl, ?hy⟩) hS0 ?_
    case hy => first | (intro w hSw; go_simp; done) | (intro w hSw; go_simp; with_reducible rfl)
    simp only [Act.put, List.setIfInBounds_toArray, List.set_cons_zero, List.set_cons_succ]
    refine WT.step 12 rfl (by kernel_rfl) (by decide) fun K hK => ?_
    go_simp
    have hS3 := And.intro (cell_al HC.out.1 (.cells #[] 5)) (And.intro (cell_al HC.out.2.1 (.cells #[] 5)) (cell_al HC.out.2.2 (.cells #[] 5)))
    clear hS0
    refine hK.out _ _ hS3 ?_
    clear hK K
    refine WT.step 17 rfl (by kernel_rfl) (by decide) fun K hK => ?_
    refine step_app _ (by rfl) (.tmp 170) (.tmp 174) 22 (by rfl) wz.heap.size 5 i1 _ 1 1 Try.underlying22 hi1 hz1 hs1 hy1 rfl (by omega) (.slice (some ⟨wz.heap.size, 0, none⟩) 0 0) 0 [] (by rfl) (own_empty wz wz.heap.size 5 1 (Nat.le_refl _)) (wz.alloc (.cells #[] 5)).heap.size xn q cn (bv (now.take q)) (by rfl) (by rw [bv_len, HT.out, Nat.mul_one]) (rd_low (rd_take HZ.out.2.2.2.2 q) (Below.al wz (.cells #[] 5))) (one_bv _) (by unfold maxLen; omega) (by omega) (by simp) ?_
    intro v4 w4 hown4 hg4 hor4
    have hb4 : Below wz.heap.size wz w4 := Below.grown ((Below.refl _ _).alloc (Nat.le_refl _) _) hg4 (by simp) (fun j e => by simp [Value.ownBlock] at e; omega)
    have hS4 := And.intro (cell_kept HC.out.1 hb4) (And.intro (cell_kept HC.out.2.1 hb4) (cell_kept HC.out.2.2 hb4))
    have H4 := Lib.hid (And.intro hb4 (show w4.ownsRow wz.heap.size 5 1 v4 (0 + q) (bv (now.take q)) from hown4))
    clear hS3 hown4 hg4 hor4 hb4
    go_simp
    refine hK.out _ _ hS4 ?_
    clear hK K
    have H5 := Lib.hid (And.intro H4.out.1 (show w4.ownsRow wz.heap.size 5 1 v4 (now.take q).length (bv (now.take q)) by have := H4.out.2; rw [Nat.zero_add] at this; rw [HT.out]; exact this))
    have hS5 := hS4
    clear hS4
    obtain ⟨q5, hq5⟩ : ∃ q5, (now.take q).length = q5 := ⟨_, rfl⟩
    obtain ⟨b5, c5, hv5⟩ := row_slice H5.out.2
    rw [hq5] at hv5 H5
    subst hv5
    have HQ := Lib.hid hq5
    clear hq5
    refine WT.step 18 rfl (by kernel_rfl) (by decide) fun K hK => ?_
    go_simp
    have hS6 := And.intro (cell_al hS5.1 (.cells #[(.slice b5 q5 c5)] 22)) (And.intro (cell_al hS5.2.1 (.cells #[(.slice b5 q5 c5)] 22)) (cell_al hS5.2.2 (.cells #[(.slice b5 q5 c5)] 22)))
    clear hS5
    refine hK.out _ _ hS6 ?_
    clear hK K
    refine WT.step 19 rfl (by kernel_rfl) (by decide) fun K hK => ?_
    refine step_app _ (by rfl) (.tmp 169) (.tmp 176) 110 (by rfl) 0 22 j1 _ 1 24 Try.underlying110 hj1 kz1 ks1 ky1 rfl (by omega) (.slice (some ⟨gu, 0, none⟩) m cu) m us (by rfl) (by have := ((HZ.out.2.2.1.keep (L' := L) (by omega) H5.out.1 (fun _ _ => rfl)).keep (L' := L) (by omega) (Below.al w4 (.cells #[(.slice b5 q5 c5)] 22)) (fun _ _ => rfl)).r; rw [HU.out.2.2.2.1] at this; exact this) (w4.heap.size + 1) (some ⟨w4.heap.size, 0, none⟩) 1 1 [(.slice b5 q5 c5)] (by rfl) (by rfl) (rd_new _ _ _) (by simp [Value.oneCell']) (by unfold maxLen; omega) (by omega) (Nat.zero_le _) ?_
    intro v7 w7 hown7 hg7 hor7
    obtain ⟨b7, c7, hv7⟩ := row_slice hown7
    subst hv7
    have hb6 : Below wz.heap.size wz (w4.alloc (.cells #[(.slice b5 q5 c5)] 22)) := H5.out.1.trans ((Below.al w4 _).mono H5.out.1.size)
    have hS7 := And.intro (cell_grow HC.out.1 hb6 hg7 HN.out.1) (And.intro (cell_grow HC.out.2.1 hb6 hg7 HN.out.2.1) (cell_grow HC.out.2.2 hb6 hg7 HN.out.2.2.1))
    have hfz : w7.frozen? ⟨gF, f, none⟩ = false := by
      have hr := HZ.out.2.1.F.r
      rw [HU.out.1] at hr
      exact grow_free hr HU.out.2.2.1 hb6 hg7 HN.out.2.1
    have H7 := Lib.hid (HZ.out.2.1.growF (y := now.take q) hv HU.out.2.2.1 HZ.out.2.2.1 H5.out.1 (by rw [HQ.out]; exact H5.out.2) (by rw [HU.out.2.2.2.1]; exact hown7) hg7 hor7)
    clear hS6 hown7 hg7 hor7 hb6
    go_simp
    refine hK.out _ _ hS7 ?_
    clear hK K
    refine WT.take 20 (v := ?_) rfl (by kernel_rfl) (by kernel_rfl) (by kernel_rfl) (by kernel_rfl) (fun _ _ _ h => h) (Or.inl ⟨by rfl, ?hy⟩) hS7 ?_
    case hy => first | (intro w hSw; go_simp; done) | (intro w hSw; go_simp; with_reducible rfl)
    simp only [Act.put, List.setIfInBounds_toArray, List.set_cons_zero, List.set_cons_succ]
    refine WT.last 21 rfl (by kernel_rfl) rfl fun K hK => ?_
    go_simp
    refine hK.out _ _ ?_
    clear hK K
    refine WT.done (by kernel_rfl) ?_
    have hdo := hS7.2.1
    go_wp2_with fail
    go_meet
    case rel =>
      obtain ⟨L7, q1, q2⟩ := H7.out
      exact ⟨rfl, L7, _, q1, (Ex.below HZ.out.1 L).trans q2⟩
  case rest =>
    obtain ⟨rfl, L3, uF3, hP3, hE3⟩ := hcut
    have hX4 : Box wc w.heap.size 44 #[.int .i64 3, .string nm, .string nt, .int .i64 x, .int .i64 (q : Nat), .slice A nb c, .slice A2 np c2] := HX3.out.chg hE3.chg fun e => e HN.out.2.2.2.2.1
    have hxd := hX4.cell
    go_upto_region 25 with fail
    obtain ⟨wz, hwz⟩ : ∃ wz, wc.drew = wz := ⟨_, rfl⟩
    have hbz : Below wc.heap.size wc wz := by rw [← hwz]; exact below_drew (Below.refl _ _)
    have hPz := hP3.next hbz
    have hXz := hX4.next hbz
    obtain ⟨gG, nG, cG, ug, rfl, hnG, hfG, hLG, hug, hGr, hg1, hgf, hgz⟩ := hPz.grow_ hg
    obtain ⟨ub, uc, hub⟩ := row_slice hGr.1
    subst hub
    have hgl : gv.length ≤ 999999999999 := hgm
    obtain ⟨mg, hmg⟩ : ∃ mg, gv.length = mg := ⟨_, rfl⟩
    rw [hmg] at hgl hgf hug hGr
    have hg2 : (f : Int) < nG := by omega
    have hlp := hPz.lp
    have hl0 : L3 w.heap.size = 0 := Classical.byContradiction fun e => by
      rcases hE3.new _ e with h1 | h1
      · exact h1 HN.out.2.2.2.2.1
      · have := HX3.out.lt; omega
    have hn1 : some pp ≠ (Value.slice ub mg uc).ownBlock := fun e => by have := hGr.2 pp e.symm; omega
    have hn2 : some gG ≠ (Value.slice ub mg uc).ownBlock := fun e => by have := hGr.2 gG e.symm; omega
    have hn3 : some w.heap.size ≠ (Value.slice ub mg uc).ownBlock := fun e => by have := hGr.2 _ e.symm; omega
    have hc5 : wz.cell? ⟨w.heap.size, 4, none⟩ = some (.int .i64 (q : Nat)) := hXz.cell 4
    have hS0 : wz.cell? ⟨pp, 1, none⟩ = some (.slice (some ⟨gG, 0, none⟩) nG cG) ∧ wz.cell? ⟨gG, f, none⟩ = some (.slice ub mg uc) ∧ wz.cell? ⟨w.heap.size, 4, none⟩ = some (.int .i64 (q : Nat)) := ⟨hg1, hgf, hc5⟩
    have HC2 := Lib.hid hS0
    have HN2 := Lib.hid (And.intro hn1 (And.intro hn2 hn3))
    have HG := Lib.hid (And.intro hbz (And.intro hPz (And.intro hnG (And.intro hug (And.intro hGr.1 (And.intro hE3 hmg))))))
    clear hP3 hE3 hX4 hxd hbz hPz hXz hnG hug hGr hg1 hgf hgz hlp hl0 hn1 hn2 hn3 hc5 hLG hmg
    refine WT.start (fun w' : World => w'.cell? ⟨pp, 1, none⟩ = some (.slice (some ⟨gG, 0, none⟩) nG cG) ∧ w'.cell? ⟨gG, f, none⟩ = some (.slice ub mg uc) ∧ w'.cell? ⟨w.heap.size, 4, none⟩ = some (.int .i64 (q : Nat))) 15 (by kernel_rfl) ?_
    rw [hwz]
    clear hwz
    refine WT.take 0 (v := ?_) rfl (by kernel_rfl) (by kernel_rfl) (by kernel_rfl) (by kernel_rfl) (fun _ _ _ h => h) (Or.inl ⟨by rfl, ?hy⟩) hS0 ?_
    case hy => first | (intro w hSw; go_simp; done) | (intro w hSw; go_simp; with_reducible rfl)
    simp only [Act.put, List.setIfInBounds_toArray, List.set_cons_zero, List.set_cons_succ]
    refine WT.take 1 (v := ?_) rfl (by kernel_rfl) (by kernel_rfl) (by kernel_rfl) (by kernel_rfl) (fun _ _ _ h => h) (Or.inl ⟨by rfl, ?hy⟩) hS0 ?_
    case hy => first | (intro w hSw; go_simp; done) | (intro w hSw; go_simp; with_reducible rfl)
    simp only [Act.put, List.setIfInBounds_toArray, List.set_cons_zero, List.set_cons_succ]
    refine WT.take 2 (v := ?_) rfl (by kernel_rfl) (by kernel_rfl) (by kernel_rfl) (by kernel_rfl) (fun _ _ _ h => h) (Or.inl ⟨by rfl, ?hy⟩) hS0 ?_
    case hy => first | (intro w hSw; go_simp; done) | (intro w hSw; go_simp; with_reducible rfl)
    simp only [Act.put, List.setIfInBounds_toArray, List.set_cons_zero, List.set_cons_succ]
    refine WT.take 3 (v := ?_) rfl (by kernel_rfl) (by kernel_rfl) (by kernel_rfl) (by kernel_rfl) (fun _ _ _ h => h) (Or.inl ⟨by rfl, ?hy⟩) hS0 ?_
    case hy => first | (intro w hSw; go_simp; done) | (intro w hSw; go_simp; with_reducible rfl)
    simp only [Act.put, List.setIfInBounds_toArray, List.set_cons_zero, List.set_cons_succ]
    refine WT.take 4 (v := ?_) rfl (by kernel_rfl) (by kernel_rfl) (by kernel_rfl) (by kernel_rfl) (fun _ _ _ h => h) (Or.inl ⟨by rfl, ?hy⟩) hS0 ?_
    case hy => first | (intro w hSw; go_simp; done) | (intro w hSw; go_simp; with_reducible rfl)
    simp only [Act.put, List.setIfInBounds_toArray, List.set_cons_zero, List.set_cons_succ]
    refine WT.take 5 (v := ?_) rfl (by kernel_rfl) (by kernel_rfl) (by kernel_rfl) (by kernel_rfl) (fun _ _ _ h => h) (Or.inl ⟨by rfl, ?hy⟩) hS0 ?_
    case hy => first | (intro w hSw; go_simp; done) | (intro w hSw; go_simp; with_reducible rfl)
    simp only [Act.put, List.setIfInBounds_toArray, List.set_cons_zero, List.set_cons_succ]
    refine WT.take 6 (v := ?_) rfl (by kernel_rfl) (by kernel_rfl) (by kernel_rfl) (by kernel_rfl) (fun _ _ _ h => h) (Or.inl ⟨by rfl, ?hy⟩) hS0 ?_
    case hy => first | (intro w hSw; go_simp; done) | (intro w hSw; go_simp; with_reducible rfl)
    simp only [Act.put, List.setIfInBounds_toArray, List.set_cons_zero, List.set_cons_succ]
    refine WT.take 7 (v := ?_) rfl (by kernel_rfl) (by kernel_rfl) (by kernel_rfl) (by kernel_rfl) (fun _ _ _ h => h) (Or.inl ⟨by rfl, ?hy⟩) hS0 ?_
    case hy => first | (intro w hSw; go_simp; done) | (intro w hSw; go_simp; with_reducible rfl)
    simp only [Act.put, List.setIfInBounds_toArray, List.set_cons_zero, List.set_cons_succ]
    refine WT.take 8 (v := ?_) rfl (by kernel_rfl) (by kernel_rfl) (by kernel_rfl) (by kernel_rfl) (fun _ _ _ h => h) (Or.inl ⟨by rfl, ?hy⟩) hS0 ?_
    case hy => first | (intro w hSw; go_simp; done) | (intro w hSw; go_simp; with_reducible rfl)
    simp only [Act.put, List.setIfInBounds_toArray, List.set_cons_zero, List.set_cons_succ]
    refine WT.take 9 (v := ?_) rfl (by kernel_rfl) (by kernel_rfl) (by kernel_rfl) (by kernel_rfl) (fun _ _ _ h => h) (Or.inl ⟨by rfl, ?hy⟩) hS0 ?_
    case hy => first | (intro w hSw; go_simp; done) | (intro w hSw; go_simp; with_reducible rfl)
    simp only [Act.put, List.setIfInBounds_toArray, List.set_cons_zero, List.set_cons_succ]
    refine WT.take 10 (v := ?_) rfl (by kernel_rfl) (by kernel_rfl) (by kernel_rfl) (by kernel_rfl) (fun _ _ _ h => h) (Or.inl ⟨by rfl, ?hy⟩) hS0 ?_
    case hy => first | (intro w hSw; go_simp; done) | (intro w hSw; go_simp; with_reducible rfl)
    simp only [Act.put, List.setIfInBounds_toArray, List.set_cons_zero, List.set_cons_succ]
    refine WT.take 11 (v := ?_) rfl (by kernel_rfl) (by kernel_rfl) (by kernel_rfl) (by kernel_rfl) (fun _ _ _ h => h) (Or.inl ⟨by rfl, ?hy⟩) hS0 ?_
    case hy => first | (intro w hSw; go_simp; done) | (intro w hSw; go_simp; with_reducible rfl)
    simp only [Act.put, List.setIfInBounds_toArray, List.set_cons_zero, List.set_cons_succ]
    refine WT.step 12 rfl (by kernel_rfl) (by decide) fun K hK => ?_
    go_simp
    have hS6 := And.intro (cell_al HC2.out.1 (.cells #[.int .i64 (-1)] 3)) (And.intro (cell_al HC2.out.2.1 (.cells #[.int .i64 (-1)] 3)) (cell_al HC2.out.2.2 (.cells #[.int .i64 (-1)] 3)))
    clear hS0
    refine hK.out _ _ hS6 ?_
    clear hK K
    refine WT.step 13 rfl (by kernel_rfl) (by decide) fun K hK => ?_
    refine step_app _ (by rfl) (.tmp 190) (.tmp 191) 23 (by rfl) 0 3 k1 _ 1 8 Try.underlying23 hk1 lz1 ls1 ly1 rfl (by omega) (.slice ub mg uc) mg (gv.map (Value.int .i64)) (by rfl) (by have := HG.out.2.2.2.2.1; rw [HG.out.2.2.2.2.2.2] at this; exact this.alloc _) (wz.heap.size + 1) (some ⟨wz.heap.size, 0, none⟩) 1 1 [.int .i64 (-1)] (by rfl) (by rfl) (rd_new _ _ _) (by simp [Value.oneCell']) (by unfold maxLen; omega) (by omega) (Nat.zero_le _) ?_
    intro v7 w7 hown7 hg7 hor7
    obtain ⟨b7, c7, hv7⟩ := row_slice hown7
    subst hv7
    have hb6 : Below wz.heap.size wz (wz.alloc (.cells #[.int .i64 (-1)] 3)) := Below.al wz _
    have hS7 := And.intro (cell_grow HC2.out.1 hb6 hg7 HN2.out.1) (And.intro (cell_grow HC2.out.2.1 hb6 hg7 HN2.out.2.1) (cell_grow HC2.out.2.2 hb6 hg7 HN2.out.2.2))
    have hfz : w7.frozen? ⟨gG, f, none⟩ = false := by
      have hr := HG.out.2.1.G.r
      rw [HG.out.2.2.1] at hr
      exact grow_free hr HG.out.2.2.2.1 hb6 hg7 HN2.out.2.1
    have H7 := Lib.hid (HG.out.2.1.growG hg HG.out.2.2.2.1 (by rw [HG.out.2.2.2.2.2.2]; exact hown7) hg7 hor7)
    clear hS6 hown7 hg7 hor7 hb6
    go_simp
    refine hK.out _ _ hS7 ?_
    clear hK K
    refine WT.take 14 (v := ?_) rfl (by kernel_rfl) (by kernel_rfl) (by kernel_rfl) (by kernel_rfl) (fun _ _ _ h => h) (Or.inl ⟨by rfl, ?hy⟩) hS7 ?_
    case hy => first | (intro w hSw; go_simp; done) | (intro w hSw; go_simp; with_reducible rfl)
    simp only [Act.put, List.setIfInBounds_toArray, List.set_cons_zero, List.set_cons_succ]
    refine WT.last 15 rfl (by kernel_rfl) rfl fun K hK => ?_
    go_simp
    refine hK.out _ _ ?_
    clear hK K
    refine WT.done (by kernel_rfl) ?_
    have hdo := hS7.2.1
    go_wp2_with fail
    go_ret
    obtain ⟨L7, q1, q2⟩ := H7.out
    exact ⟨rfl, L7, ⟨_, _, _, _, _, _, q1⟩, ((Ex.below H3.out.2.1 L).trans HG.out.2.2.2.2.2.1).trans ((Ex.below HG.out.1 L3).trans q2)⟩
end Go.Proofs.Ytomkieennkobcaa
