import Derived.Test.YtifimeohdgnehaaHof3
import Derived.Test.YtifimeohdgnehaaDrw
namespace Go.Proofs.Ytifimeohdgnehaa
open Go.RowKit Go.Maps

theorem step_app {P : Program} {w : World} {o : Oper} {a : Act} {K : Act → World → Prop} {Q : Exit → Act → World → Prop} (s x : Operand) (t : TypeId)
    (hop : o.op = Op.call { callee := Callee.builtin Builtin.append, args := #[s, x], argTypes := #[t, t] })
    (base : Nat) (e : TypeId) (i : TypeInfo) (z : Value) (size bytes : Nat) (ht : P.underlying t = some (.slice e)) (hi : P.info? e = some i) (hz : i.zero = some z)
    (hsize : i.size = size) (hby : i.bytes = bytes) (hzs : z.cells.size = size) (hsz : 0 < size)
    (v : Value) (k : Nat) (xs : List Value) (hs : a.eval s = v) (hown : w.ownsRow base e size v k xs)
    (B : Nat) (A : Option Addr) (m c : Nat) (news : List Value) (hx : a.eval x = .slice A m c) (hl : news.length = m * size) (hr : Rd w B A news) (h1 : ∀ u ∈ news, u.oneCell' = true)
    (h63 : k + m ≤ maxLen) (hbytes : (k + m) * bytes ≤ 140737488355328) (hbase : base ≤ w.heap.size)
    (h : ∀ v' w', w'.ownsRow base e size v' (k + m) (xs ++ news) → w.grownBy w' v.ownBlock → (v'.ownBlock = v.ownBlock ∨ v'.ownBlock = some w.heap.size) → K (a.put o.dst v') w') :
    Oper.wp P o a w K Q := by
  obtain ⟨v', w', hrun, r1, r2, r3⟩ := run_app (P := P) w base t o.type e i z size bytes ht hi hz hsize hby hzs hsz v k xs hown B A m c news hl hr h1 h63 hbytes hbase
  unfold Oper.wp execOp
  simp only [hop, resolve, invoke, builtin, Sem.run_bind, Sem.run_pure, Result.andThen_ok, List.map_toArray, List.map_cons, List.map_nil, hs, hx, hrun]
  exact h _ _ r1 r2 r3

theorem key_iff (a b : ByteArray) : (a.toList == b.toList) = true ↔ a = b := by
  constructor
  · intro h
    rw [beq_iff_eq, ByteArray.toList_eq, ByteArray.toList_eq] at h
    exact WideShapes.bytes_inj h
  · rintro rfl; exact beq_self_eq_true _

set_option maxRecDepth 100000 in
set_option maxHeartbeats 8000000 in
theorem refOf (seg size : Int) (A : Option Addr) (n c m : Nat) (l : List PL) (E : List HE) (w : World) (hE : hofE l n = E) (hm : E.length = m) (hA : Rd w w.heap.size A (l.flatMap nine)) (hn : l.length = n)
    (hmx : n ≤ 1599289640354) :
    Calls Try.prog 17 #[.int .i64 seg, .int .i64 size, .slice A n c] w fun e w' => ∃ b cap, e = .returned (hV seg size (.slice b m cap)) ∧ ER w.heap.size w'.heap.size w' b m cap E ∧ Below w.heap.size w w' := by
  obtain ⟨i1, hi1, hz1, hs1, hy1⟩ := info_parts info_he
  have hb0 : Below w.heap.size w (w.alloc (.cells #[.int .i64 0, .int .i64 0, .slice none 0 0] 24)) := (Below.refl _ _).alloc (Nat.le_refl _) _
  have HB0 := Lib.hid (And.intro hb0 (Box.new w 24 #[.int .i64 0, .int .i64 0, .slice none 0 0]))
  have HEE := Lib.hid (And.intro hE hm)
  have HA0 := Lib.hid ((hA.below hb0).mono (by simp : w.heap.size ≤ w.heap.size + 1))
  have Hn := Lib.hid hn
  have HS0 := HW.start (w.alloc (.cells #[.int .i64 0, .int .i64 0, .slice none 0 0] 24)) seg size
  rw [World.size_alloc] at HS0
  have HS := Lib.hid HS0
  clear hb0 hE hm hA hn HS0
  go_enter Try.func17, Try.ntmps17
  go_wp2
  go_loopw [8] (fun iv wr => ∃ (k ce : Nat) (be : Option Addr), k ≤ n ∧ iv = .int .i64 k ∧ HW (w.heap.size + 1) seg size be (ixs l n k).length ce ((ixs l n k).map fun i => ent (pth l i)) (w.alloc (.cells #[.int .i64 0, .int .i64 0, .slice none 0 0] 24)) wr)
    (fun iv _ => n - (intOf iv).toNat)
  case atStart => exact ⟨0, 0, none, Nat.zero_le _, rfl, HS.out⟩
  case round =>
    clear HS
    obtain ⟨k, ce, be, hk, rfl, hW⟩ := hrel
    have DS := Lib.hid hW
    by_cases hlt : k < n
    · have hkl : k < l.length := by rw [Hn.out]; exact hlt
      clear hW
      go_wp2
      go_loopw [9, 10] (fun bv iv wx => ∃ (j : Nat) (b : Bool), k + 1 ≤ j ∧ j ≤ n ∧ iv = .int .i64 j ∧ bv = .bool b ∧ (b = true ↔ lastI l j k) ∧
          HW (w.heap.size + 1) seg size be (ixs l n k).length ce ((ixs l n k).map fun i => ent (pth l i)) (w.alloc (.cells #[.int .i64 0, .int .i64 0, .slice none 0 0] 24)) wx)
        (fun _ iv _ => n - (intOf iv).toNat)
      case atStart => exact ⟨k + 1, true, Nat.le_refl _, by omega, by go_num, rfl, ⟨fun _ => lastI_self l k, fun _ => rfl⟩, DS.out⟩
      case round =>
        clear DS
        obtain ⟨j, b, hkj, hj, rfl, rfl, hbl, hW⟩ := hrel
        have DS := Lib.hid hW
        have HBL := Lib.hid hbl
        clear hW hbl
        by_cases hjn : j < n
        · have hjl : j < l.length := by rw [Hn.out]; exact hjn
          obtain ⟨ad, rfl, hadb, _, _, _, _, _, q5, _, _, _⟩ := (HA0.out.below DS.out.below).nine_ hjl
          obtain ⟨ad2, e2, _, _, _, _, _, _, p5, _, _, _⟩ := (HA0.out.below DS.out.below).nine_ hkl
          cases e2
          rw [← pth_eq hjl] at q5
          rw [← pth_eq hkl] at p5
          have HLS := Lib.hid (lastI_step (l := l) (i := k) (k := j) (by omega))
          have hki := key_iff (pth l j).key (pth l k).key
          have HKI := Lib.hid hki
          clear hki
          cases b with
          | false =>
            go_wp2
            go_quiet (fail)
            go_wp2
            go_roundw
            case rel => exact ⟨j + 1, false, by omega, by omega, by go_num, rfl, ⟨fun h => (by cases h), fun h => HBL.out.2 (HLS.out.1 h).1⟩, DS.out.drewN _⟩
            case measure => simp [intOf]; omega
          | true =>
            go_wp2
            go_quiet (fail)
            go_wp2
            go_roundw
            case rel =>
              refine ⟨j + 1, _, by omega, by omega, by go_num, rfl, ?_, DS.out.drewN _⟩
              rw [HLS.out]
              have hb : lastI l j k := by simpa using HBL.out
              by_cases he : (pth l j).key = (pth l k).key
              · simp [he]
              · have := key_ne he
                simp [this, he, hb]
            case measure => simp [intOf]; omega
        · have hje : j = n := by omega
          subst hje
          cases b with
          | false =>
            have hno : ¬ lastI l j k := fun h => by have := HBL.out.2 h; cases this
            go_wp2
            go_roundw
            case rel => exact ⟨k + 1, ce, be, by omega, by go_num, by rw [ixs_no hno]; exact DS.out⟩
            case measure => simp [intOf]; omega
          | true =>
            have hye : lastI l j k := by simpa using HBL.out
            have HIX := Lib.hid (ixs_yes hye)
            have hlen := ixs_len l j k
            obtain ⟨ad, rfl, hadb, p0, p1, p2, p3, p4, p5, p6, p7, p8⟩ := (HA0.out.below DS.out.below).nine_ hkl
            rw [← pth_eq hkl] at p0 p1 p2 p3 p4 p5 p6 p7 p8
            have HEN := Lib.hid (show ((ixs l j (k + 1)).map fun i => ent (pth l i)) = ((ixs l j k).map fun i => ent (pth l i)) ++ [ent (pth l k)] by rw [HIX.out, List.map_append]; rfl)
            have HLN := Lib.hid (show (ixs l j (k + 1)).length = (ixs l j k).length + 1 by rw [HIX.out, List.length_append]; rfl)
            obtain ⟨wy, hwy⟩ : ∃ wy, wy = wr := ⟨wr, rfl⟩
            subst hwy
            have hSt : Hid (∀ W, HW (w.heap.size + 1) seg size be (ixs l j k).length ce ((ixs l j k).map fun i => ent (pth l i)) (w.alloc (.cells #[.int .i64 0, .int .i64 0, .slice none 0 0] 24)) W → Box W wy.heap.size 43 #[.int .i64 (pth l k).kind, .int .i64 (pth l k).off, .int .i64 (pth l k).time, .int .i64 (pth l k).pid, .int .i64 (pth l k).sq, .string (pth l k).key, .string (pth l k).val] → (fun w' : World => w'.cell? ⟨w.heap.size + 1, 2, none⟩ = some (.slice be (ixs l j k).length ce) ∧ w'.cell? ⟨wy.heap.size, 0, none⟩ = some (.int .i64 (pth l k).kind) ∧ w'.cell? ⟨wy.heap.size, 1, none⟩ = some (.int .i64 (pth l k).off) ∧ w'.cell? ⟨wy.heap.size, 2, none⟩ = some (.int .i64 (pth l k).time) ∧ w'.cell? ⟨wy.heap.size, 5, none⟩ = some (.string (pth l k).key) ∧ w'.cell? ⟨(ad.add (k * 9)).block, (ad.add (k * 9)).off + 7, none⟩ = some (.int .i64 (pth l k).pos) ∧ w'.cell? ⟨(ad.add (k * 9)).block, (ad.add (k * 9)).off + 8, none⟩ = some (.int .i64 (pth l k).len)) W) := by
              intro W h1 h2
              obtain ⟨ad2, e2, _, _, _, _, _, _, _, _, r7, r8⟩ := (HA0.out.below h1.below).nine_ hkl
              cases e2
              rw [← pth_eq hkl] at r7 r8
              exact ⟨h1.box.cell 2, h2.cell 0, h2.cell 1, h2.cell 2, h2.cell 5, r7, r8⟩
            have hyl := DS.out.box.lt
            have hi0 : (0 : Int) ≤ k := by omega
            have hik : (k : Int) < j := by omega
            go_wp2
            obtain ⟨W8, hW8⟩ : ∃ W8, (wy.alloc (.cells #[.int .i64 (pth l k).kind, .int .i64 (pth l k).off, .int .i64 (pth l k).time, .int .i64 (pth l k).pid, .int .i64 (pth l k).sq, .string (pth l k).key, .string (pth l k).val] 43)).drew = W8 := ⟨_, rfl⟩
            have hd8 := (DS.out.al (.cells #[.int .i64 (pth l k).kind, .int .i64 (pth l k).off, .int .i64 (pth l k).time, .int .i64 (pth l k).pid, .int .i64 (pth l k).sq, .string (pth l k).key, .string (pth l k).val] 43)).drew
            have hx8 := (Box.new wy 43 #[.int .i64 (pth l k).kind, .int .i64 (pth l k).off, .int .i64 (pth l k).time, .int .i64 (pth l k).pid, .int .i64 (pth l k).sq, .string (pth l k).key, .string (pth l k).val]).drew
            rw [hW8] at hd8 hx8
            have hS0 := hSt.out W8 hd8 hx8
            have D8 := Lib.hid (And.intro hd8 hx8)
            have hyl8 : wy.heap.size < W8.heap.size := hx8.lt
            have hbl8 := hd8.box.lt
            clear hd8 hx8
            refine WT.start (fun w' : World => w'.cell? ⟨w.heap.size + 1, 2, none⟩ = some (.slice be (ixs l j k).length ce) ∧ w'.cell? ⟨wy.heap.size, 0, none⟩ = some (.int .i64 (pth l k).kind) ∧ w'.cell? ⟨wy.heap.size, 1, none⟩ = some (.int .i64 (pth l k).off) ∧ w'.cell? ⟨wy.heap.size, 2, none⟩ = some (.int .i64 (pth l k).time) ∧ w'.cell? ⟨wy.heap.size, 5, none⟩ = some (.string (pth l k).key) ∧ w'.cell? ⟨(ad.add (k * 9)).block, (ad.add (k * 9)).off + 7, none⟩ = some (.int .i64 (pth l k).pos) ∧ w'.cell? ⟨(ad.add (k * 9)).block, (ad.add (k * 9)).off + 8, none⟩ = some (.int .i64 (pth l k).len)) 25 (by kernel_rfl) ?_
            rw [hW8]
            clear hW8
            refine WT.take 0 (v := ?_) rfl (by kernel_rfl) (by kernel_rfl) (by kernel_rfl) (by kernel_rfl) (fun _ _ _ h => h) (Or.inl ⟨by rfl, ?hy⟩) hS0 ?_
            case hy => first | (intro w hSw; go_simp; done) | (intro w hSw; go_simp; with_reducible rfl)
            simp only [Act.put, List.setIfInBounds_toArray, List.set_cons_zero, List.set_cons_succ]
            refine WT.take 1 (v := ?_) rfl (by kernel_rfl) (by kernel_rfl) (by kernel_rfl) (by kernel_rfl) (fun _ _ _ h => h) (Or.inl ⟨by rfl, ?hy⟩) hS0 ?_
            case hy => first | (intro w hSw; go_simp; done) | (intro w hSw; go_simp; with_reducible rfl)
            simp only [Act.put, List.setIfInBounds_toArray, List.set_cons_zero, List.set_cons_succ]
            refine WT.take 2 (v := ?_) rfl (by kernel_rfl) (by kernel_rfl) (by kernel_rfl) (by kernel_rfl) (fun _ _ _ h => h) (Or.inl ⟨by rfl, ?hy⟩) hS0 ?_
            case hy => first | (intro w hSw; go_simp; done) | (intro w hSw; go_simp; with_reducible rfl)
            simp only [Act.put, List.setIfInBounds_toArray, List.set_cons_zero, List.set_cons_succ]
            refine WT.take 3 (v := ?_) rfl (by kernel_rfl) (by kernel_rfl) (by kernel_rfl) (by kernel_rfl) (fun _ _ _ h => h) (Or.inl ⟨by rfl, ?hy⟩) hS0 ?_
            case hy => first | (intro w hSw; go_simp; done) | (intro w hSw; go_simp; with_reducible rfl)
            simp only [Act.put, List.setIfInBounds_toArray, List.set_cons_zero, List.set_cons_succ]
            refine WT.take 4 (v := ?_) rfl (by kernel_rfl) (by kernel_rfl) (by kernel_rfl) (by kernel_rfl) (fun _ _ _ h => h) (Or.inl ⟨by rfl, ?hy⟩) hS0 ?_
            case hy => first | (intro w hSw; go_simp; done) | (intro w hSw; go_simp; with_reducible rfl)
            simp only [Act.put, List.setIfInBounds_toArray, List.set_cons_zero, List.set_cons_succ]
            refine WT.take 5 (v := ?_) rfl (by kernel_rfl) (by kernel_rfl) (by kernel_rfl) (by kernel_rfl) (fun _ _ _ h => h) (Or.inl ⟨by rfl, ?hy⟩) hS0 ?_
            case hy => first | (intro w hSw; go_simp; done) | (intro w hSw; go_simp; with_reducible rfl)
            simp only [Act.put, List.setIfInBounds_toArray, List.set_cons_zero, List.set_cons_succ]
            refine WT.take 6 (v := ?_) rfl (by kernel_rfl) (by kernel_rfl) (by kernel_rfl) (by kernel_rfl) (fun _ _ _ h => h) (Or.inl ⟨by rfl, ?hy⟩) hS0 ?_
            case hy => first | (intro w hSw; go_simp; done) | (intro w hSw; go_simp; with_reducible rfl)
            simp only [Act.put, List.setIfInBounds_toArray, List.set_cons_zero, List.set_cons_succ]
            refine WT.take 7 (v := ?_) rfl (by kernel_rfl) (by kernel_rfl) (by kernel_rfl) (by kernel_rfl) (fun _ _ _ h => h) (Or.inl ⟨by rfl, ?hy⟩) hS0 ?_
            case hy => first | (intro w hSw; go_simp; done) | (intro w hSw; go_simp; with_reducible rfl)
            simp only [Act.put, List.setIfInBounds_toArray, List.set_cons_zero, List.set_cons_succ]
            refine WT.take 8 (v := ?_) rfl (by kernel_rfl) (by kernel_rfl) (by kernel_rfl) (by kernel_rfl) (fun _ _ _ h => h) (Or.inl ⟨by rfl, ?hy⟩) hS0 ?_
            case hy => first | (intro w hSw; go_simp; done) | (intro w hSw; go_simp; with_reducible rfl)
            simp only [Act.put, List.setIfInBounds_toArray, List.set_cons_zero, List.set_cons_succ]
            refine WT.take 9 (v := ?_) rfl (by kernel_rfl) (by kernel_rfl) (by kernel_rfl) (by kernel_rfl) (fun _ _ _ h => h) (Or.inl ⟨by rfl, ?hy⟩) hS0 ?_
            case hy => first | (intro w hSw; go_simp; done) | (intro w hSw; go_simp; with_reducible rfl)
            simp only [Act.put, List.setIfInBounds_toArray, List.set_cons_zero, List.set_cons_succ]
            refine WT.take 10 (v := ?_) rfl (by kernel_rfl) (by kernel_rfl) (by kernel_rfl) (by kernel_rfl) (fun _ _ _ h => h) (Or.inl ⟨by rfl, ?hy⟩) hS0 ?_
            case hy => first | (intro w hSw; go_simp; done) | (intro w hSw; go_simp; with_reducible rfl)
            simp only [Act.put, List.setIfInBounds_toArray, List.set_cons_zero, List.set_cons_succ]
            refine WT.take 11 (v := ?_) rfl (by kernel_rfl) (by kernel_rfl) (by kernel_rfl) (by kernel_rfl) (fun _ _ _ h => h) (Or.inl ⟨by rfl, ?hy⟩) hS0 ?_
            case hy => first | (intro w hSw; go_simp; done) | (intro w hSw; go_simp; with_reducible rfl)
            simp only [Act.put, List.setIfInBounds_toArray, List.set_cons_zero, List.set_cons_succ]
            refine WT.take 12 (v := ?_) rfl (by kernel_rfl) (by kernel_rfl) (by kernel_rfl) (by kernel_rfl) (fun _ _ _ h => h) (Or.inl ⟨by rfl, ?hy⟩) hS0 ?_
            case hy => first | (intro w hSw; go_simp; done) | (intro w hSw; go_simp; with_reducible rfl)
            simp only [Act.put, List.setIfInBounds_toArray, List.set_cons_zero, List.set_cons_succ]
            refine WT.take 13 (v := ?_) rfl (by kernel_rfl) (by kernel_rfl) (by kernel_rfl) (by kernel_rfl) (fun _ _ _ h => h) (Or.inl ⟨by rfl, ?hy⟩) hS0 ?_
            case hy => first | (intro w hSw; go_simp; done) | (intro w hSw; go_simp; with_reducible rfl)
            simp only [Act.put, List.setIfInBounds_toArray, List.set_cons_zero, List.set_cons_succ]
            refine WT.take 14 (v := ?_) rfl (by kernel_rfl) (by kernel_rfl) (by kernel_rfl) (by kernel_rfl) (fun _ _ _ h => h) (Or.inl ⟨by rfl, ?hy⟩) hS0 ?_
            case hy => first | (intro w hSw; go_simp; done) | (intro w hSw; go_simp; with_reducible rfl)
            simp only [Act.put, List.setIfInBounds_toArray, List.set_cons_zero, List.set_cons_succ]
            refine WT.take 15 (v := ?_) rfl (by kernel_rfl) (by kernel_rfl) (by kernel_rfl) (by kernel_rfl) (fun _ _ _ h => h) (Or.inl ⟨by rfl, ?hy⟩) hS0 ?_
            case hy => first | (intro w hSw; go_simp; done) | (intro w hSw; go_simp; with_reducible rfl)
            simp only [Act.put, List.setIfInBounds_toArray, List.set_cons_zero, List.set_cons_succ]
            refine WT.take 16 (v := ?_) rfl (by kernel_rfl) (by kernel_rfl) (by kernel_rfl) (by kernel_rfl) (fun _ _ _ h => h) (Or.inl ⟨by rfl, ?hy⟩) hS0 ?_
            case hy => first | (intro w hSw; go_simp; done) | (intro w hSw; go_simp; with_reducible rfl)
            simp only [Act.put, List.setIfInBounds_toArray, List.set_cons_zero, List.set_cons_succ]
            refine WT.take 17 (v := ?_) rfl (by kernel_rfl) (by kernel_rfl) (by kernel_rfl) (by kernel_rfl) (fun _ _ _ h => h) (Or.inl ⟨by rfl, ?hy⟩) hS0 ?_
            case hy => first | (intro w hSw; go_simp; done) | (intro w hSw; go_simp; with_reducible rfl)
            simp only [Act.put, List.setIfInBounds_toArray, List.set_cons_zero, List.set_cons_succ]
            refine WT.take 18 (v := ?_) rfl (by kernel_rfl) (by kernel_rfl) (by kernel_rfl) (by kernel_rfl) (fun _ _ _ h => h) (Or.inl ⟨by rfl, ?hy⟩) hS0 ?_
            case hy => first | (intro w hSw; go_simp; done) | (intro w hSw; go_simp; with_reducible rfl)
            simp only [Act.put, List.setIfInBounds_toArray, List.set_cons_zero, List.set_cons_succ]
            refine WT.take 19 (v := ?_) rfl (by kernel_rfl) (by kernel_rfl) (by kernel_rfl) (by kernel_rfl) (fun _ _ _ h => h) (Or.inl ⟨by rfl, ?hy⟩) hS0 ?_
            case hy => first | (intro w hSw; go_simp; done) | (intro w hSw; go_simp; with_reducible rfl)
            simp only [Act.put, List.setIfInBounds_toArray, List.set_cons_zero, List.set_cons_succ]
            refine WT.take 20 (v := ?_) rfl (by kernel_rfl) (by kernel_rfl) (by kernel_rfl) (by kernel_rfl) (fun _ _ _ h => h) (Or.inl ⟨by rfl, ?hy⟩) hS0 ?_
            case hy => first | (intro w hSw; go_simp; done) | (intro w hSw; go_simp; with_reducible rfl)
            simp only [Act.put, List.setIfInBounds_toArray, List.set_cons_zero, List.set_cons_succ]
            refine WT.step 21 rfl (by kernel_rfl) (by decide) fun K hK => ?_
            go_simp
            refine hK.out _ _ hS0 ?_
            clear hK K
            refine WT.step 22 rfl (by kernel_rfl) (by decide) fun K hK => ?_
            go_simp
            have hd9 := D8.out.1.al (.cells (six (ent (pth l k))).toArray 33)
            have hx9 := D8.out.2.alloc (.cells (six (ent (pth l k))).toArray 33)
            have hS9 := hSt.out _ hd9 hx9
            have D9 := Lib.hid (And.intro hd9 hx9)
            refine hK.out _ _ hS9 ?_
            clear hK K hd9 hx9 hS0
            refine WT.step 23 rfl (by kernel_rfl) (by decide) fun K hK => ?_
            refine step_app _ _ 22 (by rfl) (w.heap.size + 1 + 1) 33 i1 _ 6 56 Try.underlying22 hi1 hz1 hs1 hy1 rfl (by decide) (.slice be (ixs l j k).length ce) (ixs l j k).length (((ixs l j k).map fun i => ent (pth l i)).flatMap six) (by rfl) D9.out.1.row _ _ 1 1 (six (ent (pth l k))) (by rfl) (by rfl) (rd_new _ _ _) (one_six' _) (by unfold maxLen; omega) (by omega) (by simp; omega) ?_
            intro v' w9 hown hgr hor
            obtain ⟨g, cap, rfl, hcap, hcm, _⟩ := Own.of_row hown (by omega)
            have hrl : ∀ q, (Value.slice be (ixs l j k).length ce).ownBlock = some q → w.heap.size + 1 + 1 ≤ q ∧ q < wy.heap.size := fun q hq => ⟨(D9.out.1.row.lt q hq).1, (DS.out.row.lt q hq).2⟩
            have hd10 := D9.out.1.grow hgr hown
            have hqb := D9.out.1.box.grown hgr (fun e => by have := hrl _ e.symm; omega)
            have hqx := D9.out.2.grown hgr (fun e => by have := hrl _ e.symm; omega)
            have hqw : Below (w.heap.size + 1) (w.alloc (.cells #[.int .i64 0, .int .i64 0, .slice none 0 0] 24)) w9 := D9.out.1.below.grown hgr (by simp; omega) (fun q e => by have := hrl _ e; omega)
            obtain ⟨ad2, e2, _, _, _, _, _, _, _, _, r7, r8⟩ := (HA0.out.below hqw).nine_ hkl
            cases e2
            rw [← pth_eq hkl] at r7 r8
            have hS10 := And.intro (hqb.cell 2) (And.intro (hqx.cell 0) (And.intro (hqx.cell 1) (And.intro (hqx.cell 2) (And.intro (hqx.cell 5) (And.intro r7 r8)))))
            have hqc := hqb.cell
            have hqf := hqb.free
            have hql := hqb.lt
            have D10 := Lib.hid hd10
            clear hd10 hqb hqx hqw r7 r8 hown hgr hor
            go_simp
            refine hK.out _ _ hS10 ?_
            clear hK K
            refine WT.step 24 rfl (by kernel_rfl) (by decide) fun K hK => ?_
            go_simp
            refine hK.out _ _ hS10 ?_
            clear hK K
            refine WT.last 25 rfl (by kernel_rfl) rfl fun K hK => ?_
            go_simp
            refine hK.out _ _ ?_
            clear hK K
            refine WT.done (by kernel_rfl) ?_
            clear hS10 hS9
            go_wp2
            go_roundw
            case rel => exact ⟨k + 1, cap, some ⟨g, 0, none⟩, by omega, by go_num, by rw [HEN.out, HLN.out]; exact D10.out⟩
            case measure => simp [intOf]; omega
    · have hke : k = n := by omega
      subst hke
      have hx6 := HB0.out.2.below hW.below (by omega)
      have hxc := hx6.cell
      have hxf := hx6.free
      have hxl := hx6.lt
      have hbx := hW.box.cell
      have hbl := hW.box.lt
      have hml : (ixs l k k).length = m := by rw [← HEE.out.2, ← HEE.out.1]; simp [hofE]
      have hrow := hW.row
      have hlen := hW.len
      rw [show ((ixs l k k).map fun i => ent (pth l i)) = E from HEE.out.1] at hrow hlen
      rw [hml] at hrow hlen hbx
      have HR := Lib.hid (And.intro hrow hlen)
      clear hW hx6 hrow hlen hml
      go_wp2
      refine bodyPost_ret (v := .agg #[.int .i64 seg, .int .i64 size, .slice be m ce]) ?_ rfl ?_
      · simp [results, Try.results17, go_sem, hxc]
      refine ⟨be, ce, rfl, ER.mk' (ownsRow_le (ownsRow_block HR.out.1 fun j hj => heap_set3 _ _ _ _ _ _ ?_) (by omega)) HR.out.2, ?_⟩
      · have := (HR.out.1.lt j hj).1
        omega
      · exact (((HB0.out.1.trans (DS.out.below.mono (by omega))).setCell (Nat.le_refl _) _).setCell (Nat.le_refl _) _).setCell (Nat.le_refl _) _
end Go.Proofs.Ytifimeohdgnehaa
