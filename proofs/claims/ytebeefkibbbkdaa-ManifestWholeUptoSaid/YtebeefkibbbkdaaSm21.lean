import Derived.Test.YtebeefkibbbkdaaSm20
import Derived.Deep.RegionWith
import Derived.Deep.RegionHeld3
import Derived.Deep.DeepCutAuto
import Derived.Deep.RegionLaw
import Derived.Outline
import Derived.Test.YtebeefkibbbkdaaDrw
import Derived.Deep.AppendLies
/- What a loss of power leaves of a file. -/
namespace Go.Proofs.Ytebeefkibbbkdaa
open Go.RowKit Go.Maps

def tornS (x : Fl) (ps : List Int) : List UInt8 × List Int :=
  match x.chs[modn (pickV ps) (x.chs.length + 1)]? with
  | some (.inl c) => ((x.chs.take (modn (pickV ps) (x.chs.length + 1))).foldl fdo x.safe ++ c.take (modn (pickV ps.tail) (c.length + 1)), ps.tail.tail)
  | _ => ((x.chs.take (modn (pickV ps) (x.chs.length + 1))).foldl fdo x.safe, ps.tail)
theorem assert_app (A : Option Addr) (n c : Nat) (w : World) : (Instr.typeAssert (.iface 142 (.agg #[.slice A n c])) 154 142 true).run Try.prog w = .ok (.tuple #[.agg #[.slice A n c], .bool true]) w := by kernel_rfl
theorem assert_cut (k : Int) (w : World) : (Instr.typeAssert (.iface 193 (.agg #[.int .i64 k])) 154 142 true).run Try.prog w = .ok (.tuple #[.agg #[.slice none 0 0], .bool false]) w := by kernel_rfl
theorem FM.next {w w' : World} {L : Nat → Nat} {f k : Nat} {x : Fl} {vs vf vc : Value} {us : List Value} (h : FM w L f k x vs vf vc us) {pb : Nat} (hc : Chg (fun b => b = pb) w w') (hp : L pb = 0) : FM w' L f k x vs vf vc us :=
  h.keep hc.size (fun b hb h1 _ => hc.block b hb fun e => by rw [e, hp] at h1; omega) fun _ _ => rfl

theorem row_base {w : World} {B B' n : Nat} {e : TypeId} {v : Value} {xs : List Value} (h : w.ownsRow B e 1 v n xs) (hB : ∀ k, v.ownBlock = some k → B' ≤ k) : w.ownsRow B' e 1 v n xs := by
  obtain ⟨h1, h2⟩ := h
  refine ⟨h1, ?_⟩
  rcases h2 with h2 | ⟨g, c', cur, hv, h3, h4, h5, h6, h7, h8⟩
  · exact .inl h2
  · exact .inr ⟨g, c', cur, hv, hB g (by rw [hv]; rfl), h4, h5, h6, h7, h8⟩
theorem row_up {w : World} {B B' n : Nat} {e : TypeId} {v : Value} {xs : List Value} (h : w.ownsRow B e 1 v n xs) (hB : B' ≤ B) : w.ownsRow B' e 1 v n xs := row_base h fun k hk => Nat.le_trans hB (h.lt k hk).1

theorem torn_mid {w wc w2 w3 : World} {pb B q z c2 : Nat} {b2 : Option Addr} {v3 : Value} {xs y : List UInt8} {ps : List Int} (hC : Chg (fun b => b = pb) w wc) (hP : PK wc pb B ps) (hr : w2.ownsRow wc.heap.size 5 1 (.slice b2 q c2) q (bv xs)) (hb : Below wc.heap.size wc w2)
    (h3 : w3.ownsRow 0 5 1 v3 z (bv y)) (hs : RS w2 w3 (.slice b2 q c2) v3) (hpl : pb < w.heap.size) :
    ∃ b cap, v3 = .slice b z cap ∧ w3.ownsRow w.heap.size 5 1 (.slice b z cap) z (bv y) ∧ PK w3 pb B ps ∧ Chg (fun b => b = pb) w w3 := by
  obtain ⟨b3, c3, rfl⟩ := row_slice h3
  have hwz := hC.size
  have hbz := hb.size
  have hold : ∀ k, (Value.slice b2 q c2).ownBlock = some k → wc.heap.size ≤ k := fun k hk => (hr.lt k hk).1
  have hc3 : Chg (fun b => b = pb) w w3 := (hC.next hb).trans' hs.1 fun j hj hj2 => by have := hold j hj2; omega
  refine ⟨b3, c3, rfl, row_base h3 fun k hk => ?_, ?_, hc3⟩
  · rcases hs.2 with h | h
    · have := hold k (h ▸ hk); omega
    · have := h k hk; omega
  · have hP2 : PK w2 pb B ps := hP.next hb
    obtain ⟨_, _, _, _, _, hBp, hBw, _, _⟩ := id hP2
    refine hP2.keep (hs.1.below hBw fun k hk => by have := hold k hk; omega) ?_
    exact hs.1.block pb (by omega) fun hk => by have := hold pb hk; omega

theorem torn_alloc {w wc : World} {L : Nat → Nat} {f k pb B z c6 : Nat} {x : Fl} {vs vf vc : Value} {us : List Value} {b6 : Option Addr} {y : List UInt8} {ps : List Int} {u : Value} {t : TypeId}
    (h : FM wc L f k x vs vf vc us ∧ wc.ownsRow w.heap.size 5 1 (.slice b6 z c6) z (bv y) ∧ PK wc pb B ps ∧ Chg (fun b => b = pb) w wc) :
    FM (wc.alloc (.cells #[u] t)) L f k x vs vf vc us ∧ (wc.alloc (.cells #[u] t)).ownsRow w.heap.size 5 1 (.slice b6 z c6) z (bv y) ∧ PK (wc.alloc (.cells #[u] t)) pb B ps ∧ Chg (fun b => b = pb) w (wc.alloc (.cells #[u] t)) ∧ Chg (fun b => b = pb) wc (wc.alloc (.cells #[u] t)) ∧ Box (wc.alloc (.cells #[u] t)) wc.heap.size t #[u] := by
  have hb := Below.al wc (.cells #[u] t)
  exact ⟨h.1.keep hb.size (fun b hb' _ _ => hb.block b hb') fun _ _ => rfl, h.2.1.alloc _, h.2.2.1.next hb, h.2.2.2.next hb, (Chg.refl _ _).alloc _, Box.new _ _ _⟩

theorem rd_take {w : World} {B : Nat} {A : Option Addr} {l : List UInt8} (h : Rd w B A (bv l)) (k : Nat) : Rd w B A (bv (l.take k)) := by
  intro j u hj
  refine h j u ?_
  rw [bv_take] at hj
  obtain ⟨h1, h2⟩ := List.getElem?_eq_some_iff.1 hj
  rw [List.getElem_take] at h2
  exact List.getElem?_eq_some_iff.2 ⟨by rw [List.length_take] at h1; omega, h2⟩
section
variable {P : Program} (w : World)
theorem step_app {ops : Array Oper} {o : Oper} {a : Act} {K : Act → World → Prop} {Q : Exit → Act → World → Prop} {E : Prop} (hgd : o.guard = none) (s x : Operand) (t : TypeId)
    (ho : o.op = .call { callee := .builtin .append, args := #[s, x], argTypes := #[t, t] })
    (base : Nat) (e : TypeId) (i : TypeInfo) (z : Value) (size bytes : Nat) (ht : P.underlying t = some (.slice e)) (hi : P.info? e = some i) (hz : i.zero = some z)
    (hsize : i.size = size) (hby : i.bytes = bytes) (hzs : z.cells.size = size) (hsz : 0 < size)
    (v : Value) (n : Nat) (xs : List Value) (hs : a.eval s = v) (hown : w.ownsRow base e size v n xs)
    (B : Nat) (A : Option Addr) (m c : Nat) (news : List Value) (hx : a.eval x = .slice A m c) (hl : news.length = m * size) (hr : Rd w B A news) (h1 : ∀ u ∈ news, u.oneCell' = true)
    (h63 : n + m ≤ maxLen) (hbytes : (n + m) * bytes ≤ 140737488355328) (hbase : base ≤ w.heap.size)
    (h : ∀ v' w', w'.ownsRow base e size v' (n + m) (xs ++ news) → w.grownBy w' v.ownBlock → (v'.ownBlock = v.ownBlock ∨ v'.ownBlock = some w.heap.size) → K (a.put o.dst v') w') :
    if Region.wanted o (yielded ops a.tmps) = true then Oper.wp P o a w K Q else E := by
  have hw : Region.wanted o (yielded ops a.tmps) = true := by simp [Region.wanted, hgd]
  rw [if_pos hw]
  obtain ⟨v', w', hrun, h2, h3, h4⟩ := run_app (P := P) w base t o.type e i z size bytes ht hi hz hsize hby hzs hsz v n xs hown B A m c news hl hr h1 h63 hbytes hbase
  unfold Oper.wp execOp
  simp only [ho, resolve, invoke, builtin, Sem.run_bind, Sem.run_pure, Result.andThen_ok, List.map_toArray, List.map_cons, List.map_nil, hs, hx, hrun]
  exact h v' w' h2 h3 h4
end

theorem torn_end {w w2 w3 : World} {pb B m n : Nat} {v v' : Value} {xs : List Value} {y c : List UInt8} {ps : List Int} (hC : Chg (fun b => b = pb) w w2) (hP : PK w2 pb B ps) (hr : w2.ownsRow w.heap.size 5 1 v m xs) (hg : w2.grownBy w3 v.ownBlock)
    (h3 : w3.ownsRow w.heap.size 5 1 v' n (bv y ++ bv c)) (hpl : pb < w.heap.size) :
    w3.ownsRow w.heap.size 5 1 v' n (bv (y ++ c)) ∧ PK w3 pb B ps ∧ Chg (fun b => b = pb) w w3 := by
  have hold : ∀ k, v.ownBlock = some k → w.heap.size ≤ k := fun k hk => (hr.lt k hk).1
  have hc3 : Chg (fun b => b = pb) w w3 := hC.grown hg fun k hk => .inr (hold k hk)
  have hc : Chg (fun k => v.ownBlock = some k) w2 w3 := (Chg.refl _ w2).grown hg fun k hk => .inl hk
  refine ⟨by rw [bv_app]; exact h3, ?_, hc3⟩
  have hz := hC.size
  obtain ⟨_, _, _, _, _, hBp, hBw, _, _⟩ := id hP
  refine hP.keep (hc.below hBw fun k hk => by have := hold k hk; omega) ?_
  exact hc.block pb (by omega) fun hk => by have := hold pb hk; omega

set_option maxRecDepth 100000 in
set_option maxHeartbeats 16000000 in
theorem torn_any (L : Nat → Nat) (f k B pb : Nat) (x : Fl) (vs vf vc : Value) (us : List Value) (ps : List Int) (w : World) (h : FM w L f k x vs vf vc us) (hok : okF x.safe x.chs) (hsh : Short x 140737488355328) (hml : us.length ≤ 999999999999)
    (hP : PK w pb B ps) (hp0 : L pb = 0) (hL : ∀ b, L b ≠ 0 → b < B) :
    Calls Try.prog 41 #[.pointer (some ⟨f, 0, none⟩), .func (.func 37) #[] #[.pointer (some ⟨pb, 0, none⟩)]] w fun e w' =>
      ∃ b cap, e = .returned (.slice b (tornS x ps).1.length cap) ∧ w'.ownsRow w.heap.size 5 1 (.slice b (tornS x ps).1.length cap) (tornS x ps).1.length (bv (tornS x ps).1) ∧ PK w' pb B (tornS x ps).2 ∧ Chg (fun b => b = pb) w w' := by
  obtain ⟨i1, hi1, hz1, hs1, hy1⟩ := info_parts info_u8
  obtain ⟨cb, cc, rfl⟩ := row_slice h.rc
  obtain ⟨m, hm⟩ : ∃ m, us.length = m := ⟨_, rfl⟩
  have hbc := h.box.cell 2
  have hbl := h.box.lt
  rw [hm] at hbc hml
  have HM := Lib.hid (And.intro hm (show x.chs.length = m by rw [← h.len]; exact hm))
  have H := Lib.hid (And.intro h (And.intro hok (And.intro hsh (And.intro hP (And.intro hp0 hL)))))
  have hpw := pick_wf hP
  have hpbl : pb < w.heap.size := by obtain ⟨A, c, h1, _⟩ := hP; exact h1.lt
  have HW := Lib.hid hpw
  have hpf : f ≠ pb := fun e => by have h1 := h.lab; rw [e, hp0] at h1; omega
  have e1 : IntKind.i64.wrap ((m : Int) + 1) = (m : Int) + 1 := IntWalk.i64_in _ (by omega)
  clear h hok hsh hP hL hm hpw hp0
  go_enter Try.func41, Try.ntmps41
  go_upto_region 1 with fail
  go_cut [5] (fun s5 wx => s5 = .int .i64 (modn (pickV ps) (m + 1)) ∧ PK wx pb B ps.tail ∧ Chg (fun b => b = pb) w wx)
  case first =>
    have hb2 : w.cell? ⟨f, 2, none⟩ = some (.slice cb m cc) := hbc
    have hb2d : w.drew.cell? ⟨f, 2, none⟩ = some (.slice cb m cc) := hbc
    go_region_held3 (fun w' => w'.cell? ⟨f, 2, none⟩ = some (.slice cb m cc))
      (first | with_reducible exact hb2 | with_reducible exact hb2d | with_reducible exact hx2)
      (first
      | (go_at_call 37
         refine (pick_any pb B ps _ (by exact H.out.2.2.2.1)).mono ?_
         rintro e w1 ⟨rfl, hk, hc⟩
         have hx := (show Box w.drew f 94 _ from H.out.1.box).chg hc (fun e => hpf e)
         have hx2 : w1.cell? ⟨f, 2, none⟩ = some (.slice cb m cc) := by rw [← HM.out.1]; exact hx.cell 2
         have hxl := hx.lt
         have H1 := Lib.hid (And.intro hk hc)
         clear hk hc hx)
      | (go_at_call 39
         refine (mod_any (pickV ps) ((m : Int) + 1) (m + 1) _ (by omega) (by omega) HW.out (by omega)).mono ?_
         rintro e w2 ⟨rfl, hw2⟩
         have hw3 := hw2.symm
         subst hw3))
    all_goals
      go_wp2_with fail
      go_meet
      case rel => exact ⟨rfl, H1.out.1, (Chg.refl _ w).drew.trans' H1.out.2 fun _ _ h => h⟩
  case rest =>
    obtain ⟨rfl, hP5, hC5⟩ := hcut
    obtain ⟨i, hi⟩ : ∃ i, modn (pickV ps) (m + 1) = i := ⟨_, rfl⟩
    have him : i ≤ m := by have := modn_lt (pickV ps) (show 0 < m + 1 by omega); omega
    have HI := Lib.hid hi
    obtain ⟨y, hy⟩ : ∃ y, (x.chs.take i).foldl fdo x.safe = y := ⟨_, rfl⟩
    have HY := Lib.hid hy
    have hyl : y.length ≤ 140737488355328 := by rw [← hy]; exact H.out.2.2.1 i
    have hF5 : FM wc L f k x vs vf (.slice cb us.length cc) us := H.out.1.next hC5 H.out.2.2.2.2.1
    obtain ⟨fb0, fc0, rfl⟩ := row_slice hF5.rf
    obtain ⟨q, hq⟩ : ∃ q, x.safe.length = q := ⟨_, rfl⟩
    have HQ := Lib.hid hq
    have hq0 : q ≤ 140737488355328 := by have := H.out.2.2.1 0; simp at this; omega
    have hb5 := hF5.box.cell 1
    have hl5 := hF5.box.lt
    rw [hq] at hb5
    rw [hi]
    have H5 := Lib.hid (And.intro hF5 (And.intro hP5 hC5))
    clear hi hy hq hF5 hP5 hC5 hbc
    go_upto_region 2 with fail
    go_cut [6] (fun s6 wy => ∃ b cap, s6 = .slice b y.length cap ∧ wy.ownsRow w.heap.size 5 1 (.slice b y.length cap) y.length (bv y) ∧ PK wy pb B ps.tail ∧ Chg (fun b => b = pb) w wy)
    case first =>
      go_region_with (first
        | (go_at_call 45
           refine (clone_any fb0 q fc0 x.safe _ (by have := row_rd H5.out.1.rf; exact this) HQ.out hq0).mono ?_
           rintro e w2 ⟨b2, c2, rfl, hrow, hb2⟩
           have H2 := Lib.hid (And.intro hrow hb2)
           clear hrow hb2)
        | (go_at_call 84
           refine (partF L f k i q x vs _ _ _ us _ (by exact H5.out.1.keep H2.out.2.size (fun b hb _ _ => H2.out.2.block b hb) fun _ _ => rfl) H.out.2.1 H.out.2.2.1 (by rw [HM.out.1]; omega) (by rw [HM.out.2]; exact him) (row_up (by exact H2.out.1) (Nat.zero_le _)) HQ.out.symm (fun b hb => by
               have h1 : wc.heap.size ≤ b := (H2.out.1.lt b hb).1
               have h2 := H5.out.2.2.size
               obtain ⟨_, _, _, _, _, _, h3, _⟩ := H.out.2.2.2.1
               exact Classical.byContradiction fun hne => by have := H.out.2.2.2.2.2 b hne; omega)).mono ?_
           rintro e w3 ⟨v3, rfl, hrow, hrs⟩
           have H3 := Lib.hid (And.intro hrow hrs)
           clear hrow hrs))
      all_goals
        go_wp2_with fail
        go_meet
        case rel =>
          have := torn_mid H5.out.2.2 H5.out.2.1 H2.out.1 ((below_drew (Below.refl _ _)).trans H2.out.2) H3.out.1 H3.out.2 hpbl
          rw [HY.out] at this
          exact this
    case rest =>
      obtain ⟨b6, c6, rfl, hr6, hP6, hC6⟩ := hcut
      have hF6 : FM wc L f k x vs (.slice fb0 x.safe.length fc0) (.slice cb us.length cc) us := H.out.1.next hC6 H.out.2.2.2.2.1
      have hb6 := hF6.box.cell 2
      have hl6 := hF6.box.lt
      rw [HM.out.1] at hb6
      have H6 := Lib.hid (And.intro hF6 (And.intro hr6 (And.intro hP6 hC6)))
      clear hF6 hr6 hP6 hC6 hb5 hl5
      rcases Nat.lt_or_ge i m with hlt | hge
      · have hju : i < us.length := by rw [HM.out.1]; exact hlt
        have hjc : i < x.chs.length := by rw [HM.out.2]; exact hlt
        obtain ⟨ad, rfl, hadl, hac⟩ := (row_rd H6.out.1.rc).one hju
        have hfv := H6.out.1.ch i x.chs[i] us[i] (List.getElem?_eq_getElem hjc) (List.getElem?_eq_getElem hju)
        have hlt' : (i : Int) < m := by omega
        rcases hv : x.chs[i] with c | j
        · rw [hv] at hfv
          obtain ⟨A, cap, hu, hrd, hlab⟩ := hfv
          obtain ⟨lc, hlc⟩ : ∃ lc, c.length = lc := ⟨_, rfl⟩
          rw [hlc] at hu
          rw [hu] at hac
          have Ha := assert_app A lc cap
          have hst := H.out.2.2.1.step hjc
          rw [hv, HY.out] at hst
          have hst2 : y.length + lc ≤ 140737488355328 := by have := hst; simp only [fdo, List.length_append] at this; omega
          have hcap := hlab.2
          rw [hlc] at hcap
          clear hst
          have HV := Lib.hid (And.intro (show x.chs[i]? = some (.inl c) by rw [List.getElem?_eq_getElem hjc, hv]) (And.intro hrd (And.intro hlab hlc)))
          clear hv hrd hlab hlc hju hjc hu
          have e2 : IntKind.i64.wrap ((lc : Int) + 1) = (lc : Int) + 1 := IntWalk.i64_in _ (by omega)
          go_upto_region 6 with fail
          obtain ⟨al, hal⟩ : ∃ al, wc.heap.size = al := ⟨_, rfl⟩
          have hR := torn_alloc H6.out (u := .slice A lc cap) (t := 142)
          have halp : pb ≠ al := by have := H6.out.2.2.2.size; omega
          rw [hal] at hR
          have hw6 : (wc.alloc (.cells #[.slice A lc cap] 142)).cell? ⟨al, 0, none⟩ = some (.slice A lc cap) := hR.2.2.2.2.2.cell 0
          have HR := Lib.hid hR
          clear hR
          rw [hal]
          generalize hw9 : wc.alloc (.cells #[.slice A lc cap] 142) = w9 at hw6 HR ⊢
          have hS0 : w9.drew.cell? ⟨al, 0, none⟩ = some (.slice A lc cap) := hw6
          refine WT.start (fun w' => w'.cell? ⟨al, 0, none⟩ = some (.slice A lc cap)) 12 (by kernel_rfl) ?_
          refine WT.take 0 (v := ?_) rfl (by kernel_rfl) (by kernel_rfl) (by kernel_rfl) (by kernel_rfl) (fun _ _ _ h => h) (Or.inl ⟨by rfl, ?hy⟩) hS0 ?_
          case hy => first | (intro w hSw; go_simp; done) | (intro w hSw; go_simp; with_reducible rfl)
          simp only [Act.put, List.setIfInBounds_toArray, List.set_cons_zero, List.set_cons_succ]
          refine WT.take 1 (v := ?_) rfl (by kernel_rfl) (by kernel_rfl) (by kernel_rfl) (by kernel_rfl) (fun _ _ _ h => h) (Or.inl ⟨by rfl, ?hy⟩) hS0 ?_
          case hy => first | (intro w hSw; go_simp; done) | (intro w hSw; go_simp; with_reducible rfl)
          simp only [Act.put, List.setIfInBounds_toArray, List.set_cons_zero, List.set_cons_succ]
          refine WT.take 2 (v := ?_) rfl (by kernel_rfl) (by kernel_rfl) (by kernel_rfl) (by kernel_rfl) (fun _ _ _ h => h) (Or.inl ⟨by rfl, ?hy⟩) hS0 ?_
          case hy => first | (intro w hSw; go_simp; done) | (intro w hSw; go_simp; with_reducible rfl)
          simp only [Act.put, List.setIfInBounds_toArray, List.set_cons_zero, List.set_cons_succ]
          refine WT.take 3 (v := ?_) rfl (by kernel_rfl) (by kernel_rfl) (by kernel_rfl) (by kernel_rfl) (fun _ _ _ h => h) (Or.inl ⟨by rfl, ?hy⟩) hS0 ?_
          case hy => first | (intro w hSw; go_simp; done) | (intro w hSw; go_simp; with_reducible rfl)
          simp only [Act.put, List.setIfInBounds_toArray, List.set_cons_zero, List.set_cons_succ]
          refine WT.take 5 (v := ?_) rfl (by kernel_rfl) (by kernel_rfl) (by kernel_rfl) (by kernel_rfl) (fun _ _ _ h => h) (Or.inl ⟨by rfl, ?hy⟩) hS0 ?_
          case hy => first | (intro w hSw; go_simp; done) | (intro w hSw; go_simp; with_reducible rfl)
          simp only [Act.put, List.setIfInBounds_toArray, List.set_cons_zero, List.set_cons_succ]
          refine WT.take 6 (v := ?_) rfl (by kernel_rfl) (by kernel_rfl) (by kernel_rfl) (by kernel_rfl) (fun _ _ _ h => h) (Or.inl ⟨by rfl, ?hy⟩) hS0 ?_
          case hy => first | (intro w hSw; go_simp; done) | (intro w hSw; go_simp; with_reducible rfl)
          simp only [Act.put, List.setIfInBounds_toArray, List.set_cons_zero, List.set_cons_succ]
          refine WT.take 7 (v := ?_) rfl (by kernel_rfl) (by kernel_rfl) (by kernel_rfl) (by kernel_rfl) (fun _ _ _ h => h) (Or.inl ⟨by rfl, ?hy⟩) hS0 ?_
          case hy => first | (intro w hSw; go_simp; done) | (intro w hSw; go_simp; with_reducible rfl)
          simp only [Act.put, List.setIfInBounds_toArray, List.set_cons_zero, List.set_cons_succ]
          refine WT.take 8 (v := ?_) rfl (by kernel_rfl) (by kernel_rfl) (by kernel_rfl) (by kernel_rfl) (fun _ _ _ h => h) (Or.inl ⟨by rfl, ?hy⟩) hS0 ?_
          case hy => first | (intro w hSw; go_simp; done) | (intro w hSw; go_simp; with_reducible rfl)
          simp only [Act.put, List.setIfInBounds_toArray, List.set_cons_zero, List.set_cons_succ]
          refine WT.step 4 rfl (by kernel_rfl) (by decide) fun K hK => ?_
          go_simp
          go_at_call 37
          refine (pick_any pb B ps.tail _ (by exact HR.out.2.2.1)).mono ?_
          rintro e w10 ⟨rfl, hk, hc⟩
          have hc2 := (Chg.refl (fun b => b = pb) w9).drew.trans' hc fun _ _ h => h
          have hS1 : w10.cell? ⟨al, 0, none⟩ = some (.slice A lc cap) := (HR.out.2.2.2.2.2.chg hc2 fun e => halp e.symm).cell 0
          have hal10 : al < w10.heap.size := Nat.lt_of_lt_of_le HR.out.2.2.2.2.2.lt hc2.size
          have HC := Lib.hid (And.intro hk (And.intro (HR.out.2.2.2.1.trans hc2) (And.intro (HR.out.2.2.2.2.1.trans hc2) (row_block HR.out.2.1 fun b hb => hc2.block b (HR.out.2.1.lt b hb).2 fun e => by have := (HR.out.2.1.lt b hb).1; omega))))
          clear hk hc hc2 hS0
          go_simp
          refine hK.out _ _ hS1 ?_
          clear hK K
          refine WT.step 9 rfl (by kernel_rfl) (by decide) fun K hK => ?_
          go_simp
          go_at_call 39
          refine (mod_any (pickV ps.tail) ((lc : Int) + 1) (lc + 1) _ (by omega) (by omega) (pick_wf HR.out.2.2.1) (by omega)).mono ?_
          rintro e w11 ⟨rfl, hw2⟩
          have hw3 := hw2.symm
          subst hw3
          obtain ⟨j, hj⟩ : ∃ j, modn (pickV ps.tail) (lc + 1) = j := ⟨_, rfl⟩
          have hjl : j ≤ lc := by have := modn_lt (pickV ps.tail) (show 0 < lc + 1 by omega); omega
          have HJ := Lib.hid hj
          rw [hj]
          have hj0 : (0 : Int) ≤ j := by omega
          have hj1 : (j : Int) ≤ cap := by omega
          clear hj hw2
          go_simp
          refine hK.out _ _ hS1 ?_
          clear hK K
          refine WT.step 10 rfl (by kernel_rfl) (by decide) fun K hK => ?_
          go_simp
          refine hK.out _ _ hS1 ?_
          clear hK K
          refine WT.step 11 rfl (by kernel_rfl) (by decide) fun K hK => ?_
          refine step_app _ (by rfl) (.tmp 51) (.tmp 61) 22 (by rfl) w.heap.size 5 i1 _ 1 1 Try.underlying22 hi1 hz1 hs1 hy1 rfl (by omega) (.slice b6 y.length c6) y.length (bv y) (by rfl) HC.out.2.2.2 w10.heap.size A j cap (bv (c.take j)) (by rfl) (by rw [bv_len, List.length_take, HV.out.2.2.2, Nat.min_eq_left hjl, Nat.mul_one]) (rd_take ((show Out wc (fun b => b = pb) A c from ⟨HV.out.2.1, fun ad h1 h2 h3 => by have := HV.out.2.2.1.1 ad h1 h2; simp only [h3, H.out.2.2.2.2.1] at this; omega⟩).chg HC.out.2.2.1 fun _ _ h => h) j) (one_bv _) (by unfold maxLen; omega) (by omega) (by have := HC.out.2.1.size; omega) ?_
          intro v' w12 hown hg hor
          have hE := torn_end HC.out.2.1 HC.out.1 HC.out.2.2.2 hg hown hpbl
          have hS2 : w12.cell? ⟨al, 0, none⟩ = some (.slice A lc cap) := (hg.cell_far ⟨al, 0, none⟩ hal10 fun e => by have := (H6.out.2.1.lt _ e.symm).2; simp only at this; omega).trans hS1
          have H12 := Lib.hid hE
          clear hE hown hg hor hS1
          go_simp
          refine hK.out _ _ hS2 ?_
          clear hK K
          refine WT.last 12 rfl (by kernel_rfl) rfl fun K hK => ?_
          go_simp
          refine hK.out _ _ ?_
          clear hK K
          refine WT.done (by kernel_rfl) ?_
          go_wp2
          go_ret
          have ht : tornS x ps = (y ++ c.take j, ps.tail.tail) := by
            unfold tornS
            rw [HM.out.2, HI.out, HY.out, HV.out.1]
            simp only [HV.out.2.2.2, HJ.out]
          have hlen : (y ++ c.take j).length = y.length + j := by rw [List.length_append, List.length_take, HV.out.2.2.2, Nat.min_eq_left hjl]
          obtain ⟨b7, c7, rfl⟩ := row_slice H12.out.1
          rw [ht]
          simp only
          rw [hlen]
          exact ⟨b7, c7, rfl, H12.out⟩
        · rw [hv] at hfv
          have hu : us[i] = .iface 193 (.agg #[.int .i64 j]) := hfv
          rw [hu] at hac
          have Ha := assert_cut j
          have HV := Lib.hid (show x.chs[i]? = some (.inr j) by rw [List.getElem?_eq_getElem hjc, hv])
          clear hv hju hjc hu hfv
          go_wp2_with fail
          go_ret
          have ht : tornS x ps = (y, ps.tail) := by
            unfold tornS
            rw [HM.out.2, HI.out, HY.out, HV.out]
          rw [ht]
          have hR := torn_alloc H6.out (u := .slice none 0 0) (t := 142)
          exact ⟨_, _, rfl, hR.2.1, hR.2.2.1, hR.2.2.2.1⟩
      · have hge' : ¬ (i : Int) < m := by omega
        go_wp2_with fail
        go_ret
        have ht : tornS x ps = (y, ps.tail) := by
          unfold tornS
          rw [HM.out.2, HI.out, HY.out, List.getElem?_eq_none (by rw [HM.out.2]; exact hge)]
        rw [ht]
        exact ⟨_, _, rfl, H6.out.2⟩
end Go.Proofs.Ytebeefkibbbkdaa
