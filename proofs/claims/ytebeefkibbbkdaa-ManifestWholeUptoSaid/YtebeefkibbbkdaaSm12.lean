import Derived.Test.YtebeefkibbbkdaaSm11
/- Append, Truncate, Sync. -/
namespace Go.Proofs.Ytebeefkibbbkdaa
open Go.RowKit Go.Maps

/-- The numbers of a disk are in their ranges. -/
structure Dk.Rg (s : Dk) (N : Nat) : Prop where
  q : 0 ≤ s.quota ∧ s.quota ≤ 1073741824
  u : 0 ≤ s.used ∧ s.used ≤ 1000000000000000
  f : -1 ≤ s.fuse ∧ s.fuse ≤ 9223372036854775807
  o : 0 ≤ s.ops ∧ s.ops ≤ N
def Dk.num (s : Dk) (n : ByteArray) : Nat := (getL n s.seen).getD 0
def Dk.addC (s : Dk) (k : Nat) (c : FC) : Dk := s.setF k ⟨(s.fl k).safe, (s.fl k).chs ++ [c]⟩
def appendE (n : ByteArray) (b : List UInt8) (s : Dk) : Int := if atE n s ≠ 0 then atE n s else if 0 < b.length ∧ s.quota - s.used < b.length then 33 else spendE s
def appendS (n : ByteArray) (b : List UInt8) (s : Dk) : Dk := if atE n s ≠ 0 then s else if 0 < b.length ∧ s.quota - s.used < b.length then s else if s.fuse = 0 then spendS s else { (spendS s).addC (s.num n) (.inl b) with used := s.used + b.length }
def truncE (n : ByteArray) (x : Int) (s : Dk) : Int := if atE n s ≠ 0 then atE n s else if x < 0 ∨ (s.fl (s.num n)).seen.length < x then 3 else spendE s
def truncS (n : ByteArray) (x : Int) (s : Dk) : Dk := if atE n s ≠ 0 then s else if x < 0 ∨ (s.fl (s.num n)).seen.length < x then s else if s.fuse = 0 then spendS s else { (spendS s).addC (s.num n) (.inr x.toNat) with used := s.used - ((s.fl (s.num n)).seen.length - x) }
def syncE (n : ByteArray) (s : Dk) : Int := if atE n s ≠ 0 then atE n s else spendE s
def syncS (n : ByteArray) (s : Dk) : Dk := if atE n s ≠ 0 then s else if s.fuse = 0 then spendS s else (spendS s).setF (s.num n) ⟨(s.fl (s.num n)).seen, []⟩
theorem spend_fields (s : Dk) : (spendS s).files = s.files ∧ (spendS s).safe = s.safe ∧ (spendS s).dchs = s.dchs ∧ (spendS s).quota = s.quota ∧ (spendS s).used = s.used := by
  unfold spendS; split <;> exact ⟨rfl, rfl, rfl, rfl, rfl⟩
theorem spend_fl (s : Dk) (k : Nat) : (spendS s).fl k = s.fl k := by unfold Dk.fl; rw [(spend_fields s).1]
theorem getL_lt {w : World} {L : Nat → Nat} {d ms mf : Nat} {fb : List Nat} {s : Dk} {vc : Value} (h : DM w L d fb s ms mf vc) (hok : s.Ok) {n : ByteArray} {k : Nat} (hg : getL n s.seen = some k) : k < s.files.length :=
  h.seen_ids hok _ ((get_mem (Sorted.fold hok.sorted)).1 hg)
theorem fl_mem {s : Dk} {k : Nat} (hk : k < s.files.length) : s.fl k ∈ s.files := List.mem_of_getElem? (fl_get hk)
/-- Bytes that are handed in, and lie in none of the disk's blocks. -/
def Out (w : World) (S : Nat → Prop) (A : Option Addr) (bs : List UInt8) : Prop := Rd w w.heap.size A (bv bs) ∧ ∀ ad, A = some ad → bs ≠ [] → ¬ S ad.block
theorem Out.chg {w w' : World} {S S' : Nat → Prop} {A : Option Addr} {bs : List UInt8} (h : Out w S A bs) (hc : Chg S' w w') (hS : ∀ b, b < w.heap.size → S' b → S b) : Rd w' w'.heap.size A (bv bs) := by
  intro j u hj
  obtain ⟨ad, rfl, hlt, hcl⟩ := h.1 j u hj
  have hne : bs ≠ [] := by rintro rfl; simp [bv] at hj
  refine ⟨ad, rfl, Nat.lt_of_lt_of_le hlt hc.size, ?_⟩
  rw [← hcl]
  exact cell_heap (by rw [add_block]; exact hc.block _ hlt fun hs => h.2 ad rfl hne (hS _ hlt hs))

/-- A change is laid behind a file's. -/
theorem add_done {w w1 w' : World} {L L1 L' : Nat → Nat} {d ms mf k : Nat} {fb : List Nat} {s : Dk} {vc : Value} {S : Nat → Prop} {x' : Fl} {vs vf vcc us vs0 vf0 vcc0 us0} (hD : DM w1 L1 d fb s ms mf vc) (hk : k < s.files.length) (hF0 : FM w1 L1 (fb.getD k 0) k (s.fl k) vs0 vf0 vcc0 us0) (hb : Chg S w w1)
    (hS : ∀ b, b < w.heap.size → (S b ↔ L b ≠ 0)) (h01 : ∀ b, b < w.heap.size → L1 b = L b)
    (p1 : ∀ b, b < w1.heap.size → L' b = L1 b) (p2 : ∀ b, w1.heap.size ≤ b → L' b ≠ 0 → b < w'.heap.size) (p3 : ∀ b, w1.heap.size ≤ b → L' b = 0 ∨ (8 * k + 8 ≤ L' b ∧ L' b < 8 * k + 16))
    (p4 : FM w' L' (fb.getD k 0) k x' vs vf vcc us) (p5 : Chg (fun b => b = fb.getD k 0 ∨ vs0.ownBlock = some b ∨ vf0.ownBlock = some b ∨ vcc0.ownBlock = some b) w1 w') :
    DM w' L' d fb (s.setF k x') ms mf vc ∧ Chg S w w' ∧ ∀ b, b < w.heap.size → L' b ≠ 0 → S b := by
  have hc : Chg (fun b => 8 * k + 8 ≤ L1 b ∧ L1 b < 8 * k + 16) w1 w' := p5.mono fun b _ hb => by
    rcases hb with rfl | hb | hb | hb
    · have := hF0.lab; omega
    · have := hF0.ls b hb; omega
    · have := hF0.lf b hb; omega
    · have := hF0.lc b hb; omega
  refine ⟨hD.file hk p1 p2 p3 p4 hc, hb.trans' hc fun j hj hs => ?_, fun b hbl hne => ?_⟩
  · rw [hS j hj, ← h01 j hj]; omega
  · rw [hS b hbl, ← h01 b hbl, ← p1 b (Nat.lt_of_lt_of_le hbl hb.size)]; exact hne
theorem fl_fm {w : World} {L : Nat → Nat} {d ms mf k : Nat} {fb : List Nat} {s : Dk} {vc : Value} (h : DM w L d fb s ms mf vc) (hk : k < s.files.length) : ∃ vs vf vcc us, FM w L (fb.getD k 0) k (s.fl k) vs vf vcc us := h.files k _ (fl_get hk)
/-- Bytes that were made for a file of the disk. -/
theorem gave {w w2 w3 : World} {L : Nat → Nat} {d ms mf k m bc : Nat} {fb : List Nat} {s : Dk} {vc : Value} {S : Nat → Prop} {bb : Option Addr} {b : List UInt8} (hD : DM w2 L d fb s ms mf vc) (hC : Chg S w w2) (hk : k < s.files.length) (hrow : w3.ownsRow w2.heap.size 5 1 (.slice bb m bc) m (bv b)) (hb3 : Below w2.heap.size w2 w3) :
    ∃ L1, DM w3 L1 d fb s ms mf vc ∧ (∀ ad, bb = some ad → b ≠ [] → L1 ad.block = 8 * k + 12) ∧ Chg S w w3 ∧ (∀ j, j < w.heap.size → L1 j = L j) ∧ ∃ vs vf vcc us, FM w3 L1 (fb.getD k 0) k (s.fl k) vs vf vcc us := by
  have hD3 : DM w3 L d fb s ms mf vc := hD.keep hb3.size fun b hb => hb3.block b (hD.lab b hb)
  have hC3 := hC.next hb3
  cases bb with
  | none => exact ⟨L, hD3, fun _ h => (by cases h), hC3, fun _ _ => rfl, fl_fm hD3 hk⟩
  | some ad =>
    have hg : (Value.slice (some ad) m bc).ownBlock = some ad.block := rfl
    have h1 := hrow.lt _ hg
    have h0 : L ad.block = 0 := by
      rcases Nat.eq_zero_or_pos (L ad.block) with h | h
      · exact h
      · have := hD.lab ad.block (by omega); omega
    have hG := hD3.give (k := k) h0 h1.2
    exact ⟨_, hG, fun a e _ => (by cases e; simp), hC3, fun j hj => if_neg (by have := hC.size; omega), fl_fm hG hk⟩
theorem did_of {w w' : World} {L' : Nat → Nat} {S : Nat → Prop} {d ms mf : Nat} {fb : List Nat} {s' : Dk} {vc : Value} (h : DM w' L' d fb s' ms mf vc) (hc : Chg S w w') (hl : ∀ b, b < w.heap.size → L' b ≠ 0 → S b) : Did w w' S d s' :=
  ⟨fun b => L' b ≠ 0, ⟨L', fb, ms, mf, vc, h, fun _ => Iff.rfl⟩, hc, fun b hb => by
    rcases Nat.lt_or_ge b w.heap.size with hlt | hge
    · exact .inl (hl b hlt hb)
    · exact .inr hge⟩

set_option maxRecDepth 100000 in
set_option maxHeartbeats 16000000 in
theorem append_any (S : Nat → Prop) (d N m c : Nat) (s : Dk) (n : ByteArray) (A : Option Addr) (b : List UInt8) (w : World) (h : Disk w S d s) (hok : s.Ok) (hsz : s.Sz N 140737488355328) (hrg : s.Rg N) (hN : N ≤ 999999999999) (hz : n.size ≤ maxLen) (hA : Out w S A b) (hm : b.length = m)
    (hfit : atE n s = 0 → ¬ (0 < m ∧ s.quota - s.used < m) → (s.fl (s.num n)).seen.length + m ≤ 140737488355328) (hm63 : m ≤ 140737488355328) :
    Calls Try.prog 31 #[.pointer (some ⟨d, 0, none⟩), .string n, .slice A m c] w fun e w' => e = .returned (.int .i64 (appendE n b s)) ∧ Did w w' S d (appendS n b s) := by
  by_cases h0 : atE n s = 0
  case neg =>
    have HE := Lib.hid (show appendE n b s = atE n s ∧ appendS n b s = s by simp [appendE, appendS, h0])
    have H := Lib.hid (And.intro h h0)
    obtain ⟨er, her⟩ : ∃ er, atE n s = er := ⟨_, rfl⟩
    have HR := Lib.hid her
    have hne : ¬ er = 0 := by rw [← her]; exact h0
    have hnb : (er != 0) = true := by rw [bne_iff_ne]; exact hne
    clear h h0 hA hok hsz hrg hfit hm her
    go_enter Try.func31, Try.ntmps31
    go_wp2_with (go_at_call 76
                 refine (at_no S d s n _ H.out.1 hz er HR.out hne).mono ?_
                 rintro e w1 ⟨rfl, hb⟩
                 have HB := Lib.hid hb
                 clear hb)
    go_ret
    rw [HE.out.1, HE.out.2, HR.out]
    exact ⟨rfl, Did.same H.out.1 HB.out⟩
  case pos =>
    obtain ⟨hd, hg, k, hs⟩ := atE_zero.1 h0
    obtain ⟨L, fb, ms, mf, vc, hD, hS⟩ := id h
    have hk := getL_lt hD hok hs
    have hnum : s.num n = k := by unfold Dk.num; rw [hs]; rfl
    obtain ⟨hq0, hq1⟩ := hrg.q
    obtain ⟨hu0, hu1⟩ := hrg.u
    have hfm := fl_mem hk
    have hok1 := hok.okf _ hfm
    obtain ⟨fk, hfk⟩ : ∃ fk, fb.getD k 0 = fk := ⟨_, rfl⟩
    have HFK := Lib.hid hfk
    clear hfk
    have hsh := hsz.m _ hfm
    have hcl := hsz.f _ hfm

    have HFT := Lib.hid hfit
    have HD := Lib.hid (And.intro hD (And.intro hd (And.intro hg (And.intro hs (And.intro hS (And.intro hk hnum))))))
    have HX := Lib.hid (And.intro h0 (And.intro hA hm))
    have HP := Lib.hid (And.intro hok1 (And.intro hsh hcl))
    have HG := Lib.hid (And.intro hrg h)
    clear h h0 hA hm hok hsz hrg hfit hD hS hd hg hs hk hnum hfm hok1 hsh hcl
    go_enter Try.func31, Try.ntmps31
    go_upto_region 4 with (first
      | (go_at_call 76
         refine (at_yes L fb ms mf vc d k fk HFK.out s n _ HD.out.1 hz HD.out.2.1 HD.out.2.2.1 HD.out.2.2.2.1).mono ?_
         rintro e w1 ⟨rfl, hb⟩
         have hD1 := HD.out.1.keep hb.size fun b hb' => hb.block b (HD.out.1.lab b hb')
         have hx := hD1.box
         have hc3 := hx.cell 3
         have hc4 := hx.cell 4
         have HB := Lib.hid (And.intro hb hD1)
         clear hb hD1 hx))
    go_cut [35] (fun s35 wx => s35 = .bool (decide (0 < m ∧ s.quota - s.used < m)) ∧ ∃ q, wx = w1.drewN q)
    case first =>
      rcases (show m = 0 ∨ (0 < m ∧ s.quota - s.used < m) ∨ (0 < m ∧ ¬ s.quota - s.used < m) by omega) with hx | ⟨hx, hy⟩ | ⟨hx, hy⟩
      · subst hx
        go_quiet (fail)
        go_wp2_with fail
        go_meet
        case rel => exact ⟨rfl, _, rfl⟩
      · have hx' : (0 : Int) < m := by omega
        have HV := Lib.hid (show decide (0 < m ∧ s.quota - s.used < m) = true from decide_eq_true ⟨hx, hy⟩)
        go_quiet (fail)
        go_wp2_with fail
        go_meet
        case rel => exact ⟨by rw [HV.out], _, rfl⟩
      · have hx' : (0 : Int) < m := by omega
        have HV := Lib.hid (show decide (0 < m ∧ s.quota - s.used < m) = false from decide_eq_false fun h => hy h.2)
        go_quiet (fail)
        go_wp2_with fail
        go_meet
        case rel => exact ⟨by rw [HV.out], _, rfl⟩
    case rest =>
      obtain ⟨rfl, nq, rfl⟩ := hcut
      clear hc3 hc4
      by_cases hov : 0 < m ∧ s.quota - s.used < m
      · have HE := Lib.hid (show appendE n b s = 33 ∧ appendS n b s = s by simp [appendE, appendS, HX.out.1, HX.out.2.2, hov])
        rw [decide_eq_true hov]
        clear hov
        go_wp2
        go_ret
        rw [HE.out.1, HE.out.2]
        exact ⟨rfl, Did.same HG.out.2 (below_drewN HB.out.1 _)⟩
      · rw [decide_eq_false hov]
        have HFF := Lib.hid (HFT.out HX.out.1 hov)
        rw [HD.out.2.2.2.2.2.2] at HFF
        by_cases hf0 : s.fuse = 0
        · have HE := Lib.hid (show appendE n b s = 34 ∧ appendS n b s = spendS s by simp [appendE, appendS, HX.out.1, HX.out.2.2, hov, hf0, spendE])
          have HSE := Lib.hid (show spendE s = 34 by simp [spendE, hf0])
          clear hov hf0
          go_wp2_with (go_at_call 77
                       refine (spend_dm L fb ms mf vc d s _ (by exact HB.out.2.keep (Nat.le_refl _) (fun _ _ => rfl)) ⟨HG.out.1.o.1, by have := HG.out.1.o.2; omega⟩ HG.out.1.f).mono ?_
                       rintro e w2 ⟨rfl, hD2, hc2⟩
                       rw [HSE.out]
                       have H2 := Lib.hid (And.intro hD2 hc2)
                       clear hD2 hc2)
          go_ret
          rw [HE.out.1, HE.out.2]
          exact ⟨rfl, Did.of HD.out.2.2.2.2.1 H2.out.1 (below_drewN HB.out.1 nq) (H2.out.2.mono fun j _ hj => .inl (by rw [hj, HD.out.1.ld]; omega)) fun b _ hb => hb⟩
        · have HE := Lib.hid (show appendE n b s = 0 ∧ appendS n b s = { (spendS s).addC k (.inl b) with used := s.used + m } by simp [appendE, appendS, HX.out.1, hov, hf0, spendE, HX.out.2.2, HD.out.2.2.2.2.2.2])
          have HSE := Lib.hid (show spendE s = 0 by simp [spendE, hf0])
          clear hov hf0
          go_upto_region 9 with (first
            | (go_at_call 77
               refine (spend_dm L fb ms mf vc d s _ (by exact HB.out.2.keep (Nat.le_refl _) (fun _ _ => rfl)) ⟨HG.out.1.o.1, by have := HG.out.1.o.2; omega⟩ HG.out.1.f).mono ?_
               rintro e w2 ⟨rfl, hD2, hc2⟩
               rw [HSE.out]
               have hC2 : Chg S w w2 := (Chg.of_below (below_drewN HB.out.1 nq) S).trans' hc2 fun j hj e => by rw [e, HD.out.2.2.2.2.1, HD.out.1.ld]; omega
               have H2 := Lib.hid (And.intro hD2 (And.intro hC2 (HX.out.2.1.chg hC2 fun _ _ h => h)))
               clear hD2 hc2 hC2))
          go_cut [] (fun wx => ∃ L', DM wx L' d fb ((spendS s).addC k (.inl b)) ms mf vc ∧ Chg S w wx ∧ ∀ j, j < w.heap.size → L' j ≠ 0 → S j)
          case first =>
            go_region_with (first
              | (go_at_call 45
                 refine (clone_any A m c b _ (by exact H2.out.2.2) HX.out.2.2 hm63).mono ?_
                 rintro e w3 ⟨bb, bc, rfl, hrow, hb3⟩
                 have H3 := Lib.hid (And.intro hrow hb3)
                 clear hrow hb3)
              | (go_at_call 79
                 obtain ⟨L1, hD3, hA3, hC3, hL3, vs, vf, vcc, us, hF⟩ := gave (k := k) (b := b) H2.out.1 H2.out.2.1 (by rw [(spend_fields s).1]; exact HD.out.2.2.2.2.2.1) (by exact H3.out.1) (by exact (below_drew (Below.refl _ _)).trans H3.out.2)
                 have hus := hF.len
                 have hF' := hF
                 rw [HFK.out] at hF'
                 refine (addF_app L1 fk k _ vs vf vcc us bb m bc b _ hF' (row_rd H3.out.1) HX.out.2.2 hA3 (row_cap H3.out.1) (by rw [spend_fl]; exact HFF.out) (by rw [hus, spend_fl]; have := HP.out.2.2; omega)).mono ?_
                 rintro e w4 ⟨rfl, L', v1, v2, p1, p2, p3, p4, p5⟩
                 have hfin := add_done hD3 (by rw [(spend_fields s).1]; exact HD.out.2.2.2.2.2.1) hF hC3 (fun b _ => HD.out.2.2.2.2.1 b) hL3 p1 p2 p3 (by rw [HFK.out]; exact p4) (by rw [HFK.out]; exact p5.mono fun j _ hj => by rcases hj with h | h | h; exact .inl h; exact .inr (.inl h); exact .inr (.inr (.inr h)))
                 have H4 := Lib.hid hfin
                 clear hfin hD3 hA3 hC3 hL3 hF hF' hus p1 p2 p3 p4 p5))
            all_goals
              go_wp2_with fail
              go_meet
              case rel => exact ⟨_, H4.out⟩
          case rest =>
            obtain ⟨L', hD4, hC4, hl4⟩ := hcut
            have hx := hD4.box
            have hu4 : ((spendS s).addC k (.inl b)).used = s.used := (spend_fields s).2.2.2.2
            have hcc : wc.cell? ⟨d, 4, none⟩ = some (.int .i64 s.used) := by rw [hx.cell 4, ← hu4]; rfl
            have hcf := hx.free 4
            have hcl := hx.lt
            have H5 := Lib.hid (And.intro hD4 (And.intro hC4 hl4))
            clear hD4 hC4 hl4 hx hu4
            go_wp2
            go_ret
            rw [HE.out.1, HE.out.2]
            refine ⟨rfl, did_of (H5.out.1.dx (chg_at (Chg.refl _ _) 4 (.int .i64 (s.used + m))) (q := (((spendS s).addC k (.inl b)).quota, s.used + m, ((spendS s).addC k (.inl b)).fuse, ((spendS s).addC k (.inl b)).dead, ((spendS s).addC k (.inl b)).ops)) (by simpa using H5.out.1.box.set_ 4 (.int .i64 (s.used + m)))) (H5.out.2.1.setCell (.inl ?_) _) H5.out.2.2⟩
            exact (HD.out.2.2.2.2.1 d).2 (by rw [HD.out.1.ld]; omega)
end Go.Proofs.Ytebeefkibbbkdaa
