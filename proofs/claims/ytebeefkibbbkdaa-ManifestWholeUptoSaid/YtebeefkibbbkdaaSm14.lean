import Derived.Test.YtebeefkibbbkdaaSm13
/- Create, Rename, Remove, SyncDir. -/
namespace Go.Proofs.Ytebeefkibbbkdaa
open Go.RowKit Go.Maps

def createE (n : ByteArray) (s : Dk) : Int := if atE n s = 0 then 32 else if atE n s ≠ 31 then atE n s else if 65536 ≤ s.seen.length then 35 else spendE s
def createS (n : ByteArray) (s : Dk) : Dk := if atE n s = 0 then s else if atE n s ≠ 31 then s else if 65536 ≤ s.seen.length then s else if s.fuse = 0 then spendS s else { spendS s with files := s.files ++ [Fl.new], dchs := s.dchs ++ [.inl (n, s.files.length)] }
def Dk.newf (s : Dk) : Dk := { s with files := s.files ++ [Fl.new] }
def lenOf (s : Dk) (n : ByteArray) : Int := match getL n s.seen with
  | some j => ((s.fl j).seen.length : Int)
  | none => 0
def renameE (a b : ByteArray) (s : Dk) : Int := if s.dead = true then 34 else if goodN a = false ∨ goodN b = false then 30 else if a = b then 3 else if atE a s ≠ 0 then atE a s else spendE s
def renameS (a b : ByteArray) (s : Dk) : Dk := if s.dead = true then s else if goodN a = false ∨ goodN b = false then s else if a = b then s else if atE a s ≠ 0 then s else if s.fuse = 0 then spendS s else { spendS s with dchs := s.dchs ++ [.inr (.inl (a, b))], used := s.used - lenOf s b }
def removeE (n : ByteArray) (s : Dk) : Int := if atE n s ≠ 0 then atE n s else spendE s
def removeS (n : ByteArray) (s : Dk) : Dk := if atE n s ≠ 0 then s else if s.fuse = 0 then spendS s else { spendS s with dchs := s.dchs ++ [.inr (.inr n)], used := s.used - lenOf s n }
def syncDirE (s : Dk) : Int := if s.dead = true then 34 else spendE s
def syncDirS (s : Dk) : Dk := if s.dead = true then s else if s.fuse = 0 then spendS s else { spendS s with safe := s.seen, dchs := [] }

section
variable {w w' : World} {L : Nat → Nat} {d ms mf : Nat} {fb : List Nat} {s : Dk} {vc : Value}
/-- The directory has turned. -/
theorem DM.dir {c : DC} {v2 : Value} (h : DM w L d fb s ms mf vc) (hcan : canD s.seen c) (hid : ∀ n f, c = .inl (n, f) → f < s.files.length)
    (hb : Box w' d 72 (dxc ms mf v2 (s.quota, s.used, s.fuse, s.dead, s.ops))) (hm : MD w' ms (ddo (s.seen.map (bk fb)) (bkD fb c))) (hr : w'.ownsRow 0 148 1 v2 (s.dchs.length + 1) ((s.dchs.map (bkD fb)).map dv ++ [dv (bkD fb c)]))
    (hc : Chg (fun b => b = d ∨ b = ms ∨ vc.ownBlock = some b) w w') (ho : v2.ownBlock = vc.ownBlock ∨ ∀ j, v2.ownBlock = some j → w.heap.size ≤ j) :
    ∃ L', DM w' L' d fb { s with dchs := s.dchs ++ [c] } ms mf v2 ∧ Chg (fun b => L b ≠ 0) w w' ∧ ∀ b, b < w.heap.size → L' b = L b := by
  have hn : ∀ b, b < w.heap.size → L b ≠ 1 → L b ≠ 2 → L b ≠ 4 → w'.heap[b]? = w.heap[b]? := fun b hb h1 h2 h4 => hc.block b hb fun hs => by
    rcases hs with rfl | rfl | hs
    · exact h1 h.ld
    · exact h2 h.lms
    · exact h4 (h.lc b hs)
  have hz := hc.size
  have hseen : ({ s with dchs := s.dchs ++ [c] } : Dk).seen = ddo s.seen c := by simp [Dk.seen, List.foldl_append]
  refine ⟨fun b => if b < w.heap.size then L b else if v2.ownBlock = some b then 4 else 0, ⟨hb, by simp only [h.box.lt, if_true]; exact h.ld, by simp only [h.seen.lt, if_true]; exact h.lms, by simp only [h.safe.lt, if_true]; exact h.lmf, ?_, ?_, ?_, fun b hb => ?_, h.fl, fun k x hx => ?_, fun b hb => ?_, h.ids, fun n f hf => ?_⟩, ?_, fun b hb => by simp [hb]⟩
  · rw [hseen, ddo_map hcan]; exact hm
  · exact h.safe.keep (hn mf h.safe.lt (by rw [h.lmf]; omega) (by rw [h.lmf]; omega) (by rw [h.lmf]; omega))
  · simp only [List.length_append, List.length_cons, List.length_nil, List.map_append, List.map_cons, List.map_nil]
    exact hr
  · rcases ho with h1 | h1
    · have h2 := h1 ▸ hb
      simp only [(h.rc.lt b h2).2, if_true]
      exact h.lc b h2
    · have hnb : ¬ b < w.heap.size := by have := h1 b hb; omega
      simp only [hnb, if_false, hb, if_true]
  · obtain ⟨vs, vf, vcc, us, hF⟩ := h.files k x hx
    exact ⟨vs, vf, vcc, us, hF.keep hz (fun b hb h1 h2 => hn b hb (by omega) (by omega) (by omega)) (fun b hb => by simp [hb])⟩
  · rcases Nat.lt_or_ge b w.heap.size with hlt | hge
    · omega
    · have hnb : ¬ b < w.heap.size := by omega
      simp only [hnb, if_false] at hb
      by_cases h2 : v2.ownBlock = some b
      · exact (hr.lt b h2).2
      · simp [h2] at hb
  · rcases List.mem_append.1 hf with hf | hf
    · exact h.dids n f hf
    · exact hid n f (List.mem_singleton.1 hf).symm
  · exact hc.mono fun b _ hs => by
      rcases hs with rfl | rfl | hs
      · rw [h.ld]; omega
      · rw [h.lms]; omega
      · rw [h.lc b hs]; omega
theorem bk_more {l : List KE} {x : Nat} (hl : ∀ p ∈ l, p.2 < fb.length) : l.map (bk (fb ++ [x])) = l.map (bk fb) :=
  List.map_congr_left fun p hp => by
    unfold bk
    rw [List.getD_eq_getElem?_getD, List.getElem?_append_left (hl p hp), List.getD_eq_getElem?_getD]
theorem bkD_more {l : List DC} {x : Nat} (hl : ∀ n f, (.inl (n, f) : DC) ∈ l → f < fb.length) : l.map (bkD (fb ++ [x])) = l.map (bkD fb) :=
  List.map_congr_left fun c hc => by
    match c, hc with
    | .inl (n, f), hc => simp only [bkD]; rw [List.getD_eq_getElem?_getD, List.getElem?_append_left (hl n f hc), List.getD_eq_getElem?_getD]
    | .inr _, _ => rfl
abbrev newF : Array Value := #[.slice none 0 0, .slice none 0 0, .slice none 0 0]
/-- A new file. -/
theorem DM.new (h : DM w L d fb s ms mf vc) (hok : s.Ok) : DM (w.alloc (.cells newF 94)) (fun b => if b = w.heap.size then 8 * s.files.length + 8 else L b) d (fb ++ [w.heap.size]) s.newf ms mf vc := by
  have hz : L w.heap.size = 0 := by
    rcases Nat.eq_zero_or_pos (L w.heap.size) with h0 | h0
    · exact h0
    · have := h.lab w.heap.size (by omega); omega
  have hl : ∀ b, b < w.heap.size → (if b = w.heap.size then 8 * s.files.length + 8 else L b) = L b := fun b hb => if_neg (by omega)
  have hb : ∀ b, b < w.heap.size → (w.alloc (.cells newF 94)).heap[b]? = w.heap[b]? := fun b hb => Below.heap_alloc w _ b hb
  have hsi := h.seen_ids hok
  refine ⟨h.box.alloc _, by rw [hl d h.box.lt]; exact h.ld, by rw [hl ms h.seen.lt]; exact h.lms, by rw [hl mf h.safe.lt]; exact h.lmf, ?_, ?_, ?_, fun b hb => by rw [hl b (h.rc.lt b hb).2]; exact h.lc b hb, by simp [Dk.newf, h.fl], fun k x hx => ?_, fun b hb => ?_, fun p hp => ?_, fun n f hf => ?_⟩
  · show MD _ ms (s.seen.map _)
    rw [bk_more fun p hp => by rw [h.fl]; exact hsi p hp]
    exact h.seen.alloc _
  · show MD _ mf (s.safe.map _)
    rw [bk_more fun p hp => by rw [h.fl]; exact h.ids p hp]
    exact h.safe.alloc _
  · show World.ownsRow _ 0 _ 1 vc s.dchs.length ((s.dchs.map _).map dv)
    rw [bkD_more fun n f hf => by rw [h.fl]; exact h.dids n f hf]
    exact h.rc.alloc _
  · replace hx : (s.files ++ [Fl.new])[k]? = some x := hx
    rcases Nat.lt_or_ge k s.files.length with hk | hk
    · rw [List.getElem?_append_left hk] at hx
      obtain ⟨vs, vf, vcc, us, hF⟩ := h.files k x hx
      have e : (fb ++ [w.heap.size]).getD k 0 = fb.getD k 0 := by rw [List.getD_eq_getElem?_getD, List.getElem?_append_left (by rw [h.fl]; exact hk), List.getD_eq_getElem?_getD]
      rw [e]
      exact ⟨vs, vf, vcc, us, hF.keep (by simp) (fun b hb' _ _ => hb b hb') hl⟩
    · have hk2 : k = s.files.length := by
        have := (List.getElem?_eq_some_iff.1 hx).1
        simp at this; omega
      subst hk2
      simp at hx
      subst hx
      have e : (fb ++ [w.heap.size]).getD s.files.length 0 = w.heap.size := by rw [← h.fl]; simp
      rw [e]
      exact ⟨_, _, _, [], Box.new w _ _, by simp, nil_own _ _ _ _, fun _ h => (by cases h), nil_own _ _ _ _, fun _ h => (by cases h), nil_own _ _ _ _, fun _ h => (by cases h), rfl, fun i c u hi => (by simp [Fl.new] at hi)⟩
  · by_cases e : b = w.heap.size
    · rw [e]; simp
    · simp only [e, if_false] at hb
      have := h.lab b hb
      simp; omega
  · exact Nat.lt_of_lt_of_le (h.ids p hp) (by simp [Dk.newf])
  · exact Nat.lt_of_lt_of_le (h.dids n f hf) (by simp [Dk.newf])
end

theorem spend_ok {s : Dk} (h : s.Ok) : (spendS s).Ok := by
  obtain ⟨e1, e2, e3, _, _⟩ := spend_fields s
  exact ⟨by rw [e2]; exact h.sorted, by rw [e2, e3]; exact h.okd, by rw [e2]; exact h.names, by rw [e3]; exact h.dnames, by rw [e1]; exact h.okf⟩

set_option maxRecDepth 100000 in
set_option maxHeartbeats 16000000 in
theorem create_any (S : Nat → Prop) (d N : Nat) (s : Dk) (n : ByteArray) (w : World) (h : Disk w S d s) (hok : s.Ok) (hsz : s.Sz N 140737488355328) (hrg : s.Rg N) (hN : N ≤ 999999999999) (hz : n.size ≤ maxLen) :
    Calls Try.prog 29 #[.pointer (some ⟨d, 0, none⟩), .string n] w fun e w' => e = .returned (.int .i64 (createE n s)) ∧ Did w w' S d (createS n s) := by
  by_cases h0 : atE n s = 0
  · obtain ⟨hd, hg, k, hs⟩ := atE_zero.1 h0
    obtain ⟨L, fb, ms, mf, vc, hD, hS⟩ := id h
    have HE := Lib.hid (show createE n s = 32 ∧ createS n s = s by simp [createE, createS, h0])
    have HD := Lib.hid (And.intro hD (And.intro hd (And.intro hg (And.intro hs h))))
    clear h h0 hok hsz hrg hD hS hd hg hs
    go_enter Try.func29, Try.ntmps29
    go_wp2_with (go_at_call 76
                 refine (at_yes L fb ms mf vc d k _ rfl s n _ HD.out.1 hz HD.out.2.1 HD.out.2.2.1 HD.out.2.2.2.1).mono ?_
                 rintro e w1 ⟨rfl, hb⟩
                 have HB := Lib.hid hb
                 clear hb)
    go_ret
    rw [HE.out.1, HE.out.2]
    exact ⟨rfl, Did.same HD.out.2.2.2.2 HB.out⟩
  by_cases h1 : atE n s = 31
  case neg =>
    have HE := Lib.hid (show createE n s = atE n s ∧ createS n s = s by simp [createE, createS, h0, h1])
    have H := Lib.hid h
    obtain ⟨er, her⟩ : ∃ er, atE n s = er := ⟨_, rfl⟩
    have HR := Lib.hid her
    rw [her] at h0 h1
    have hnb : (er == 0) = false := by simpa using h0
    have hnb2 : (er != 31) = true := by simpa using h1
    clear h hok hsz hrg her
    go_enter Try.func29, Try.ntmps29
    go_wp2_with (go_at_call 76
                 refine (at_no S d s n _ H.out hz er HR.out h0).mono ?_
                 rintro e w1 ⟨rfl, hb⟩
                 have HB := Lib.hid hb
                 clear hb)
    go_ret
    rw [HE.out.1, HE.out.2, HR.out]
    exact ⟨rfl, Did.same H.out HB.out⟩
  case pos =>
    obtain ⟨L, fb, ms, mf, vc, hD, hS⟩ := id h
    have hgd : goodN n = true := by
      unfold atE at h1
      by_cases hd : s.dead = true
      · rw [if_pos hd] at h1; cases h1
      · rw [if_neg hd] at h1
        by_cases hg : goodN n = false
        · rw [if_pos hg] at h1; cases h1
        · simpa using hg
    have hsl : s.seen.length ≤ N := by have h2 := fold_len s.dchs s.safe; have h3 := hsz.d; unfold Dk.seen; omega
    have HD := Lib.hid (And.intro hD (And.intro hS (And.intro hok (And.intro hsz (And.intro hrg (And.intro h hgd))))))
    have HH := Lib.hid (And.intro h0 h1)
    have HSL := Lib.hid hsl
    clear hok hsz hrg h hD hS h0 h1 hgd
    obtain ⟨q, hq⟩ : ∃ q, s.seen.length = q := ⟨_, rfl⟩
    rw [hq] at hsl
    have HQ := Lib.hid hq
    clear hq
    go_enter Try.func29, Try.ntmps29
    go_upto_region 6 with (first
      | (go_at_call 76
         refine (at_no S d s n _ HD.out.2.2.2.2.2.1 hz 31 HH.out.2 (by omega)).mono ?_
         rintro e w1 ⟨rfl, hb⟩
         have hD1 := HD.out.1.keep hb.size fun b hb' => hb.block b (HD.out.1.lab b hb')
         have hx := hD1.box.cell 0
         have hlen := fun ty => hD1.seen.len ty
         simp only [List.length_map] at hlen
         rw [HQ.out] at hlen
         have HB := Lib.hid (And.intro hb hD1)
         clear hb hD1))
    by_cases hbig : 65536 ≤ q
    · have HE := Lib.hid (show createE n s = 35 ∧ createS n s = s by simp [createE, createS, HH.out.2, HQ.out, hbig])
      have hbi : (65536 : Int) ≤ q := by omega
      clear hbig
      go_wp2
      go_ret
      rw [HE.out.1, HE.out.2]
      exact ⟨rfl, Did.same HD.out.2.2.2.2.2.1 HB.out.1⟩
    · by_cases hf0 : s.fuse = 0
      · have HE := Lib.hid (show createE n s = 34 ∧ createS n s = spendS s by simp [createE, createS, HH.out.2, HQ.out, hbig, hf0, spendE])
        have hbi : ¬ (65536 : Int) ≤ q := by omega
        clear hbig
        have HSE := Lib.hid (show spendE s = 34 by simp [spendE, hf0])
        clear hf0
        go_wp2_with (go_at_call 77
                     refine (spend_dm L fb ms mf vc d s _ (by exact HB.out.2.keep (Nat.le_refl _) (fun _ _ => rfl)) ⟨HD.out.2.2.2.2.1.o.1, by have := HD.out.2.2.2.2.1.o.2; omega⟩ HD.out.2.2.2.2.1.f).mono ?_
                     rintro e w2 ⟨rfl, hD2, hc2⟩
                     rw [HSE.out]
                     have H2 := Lib.hid (And.intro hD2 hc2)
                     clear hD2 hc2)
        go_ret
        rw [HE.out.1, HE.out.2]
        exact ⟨rfl, Did.of HD.out.2.1 H2.out.1 HB.out.1 (H2.out.2.mono fun j _ hj => .inl (by rw [hj, HD.out.1.ld]; omega)) fun b _ hb => hb⟩
      · have HE := Lib.hid (show createE n s = 0 ∧ createS n s = { spendS s with files := s.files ++ [Fl.new], dchs := s.dchs ++ [.inl (n, s.files.length)] } by simp [createE, createS, HH.out.2, HQ.out, hbig, hf0, spendE])
        have hbi : ¬ (65536 : Int) ≤ q := by omega
        clear hbig
        have HSE := Lib.hid (show spendE s = 0 by simp [spendE, hf0])
        clear hf0
        go_wp2_with (first
          | (go_at_call 77
             refine (spend_dm L fb ms mf vc d s _ (by exact HB.out.2.keep (Nat.le_refl _) (fun _ _ => rfl)) ⟨HD.out.2.2.2.2.1.o.1, by have := HD.out.2.2.2.2.1.o.2; omega⟩ HD.out.2.2.2.2.1.f).mono ?_
             rintro e w2 ⟨rfl, hD2, hc2⟩
             rw [HSE.out]
             have hC2 : Chg S w w2 := (Chg.of_below HB.out.1 S).trans' hc2 fun j hj e => by rw [e, HD.out.2.1, HD.out.1.ld]; omega
             have H2 := Lib.hid (And.intro hD2 hC2)
             clear hD2 hc2 hC2)
          | (go_at_call 78
             have hok2 := spend_ok HD.out.2.2.1
             have hD3 := H2.out.1.new hok2
             have hsp := spend_fields s
             have hcc : w2.heap.size = (fb ++ [w2.heap.size]).getD (spendS s).files.length 0 := by rw [← H2.out.1.fl]; simp
             have hmm := hD3.seen
             have hml : ((spendS s).newf.seen.map (bk (fb ++ [w2.heap.size]))).length < 1000000000000 := by
               have e : (spendS s).newf.seen = s.seen := by show List.foldl ddo (spendS s).safe (spendS s).dchs = _; rw [hsp.2.1, hsp.2.2.1]; rfl
               rw [List.length_map, e, HQ.out]; omega
             have hdl : ((spendS s).newf.dchs.length + 1) * 16 ≤ 140737488355328 := by show ((spendS s).dchs.length + 1) * 16 ≤ _; rw [hsp.2.2.1]; have := HD.out.2.2.2.1.d; omega
             refine (addD_made d ms mf (spendS s).newf.dchs.length vc _ _ n w2.heap.size _ _ hD3.box hmm hD3.rc (fun e => by have h1 := hD3.ld; have h2 := hD3.lms; rw [e] at h1; omega) (fun b hb => ⟨fun e => by have h1 := hD3.lc b hb; have h2 := hD3.ld; rw [e] at h1; omega, fun e => by have h1 := hD3.lc b hb; have h2 := hD3.lms; rw [e] at h1; omega⟩) hml hdl (goodN_size HD.out.2.2.2.2.2.2).2).mono ?_
             rintro e w4 ⟨rfl, v2, p1, p2, p3, p4, p5⟩
             obtain ⟨L', r1, r2, r3⟩ := hD3.dir (c := .inl (n, (spendS s).files.length)) (fun a b e => by cases e) (fun n' f e => by injection e with e; injection e with _ e; rw [← e]; simp [Dk.newf]) p1 (by rw [show bkD (fb ++ [w2.heap.size]) (.inl (n, (spendS s).files.length)) = .inl (n, w2.heap.size) by simp only [bkD, ← hcc]]; exact p2) (by rw [show bkD (fb ++ [w2.heap.size]) (.inl (n, (spendS s).files.length)) = .inl (n, w2.heap.size) by simp only [bkD, ← hcc]]; exact p3) p4 p5
             have H4 := Lib.hid (And.intro r1 (And.intro r2 r3))
             clear hok2 hD3 hcc hmm hml hdl p1 p2 p3 p4 p5 r1 r2 r3))
        go_ret
        rw [HE.out.1, HE.out.2]
        have hfin := H4.out.1
        have e1 : ({ (spendS s).newf with dchs := (spendS s).newf.dchs ++ [.inl (n, (spendS s).files.length)] } : Dk) = { spendS s with files := s.files ++ [Fl.new], dchs := s.dchs ++ [.inl (n, s.files.length)] } := by
          obtain ⟨z1, _, z3, _, _⟩ := spend_fields s
          show ({ spendS s with files := (spendS s).files ++ [Fl.new], dchs := (spendS s).dchs ++ [.inl (n, (spendS s).files.length)] } : Dk) = _
          rw [z1, z3]
        rw [e1] at hfin
        refine ⟨rfl, did_of hfin ((H2.out.2.alloc _).trans' H4.out.2.1 fun j hj hs => ?_) fun b hb hne => ?_⟩
        · have hsz := H2.out.2.size
          rw [if_neg (by omega)] at hs
          exact (HD.out.2.1 j).2 hs
        · have hsz := H2.out.2.size
          rw [H4.out.2.2 b (by simp; omega), if_neg (by omega)] at hne
          exact (HD.out.2.1 b).2 hne
end Go.Proofs.Ytebeefkibbbkdaa
