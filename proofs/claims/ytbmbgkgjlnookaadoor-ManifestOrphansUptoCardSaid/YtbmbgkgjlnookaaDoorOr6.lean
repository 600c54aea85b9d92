import Derived.Test.YtbmbgkgjlnookaaDoorOr5
/- ManifestOrphans: rows of names of the call's own, their comparison and their spoiling. -/
namespace Go.Proofs.YtbmbgkgjlnookaaDoor
open Go.RowKit Go.Maps

/-- A row of names of the call's own: its block lies from lo on, below hi. -/
structure GS (lo hi : Nat) (W : World) (b : Option Addr) (n cap : Nat) (ps : List ByteArray) : Prop where
  own : W.ownsRow lo 9 1 (.slice b n cap) n (ps.map Value.string)
  top : ∀ k, (Value.slice b n cap).ownBlock = some k → k < hi
  len : ps.length = n
section
variable {lo hi n cap : Nat} {W W' : World} {b : Option Addr} {ps : List ByteArray}
theorem GS.mk' (h : W.ownsRow lo 9 1 (.slice b n cap) n (ps.map Value.string)) (hl : ps.length = n) : GS lo W.heap.size W b n cap ps := ⟨h, fun k hk => (h.lt k hk).2, hl⟩
theorem GS.bot (h : GS lo hi W b n cap ps) : ∀ k, (Value.slice b n cap).ownBlock = some k → lo ≤ k := fun k hk => (h.own.lt k hk).1
theorem GS.rd (h : GS lo hi W b n cap ps) : Rd W W.heap.size b (ps.map Value.string) := ownsRow_rdS h.own
theorem GS.next (h : GS lo hi W b n cap ps) (hb : Below W.heap.size W W') : GS lo hi W' b n cap ps :=
  ⟨ownsRow_blockS h.own fun k hk => hb.block k (h.own.lt k hk).2, h.top, h.len⟩
theorem GS.chg {S : Nat → Prop} (h : GS lo hi W b n cap ps) (hc : Chg S W W') (hS : ∀ k, lo ≤ k → k < hi → ¬ S k) : GS lo hi W' b n cap ps :=
  ⟨ownsRow_blockS h.own fun k hk => hc.block k (h.own.lt k hk).2 (hS k (h.bot k hk) (h.top k hk)), h.top, h.len⟩
theorem GS.own_ (h : GS lo hi W b n cap ps) (hn : 0 < n) : ∃ g, b = some ⟨g, 0, none⟩ ∧ n ≤ cap ∧ cap ≤ maxLen ∧ Own W lo g 9 (ps.map Value.string) ∧ lo ≤ g ∧ g < hi := by
  obtain ⟨g, cap', hv, h1, h2, h3⟩ := Own.of_row h.own hn
  injection hv with e1 _ e2
  subst e1 e2
  exact ⟨g, rfl, h1, h2, h3, h.bot g rfl, h.top g rfl⟩
theorem srow_gs {w : World} {v : Value} {l L : List ByteArray} {m : Nat} (h : SRow w W v l) (hL : l = L) (hm : L.length = m) : ∃ b cap, v = .slice b m cap ∧ GS w.heap.size W.heap.size W b m cap L ∧ Below w.heap.size w W := by
  subst hL hm
  obtain ⟨b, c, rfl⟩ := row_sliceS h.1
  exact ⟨b, c, rfl, GS.mk' h.1 rfl, h.2⟩
end
theorem Below.nextS {w W W' : World} (h : Below w.heap.size w W) (hb : Below W.heap.size W W') : Below w.heap.size w W' := h.trans (hb.mono h.size)
theorem Chg.of_grownS {w w' : World} {row : Option Nat} (h : w.grownBy w' row) : Chg (fun k => some k = row) w w' := ⟨h.os, h.tape, h.output, h.size, fun k hk hn => h.block k hk hn⟩
theorem Chg.weakS {S S' : Nat → Prop} {a b c : World} (h : Chg S a b) (k : Chg S' b c) (hs : ∀ i, i < a.heap.size → S' i → S i) : Chg S a c :=
  ⟨k.os.trans h.os, k.tape.trans h.tape, k.output.trans h.output, Nat.le_trans h.size k.size, fun i hi hn => (k.block i (Nat.lt_of_lt_of_le hi h.size) fun x => hn (hs i hi x)).trans (h.block i hi hn)⟩
set_option maxRecDepth 100000 in
theorem sameNames_eq (A A' : Option Addr) (c c' n : Nat) (l : List ByteArray) (w : World) (hn : l.length = n) (hA : Rd w w.heap.size A (l.map Value.string)) (hA' : Rd w w.heap.size A' (l.map Value.string)) (hmx : n ≤ 1048576) :
    Calls Tryd.prog 17 #[.slice A n c, .slice A' n c'] w fun e w' => e = .returned (.bool true) ∧ Below w.heap.size w w' := by
  have HA := Lib.hid (And.intro hA (And.intro hA' hn))
  clear hA hA' hn
  go_enter Tryd.func17, Tryd.ntmps17
  go_wp2
  go_loopw [5] (fun i wr => ∃ k : Nat, k ≤ n ∧ i = .int .i64 k ∧ Below w.heap.size w wr) (fun i _ => n - (intOf i).toNat)
  case atStart => exact ⟨0, Nat.zero_le _, rfl, Below.refl _ _⟩
  case round =>
    obtain ⟨k, hk, rfl, hb⟩ := hrel
    by_cases hlt : k < n
    · have hkl : k < l.length := by rw [HA.out.2.2]; exact hlt
      obtain ⟨ad, rfl, hadb, c0⟩ := (HA.out.1.below hb).str hkl
      obtain ⟨ad2, rfl, hadb2, d0⟩ := (HA.out.2.1.below hb).str hkl
      generalize l[k] = s at c0 d0
      have hk0 : (0 : Int) ≤ k := by omega
      have hk1 : (k : Int) < n := by omega
      have HB := Lib.hid hb
      clear hb hkl
      go_upto_region 6 with fail
      go_quiet (fail)
      go_wp2
      go_roundw
      case rel => exact ⟨k + 1, by omega, by go_num, below_drewN HB.out _⟩
      case measure => simp [intOf]; omega
    · have HB := Lib.hid hb
      clear hb
      go_wp2
      go_ret
      exact ⟨rfl, HB.out⟩
set_option maxRecDepth 100000 in
set_option maxHeartbeats 4000000 in
theorem spoiltNames_any (lo hi n cap : Nat) (b : Option Addr) (es : List ByteArray) (w : World) (hE : GS lo hi w b n cap es) (hn : n ≤ 1048576) (hlo : lo ≤ w.heap.size) :
    Calls Tryd.prog 20 #[.slice b n cap] w fun e w' => e = .returned (.tuple #[]) ∧ Chg (fun k => lo ≤ k ∧ k < hi ∧ k < w.heap.size) w w' := by
  obtain ⟨i1, hi1, hz1, hs1, hy1⟩ := info_parts info_str
  have HE0 := Lib.hid hE
  have Hown := Lib.hid (fun k hk => (hE.own.lt k hk).2)
  clear hE
  go_enter Tryd.func20, Tryd.ntmps20
  go_wp2
  go_loopw [2] (fun i wr => ∃ (k : Nat) (es' : List ByteArray), k ≤ n ∧ i = .int .i64 k ∧ GS lo hi wr b n cap es' ∧ Chg (fun k => lo ≤ k ∧ k < hi ∧ k < w.heap.size) w wr)
    (fun i _ => n - (intOf i).toNat)
  case atStart => exact ⟨0, es, Nat.zero_le _, rfl, HE0.out, Chg.refl _ _⟩
  case round =>
    obtain ⟨k, es', hk, rfl, hE, hC⟩ := hrel
    by_cases hlt : k < n
    · obtain ⟨g, rfl, hnc, hcm, hO, hg1, hg2⟩ := hE.own_ (by omega)
      have hgw := Hown.out g rfl
      have hgl := hO.lt
      have hkl : k < es'.length := by rw [hE.len]; exact hlt
      have hfk := hO.free
      have hck := hO.cell (i := k) (by simpa using hkl)
      rw [List.getElem_map] at hck
      generalize es'[k] = p at hck
      have hk0 : (0 : Int) ≤ k := by omega
      have hk1 : (k : Int) < n := by omega
      have HH := Lib.hid (And.intro hE (And.intro hC hO))
      have Hg := Lib.hid hg2
      clear hE hC hO
      go_wp2
      go_roundw
      case rel =>
        refine ⟨k + 1, es'.set k ⟨#[115, 112, 111, 105, 108, 116]⟩, by omega, by go_num, ⟨⟨?_, ?_⟩, HH.out.1.top, by rw [List.length_set]; exact HH.out.1.len⟩, HH.out.2.1.setCell (.inl ⟨hg1, Hg.out, hgw⟩) _⟩
        · simp [HH.out.1.len]
        · rcases HH.out.1.own.2 with ⟨hv, _⟩ | ⟨g2, c2, cur, hv, h1, h2, h3, h4, h5, h6⟩
          · injection hv with e1; cases e1
          · injection hv with e1 _ e2
            injection e1 with e1
            injection e1 with e1
            subst e1 e2
            refine .inr ⟨g, cap, cur.setIfInBounds k (.string ⟨#[115, 112, 111, 105, 108, 116]⟩), rfl, h1, ?_, h3, h4, by simpa using h5, ?_⟩
            · simp [World.setCell, Array.getElem?_modify, h2]
            · rw [List.map_set, ← h6]
              simp [List.take_set]
      case measure => simp [intOf]; omega
    · have HH := Lib.hid (And.intro hE hC)
      have hsz0 := hC.size
      clear hE hC
      go_wp2
      go_loopw [0, 3] (fun gr i wr => ∃ (k : Nat) (bg : Option Addr) (cg : Nat) (es' : List ByteArray), k ≤ 64 ∧ i = .int .i64 k ∧ gr = .slice bg (n + k) cg ∧ wr.ownsRow lo 9 1 (.slice bg (n + k) cg) (n + k) (es'.map Value.string) ∧
          (∀ j, (Value.slice bg (n + k) cg).ownBlock = some j → (j < hi ∧ j < w.heap.size) ∨ w.heap.size ≤ j) ∧ Chg (fun k => lo ≤ k ∧ k < hi ∧ k < w.heap.size) w wr ∧ w.heap.size ≤ wr.heap.size)
        (fun _ i _ => 64 - (intOf i).toNat)
      case atStart => exact ⟨0, b, cap, _, by omega, rfl, rfl, HH.out.1.own, fun j hj => .inl ⟨HH.out.1.top j hj, Hown.out j hj⟩, HH.out.2, hsz0⟩
      case round =>
        clear HH
        obtain ⟨k, bg, cg, es', hk, rfl, rfl, hO, hj, hC, hsz⟩ := hrel
        have HH := Lib.hid (And.intro hO (And.intro hj hC))
        clear hO hj hC
        by_cases hlt : k < 64
        · go_wp2_with (at_builtin
                       refine wpList_app _ rfl (.tmp 17) (.tmp 18) _ rfl lo 9 i1 _ 1 16 Tryd.underlying27 hi1 hz1 hs1 hy1 rfl (by omega) (.slice bg (n + k) cg) (n + k) _ rfl (HH.out.1.alloc _) _ _ 1 1 [.string ⟨#[109, 111, 114, 101]⟩] rfl rfl (rd_newS _ _ _) (by intro u hu; simp at hu; subst hu; rfl) (by unfold maxLen; omega) (by omega) (by simp <;> omega) ?_
                       intro v' w' hown hg hor
                       obtain ⟨bg', cg', rfl⟩ := row_sliceS hown
                       have HG := Lib.hid (And.intro hown (And.intro hg hor))
                       clear hown hg hor)
          go_roundw
          case rel =>
            refine ⟨k + 1, bg', cg', es' ++ [⟨#[109, 111, 114, 101]⟩], by omega, by go_num, rfl, ?_, ?_, ?_, ?_⟩
            · have h := HG.out.1
              rw [List.map_append]
              exact h
            · intro j hj
              rcases HG.out.2.2 with h | h
              · exact HH.out.2.1 j (h.symm.trans hj)
              · have h2 : (Value.slice bg' (n + (k + 1)) cg').ownBlock = some (wr.alloc (.cells #[.string ⟨#[109, 111, 114, 101]⟩] 9)).heap.size := h
                rw [hj] at h2
                simp at h2
                right; omega
            · refine (HH.out.2.2.alloc _).weakS (Chg.of_grownS HG.out.2.1) ?_
              intro i hi hs
              have h1 := (HH.out.1.lt i hs.symm).1
              rcases HH.out.2.1 i hs.symm with h2 | h2
              · exact ⟨h1, h2⟩
              · omega
            · have := HG.out.2.1.size; simp at this; omega
          case measure => simp [intOf]; omega
        · have hk64 : k = 64 := by omega
          subst hk64
          go_wp2
          go_end0
          exact ⟨rfl, HH.out.2.2⟩
/-! The four functions, their answers as rows between two bounds. -/
section
variable (A : Option Addr) (n cc : Nat) (names : List ByteArray) (w : World) (hA : Rd w w.heap.size A (names.map Value.string)) (hn : names.length = n) (hmx : n ≤ 1048576) (hz : ∀ s ∈ names, s.size ≤ 1048576)
  (id ns nx mk cl nid : Int) (A2 : Option Addr) (c2 q : Nat) (pv : Value) (L : List ByteArray) (m : Nat) (hm : L.length = m)
include hA hn hmx hz hm
theorem orphansG (E : Env w) (segs : List Int) (hL : (names.filter fun s => orphP id segs (parseB s)) = L) (hS : Rd w w.heap.size A2 (segs.map (.int .i64))) (hws : ∀ s ∈ segs, (Lit.int .i64 s).wf = true) (hq : segs.length = q) (hsl : q ≤ 1048576) :
    Calls Tryd.prog 11 #[.slice A n cc, manV id ns nx mk cl (.slice A2 q c2) pv] w fun e w' => ∃ b cap, e = .returned (.slice b m cap) ∧ GS w.heap.size w'.heap.size w' b m cap L ∧ Below w.heap.size w w' := by
  subst hq
  exact (orphans_any A n cc names id ns nx mk cl A2 c2 segs pv w E hA hn hmx hz hS hws hsl).mono fun e w' ⟨v, h1, h2⟩ => by
    obtain ⟨b, cap, rfl, h3, h4⟩ := srow_gs h2 hL hm
    exact ⟨b, cap, h1, h3, h4⟩
theorem strangersG (E : Env w) (tl : List T4) (hL : (names.filter fun s => strP (tl.map T4.id) (parseB s)) = L) (hS : Rd w w.heap.size A2 (tl.flatMap quad)) (hws : ∀ t ∈ tl, (Lit.int .i64 t.id).wf = true) (hq : tl.length = q) (hsl : q ≤ 1048576) :
    Calls Tryd.prog 12 #[.slice A n cc, catV nid (.slice A2 q c2)] w fun e w' => ∃ b cap, e = .returned (.slice b m cap) ∧ GS w.heap.size w'.heap.size w' b m cap L ∧ Below w.heap.size w w' := by
  subst hq
  exact (strangers_any A n cc names nid A2 c2 tl w E hA hn hmx hz hS hws hsl).mono fun e w' ⟨v, h1, h2⟩ => by
    obtain ⟨b, cap, rfl, h3, h4⟩ := srow_gs h2 hL hm
    exact ⟨b, cap, h1, h3, h4⟩
theorem orphansRG (segs : List Int) (hL : (names.filter fun s => orphP id segs (parseB s)) = L) (hS : Rd w w.heap.size A2 (segs.map (.int .i64))) (hq : segs.length = q) (hsl : q ≤ 1048576) :
    Calls Tryd.prog 18 #[.slice A n cc, manV id ns nx mk cl (.slice A2 q c2) pv] w fun e w' => ∃ b cap, e = .returned (.slice b m cap) ∧ GS w.heap.size w'.heap.size w' b m cap L ∧ Below w.heap.size w w' := by
  subst hq
  exact (orphansR_any A n cc names id ns nx mk cl A2 c2 segs pv w hA hn hmx hz hS hsl).mono fun e w' ⟨v, h1, h2⟩ => by
    obtain ⟨b, cap, rfl, h3, h4⟩ := srow_gs h2 hL hm
    exact ⟨b, cap, h1, h3, h4⟩
theorem strangersRG (tl : List T4) (hL : (names.filter fun s => strP (tl.map T4.id) (parseB s)) = L) (hS : Rd w w.heap.size A2 (tl.flatMap quad)) (hq : tl.length = q) (hsl : q ≤ 1048576) :
    Calls Tryd.prog 19 #[.slice A n cc, catV nid (.slice A2 q c2)] w fun e w' => ∃ b cap, e = .returned (.slice b m cap) ∧ GS w.heap.size w'.heap.size w' b m cap L ∧ Below w.heap.size w w' := by
  subst hq
  exact (strangersR_any A n cc names nid A2 c2 tl w hA hn hmx hz hS hsl).mono fun e w' ⟨v, h1, h2⟩ => by
    obtain ⟨b, cap, rfl, h3, h4⟩ := srow_gs h2 hL hm
    exact ⟨b, cap, h1, h3, h4⟩
end
/-- All that the law holds: its boxes, the copies, the row of names. -/
structure LS (w : World) (M C N D : Array Value) (bn bd g h k G T : Nat) (ss : List Int) (ps : List P3) (ts : List T4) (ls : List ByteArray) (W : World) : Prop where
  m : Box W w.heap.size 31 M
  c : Box W (w.heap.size + 1) 34 C
  n : Box W bn 31 N
  d : Box W bd 34 D
  og : Own W (w.heap.size + 2) g 3 (ss.map (.int .i64) ++ [.int .i64 (-77)])
  oh : Own W (w.heap.size + 2) h 60 (ps.flatMap tri ++ [.int .i64 (-77), .int .i64 0, .int .i64 0])
  ok : Own W (w.heap.size + 2) k 62 (ts.flatMap quad ++ [.int .i64 (-77), .string ByteArray.empty, .int .i64 0, .int .i64 0])
  ol : Own W (w.heap.size + 2) G 9 (ls.map Value.string ++ [.string ⟨#[47]⟩])
  below : Below w.heap.size w W
  far : (g ≠ h ∧ g ≠ k ∧ h ≠ k) ∧ (bn ≠ g ∧ bn ≠ h ∧ bn ≠ k) ∧ (bd ≠ g ∧ bd ≠ h ∧ bd ≠ k) ∧ (G ≠ g ∧ G ≠ h ∧ G ≠ k) ∧ (G ≠ bn ∧ G ≠ bd)
  lt : w.heap.size + 2 ≤ T ∧ bn < T ∧ bd < T ∧ g < T ∧ h < T ∧ k < T ∧ G < T
section
variable {w : World} {M C N D : Array Value} {bn bd g h k G T : Nat} {ss ss' : List Int} {ps ps' : List P3} {ts ts' : List T4} {ls ls' : List ByteArray} {W W' : World}
theorem LS.next (s : LS w M C N D bn bd g h k G T ss ps ts ls W) (hb : Below W.heap.size W W') : LS w M C N D bn bd g h k G T ss ps ts ls W' :=
  ⟨s.m.below hb s.m.lt, s.c.below hb s.c.lt, s.n.below hb s.n.lt, s.d.below hb s.d.lt, s.og.below hb s.og.lt, s.oh.below hb s.oh.lt, s.ok.below hb s.ok.lt, s.ol.below hb s.ol.lt, s.below.trans (hb.mono s.below.size), s.far, s.lt⟩
theorem LS.man (s : LS w M C N D bn bd g h k G T ss ps ts ls W) (hc : Chg (fun x => x = g ∨ x = h) W W') (og : Own W' (w.heap.size + 2) g 3 (ss'.map (.int .i64) ++ [.int .i64 (-77)]))
    (oh : Own W' (w.heap.size + 2) h 60 (ps'.flatMap tri ++ [.int .i64 (-77), .int .i64 0, .int .i64 0])) : LS w M C N D bn bd g h k G T ss' ps' ts ls W' := by
  obtain ⟨⟨f1, f2, f3⟩, ⟨f4, f5, f6⟩, ⟨f7, f8, f9⟩, ⟨e1, e2, e3⟩, e4, e5⟩ := s.far
  have g1 := og.1
  have g2 := oh.1
  exact ⟨s.m.chg hc (by omega), s.c.chg hc (by omega), s.n.chg hc (by omega), s.d.chg hc (by omega), og, oh, s.ok.chg hc (by omega), s.ol.chg hc (by omega),
    s.below.trans (hc.below s.below.size (by intro x hx; omega)), s.far, s.lt⟩
theorem LS.cat (s : LS w M C N D bn bd g h k G T ss ps ts ls W) (hc : Chg (fun x => x = k) W W') (ok : Own W' (w.heap.size + 2) k 62 (ts'.flatMap quad ++ [.int .i64 (-77), .string ByteArray.empty, .int .i64 0, .int .i64 0])) :
    LS w M C N D bn bd g h k G T ss ps ts' ls W' := by
  obtain ⟨⟨f1, f2, f3⟩, ⟨f4, f5, f6⟩, ⟨f7, f8, f9⟩, ⟨e1, e2, e3⟩, e4, e5⟩ := s.far
  have g1 := ok.1
  exact ⟨s.m.chg hc (by omega), s.c.chg hc (by omega), s.n.chg hc (by omega), s.d.chg hc (by omega), s.og.chg hc (by omega), s.oh.chg hc (by omega), ok, s.ol.chg hc (by omega),
    s.below.trans (hc.below s.below.size (by intro x hx; omega)), s.far, s.lt⟩
theorem LS.row (s : LS w M C N D bn bd g h k G T ss ps ts ls W) (hc : Chg (fun x => x = G) W W') (ol : Own W' (w.heap.size + 2) G 9 (ls'.map Value.string ++ [.string ⟨#[47]⟩])) :
    LS w M C N D bn bd g h k G T ss ps ts ls' W' := by
  obtain ⟨⟨f1, f2, f3⟩, ⟨f4, f5, f6⟩, ⟨f7, f8, f9⟩, ⟨e1, e2, e3⟩, e4, e5⟩ := s.far
  have g1 := ol.1
  exact ⟨s.m.chg hc (by omega), s.c.chg hc (by omega), s.n.chg hc (by omega), s.d.chg hc (by omega), s.og.chg hc (by omega), s.oh.chg hc (by omega), s.ok.chg hc (by omega), ol,
    s.below.trans (hc.below s.below.size (by intro x hx; omega)), s.far, s.lt⟩
theorem LS.spoil {lo hi : Nat} (s : LS w M C N D bn bd g h k G T ss ps ts ls W) (hc : Chg (fun x => lo ≤ x ∧ x < hi ∧ x < W.heap.size) W W') (hT : T ≤ lo) : LS w M C N D bn bd g h k G T ss ps ts ls W' := by
  obtain ⟨t1, t2, t3, t4, t5, t6, t7⟩ := s.lt
  exact ⟨s.m.chg hc (by omega), s.c.chg hc (by omega), s.n.chg hc (by omega), s.d.chg hc (by omega), s.og.chg hc (by omega), s.oh.chg hc (by omega), s.ok.chg hc (by omega), s.ol.chg hc (by omega),
    s.below.trans (hc.below s.below.size (by intro x hx; omega)), s.far, s.lt⟩
theorem LS.names (s : LS w M C N D bn bd g h k G T ss ps ts ls W) : Rd W W.heap.size (some ⟨G, 0, none⟩) (ls.map Value.string) := s.ol.rd_pre
end
end Go.Proofs.YtbmbgkgjlnookaaDoor
