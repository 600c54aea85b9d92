import Derived.Test.YtdeaefbjddodjaaGreatDoorGh
import Derived.Test.YtdeaefbjddodjaaGreatDoorGc
/- ManifestRound: plain laws; what the law holds. -/
namespace Go.Proofs.YtdeaefbjddodjaaGreatDoor
open Go.RowKit Go.Maps

theorem dman_two (bs : List UInt8) : ∃ (i0 n0 x0 m0 k0 : Int) (S0 : List Int) (P0 : List P3) (er : Int), S0.length ≤ 64 ∧ P0.length ≤ 64 ∧ (∀ s ∈ S0, (Lit.int .i64 s).wf = true) ∧ ((er = 0 ∧ manE i0 n0 x0 m0 k0 S0 P0 = 0 ∧ encM i0 n0 x0 m0 k0 S0 P0 = bs) ∨ er = 72) ∧
    ∀ (w w' : World) (e : Ending), DMan bs w w' e → ∃ (b1 : Option Addr) (c1 : Nat) (b2 : Option Addr) (c2 : Nat),
    e = .returned (.tuple #[manV i0 n0 x0 m0 k0 (.slice b1 S0.length c1) (.slice b2 P0.length c2), .int .i64 er]) ∧ Rd w' w'.heap.size b1 (S0.map (.int .i64)) ∧ Rd w' w'.heap.size b2 (P0.flatMap tri) := by
  by_cases hx : ∃ id ns nx mk cl segs prods, manR id ns nx mk cl segs prods = true ∧ encM id ns nx mk cl segs prods = bs
  · obtain ⟨i0, n0, x0, m0, k0, S0, P0, hr, he⟩ := hx
    have fa := (manR_facts hr).1
    refine ⟨i0, n0, x0, m0, k0, S0, P0, 0, (manR_facts hr).2.2.1, (manR_facts hr).2.2.2.1, ?_, .inl ⟨rfl, by unfold manE; rw [if_pos hr], he⟩, ?_⟩
    · intro s hs
      have h := (manR_facts hr).2.2.2.2.1 s hs
      unfold manA at fa
      simp [Lit.wf, IntKind.min, IntKind.max, IntKind.signed, IntKind.bits]
      omega
    rintro w w' e (⟨id, ns, nx, mk, cl, segs, prods, b1, c1, b2, c2, h1, h2, h3, h4, h5, h6, h7⟩ | ⟨h1, h2⟩)
    · obtain ⟨rfl, rfl, rfl, rfl, rfl, rfl, rfl⟩ := h3 _ _ _ _ _ _ _ hr he
      exact ⟨b1, c1, b2, c2, h4, ownsRow_rd h5, ownsRow_rd h6⟩
    · exact absurd he (h1 _ _ _ _ _ _ _ hr)
  · refine ⟨0, 0, 0, 0, 0, [], [], 72, by simp, by simp, by simp, .inr rfl, ?_⟩
    rintro w w' e (⟨id, ns, nx, mk, cl, segs, prods, b1, c1, b2, c2, h1, h2, _⟩ | ⟨h1, h2⟩)
    · exact absurd ⟨_, _, _, _, _, _, _, h1, h2⟩ hx
    · exact ⟨none, 0, none, 0, h2, Rd.nil _ _ _, Rd.nil _ _ _⟩
theorem dcat_two (bs : List UInt8) : ∃ (i0 : Int) (P0 : List T4) (er : Int), P0.length ≤ 64 ∧ (∀ t ∈ P0, (Lit.int .i64 t.id).wf = true ∧ t.name.size ≤ maxLen) ∧ ((er = 0 ∧ catE i0 P0 = 0 ∧ encC i0 P0 = bs) ∨ er = 72) ∧
    ∀ (w w' : World) (e : Ending), DCat bs w w' e → ∃ (b1 : Option Addr) (c1 : Nat),
    e = .returned (.tuple #[.agg #[.int .i64 i0, .slice b1 P0.length c1], .int .i64 er]) ∧ Rd w' w'.heap.size b1 (P0.flatMap quad) := by
  by_cases hx : ∃ nid tl, catR nid tl = true ∧ encC nid tl = bs
  · obtain ⟨i0, P0, hr, he⟩ := hx
    refine ⟨i0, P0, 0, by have := (catR_facts hr).2.2.1; omega, ?_, .inl ⟨rfl, by unfold catE; rw [if_pos hr], he⟩, ?_⟩
    · intro t ht
      obtain ⟨h1, h2, _, h3⟩ := catR_facts hr
      obtain ⟨h4, h5, _⟩ := h3 t ht
      refine ⟨?_, by unfold maxLen; omega⟩
      simp [Lit.wf, IntKind.min, IntKind.max, IntKind.signed, IntKind.bits]
      omega
    rintro w w' e (⟨nid, tl, b1, c1, h1, h2, h3, h4, h5⟩ | ⟨h1, h2⟩)
    · obtain ⟨rfl, rfl⟩ := h3 _ _ hr he
      exact ⟨b1, c1, h4, ownsRow_rd h5⟩
    · exact absurd he (h1 _ _ hr)
  · refine ⟨0, [], 72, by simp, by simp, .inr rfl, ?_⟩
    rintro w w' e (⟨nid, tl, b1, c1, h1, h2, _⟩ | ⟨h1, h2⟩)
    · exact absurd ⟨_, _, h1, h2⟩ hx
    · exact ⟨none, 0, h2, Rd.nil _ _ _⟩
theorem dcat_of {nid : Int} {tl : List T4} (hr : catR nid tl = true) {bs : List UInt8} (hb : encC nid tl = bs) {w w' : World} {e : Ending} (h : DCat bs w w' e) :
    ∃ (b1 : Option Addr) (c1 : Nat), e = .returned (.tuple #[.agg #[.int .i64 nid, .slice b1 tl.length c1], .int .i64 0]) ∧ Rd w' w'.heap.size b1 (tl.flatMap quad) := by
  rcases h with ⟨nid', tl', b1, c1, h1, h2, h3, h4, h5⟩ | ⟨h1, h2⟩
  · obtain ⟨rfl, rfl⟩ := h3 _ _ hr hb
    exact ⟨b1, c1, h4, ownsRow_rd h5⟩
  · exact absurd hb (h1 _ _ hr)
theorem dcat_no {bs : List UInt8} (hn : ∀ nid tl, catR nid tl = true → encC nid tl ≠ bs) {w w' : World} {e : Ending} (h : DCat bs w w' e) :
    e = .returned (.tuple #[.agg #[.int .i64 0, .slice none 0 0], .int .i64 72]) := by
  rcases h with ⟨nid', tl', b1, c1, h1, h2, _⟩ | ⟨h1, h2⟩
  · exact absurd h2 (hn _ _ h1)
  · exact h2
/-- Nothing is both a manifest and a catalogue. -/
theorem enc_apart {id ns nx mk cl nid : Int} {segs : List Int} {prods : List P3} {tl : List T4} (hm : manR id ns nx mk cl segs prods = true) (hc : catR nid tl = true) : encC nid tl ≠ encM id ns nx mk cl segs prods := by
  unfold encC encM
  rw [if_pos hm, if_pos hc]
  intro e
  unfold wrapB at e
  injection e with e _
  exact absurd e (by decide)
theorem own_cap {w : World} {base : Nat} {e : TypeId} {size n cap : Nat} {b : Option Addr} {xs : List Value} (h : w.ownsRow base e size (.slice b n cap) n xs) : n ≤ cap := by
  rcases h.2 with ⟨hv, h0⟩ | ⟨g, c', cur, hv, _, _, hnc, _⟩
  · omega
  · injection hv with _ _ e2
    omega
theorem encC_len (nid : Int) (l : List T4) : (encC nid l).length ≤ 1109 := encC_small nid l
theorem dig_pow : ∀ (k u : Nat), u < 10 ^ (k + 1) → (Lib.decDigits u).length ≤ k + 1
  | 0, u, h => by rw [dig_small u (by simpa using h)]; simp
  | k + 1, u, h => by
    by_cases hu : u < 10
    · rw [dig_small u hu]; simp
    · rw [dig_big u hu, List.length_append]
      have h1 : u / 10 < 10 ^ (k + 1) := by
        rw [Nat.div_lt_iff_lt_mul (by decide)]
        rw [Nat.pow_succ] at h
        exact h
      have := dig_pow k (u / 10) h1
      simp
      omega
theorem dec_short {n : Int} (h : n < 1073741824) : (dec n).length ≤ 10 := dig_pow 9 n.toNat (by have h2 : (10 : Nat) ^ (9 + 1) = 10000000000 := (by decide); rw [h2]; omega)
theorem name_short (n : FN) : (nameN n).length ≤ 60 := by
  have hb : (baseN n).length ≤ 50 := by
    unfold baseN
    split
    · rename_i h
      have h1 := dec_short h.2.1.2
      have h2 := dec_short h.2.2.2
      simp [segB]; omega
    · split
      · rename_i h
        have h1 := dec_short h.2.1.2
        have h2 := dec_short h.2.2.2
        simp [hintB]; omega
      · split
        · rename_i h
          have h1 := dec_short h.2.1.2
          simp [manBA]; omega
        · split <;> simp [catB]
  unfold nameN
  split
  · simp
  · split
    · simp [tmpB]; omega
    · omega
/-- What the law holds all through: its three boxes, the two texts. -/
structure KR (w : World) (M C N : Array Value) (bX bY : Option Addr) (X Y : List UInt8) (W : World) : Prop where
  below : Below w.heap.size w W
  m : Box W w.heap.size 25 M
  c : Box W (w.heap.size + 1) 28 C
  n : Box W (w.heap.size + 2) 30 N
  x : Rd W W.heap.size bX (bv X)
  y : Rd W W.heap.size bY (bv Y)
theorem KR.next {w W W' : World} {M C N : Array Value} {bX bY : Option Addr} {X Y : List UInt8} (h : KR w M C N bX bY X Y W) (hb : Below W.heap.size W W') : KR w M C N bX bY X Y W' :=
  ⟨h.below.trans (hb.mono h.below.size), h.m.below hb h.m.lt, h.c.below hb h.c.lt, h.n.below hb h.n.lt, (h.x.below hb).mono hb.size, (h.y.below hb).mono hb.size⟩
end Go.Proofs.YtdeaefbjddodjaaGreatDoor
/- ManifestRound: the law, walked. -/
namespace Go.Proofs.YtdeaefbjddodjaaGreatDoor
open Go.RowKit Go.Maps

set_option maxRecDepth 100000 in
set_option maxHeartbeats 16000000 in
theorem round_law (id ns nx mk cl nid : Int) (A1 A2 A3 A4 : Option Addr) (c d e nb cb : Nat) (segs : List Int) (prods : List P3) (tl : List T4) (bs : List UInt8) (k i g : Int) (t : Bool) (s : List UInt8) (w : World) (E : Env w)
    (hA1 : Rd w w.heap.size A1 (segs.map (.int .i64))) (hA2 : Rd w w.heap.size A2 (prods.flatMap tri)) (hA3 : Rd w w.heap.size A3 (tl.flatMap quad)) (hA4 : Rd w w.heap.size A4 (bv bs))
    (ha : segs.length ≤ 1048576) (hb : prods.length ≤ 1048576) (hc : tl.length ≤ 1048576) (hn : bs.length = nb) (hnc : nb ≤ cb) (hmx : nb ≤ 1048576) (hs : s.length ≤ 1048576)
    (hws : ∀ s ∈ segs, (Lit.int .i64 s).wf = true) (hwt : ∀ t ∈ tl, (Lit.int .i64 t.id).wf = true ∧ t.name.size ≤ maxLen) :
    Calls Tryz.prog 3 #[manV id ns nx mk cl (.slice A1 segs.length c) (.slice A2 prods.length d), catV nid (.slice A3 tl.length e), .agg #[.int .i64 k, .int .i64 i, .int .i64 g, .bool t], .slice A4 nb cb, .string ⟨s.toArray⟩] w fun ee w' => ee = .returned (.bool true) ∧ Below w.heap.size w w' := by
  have hr : ∀ W, Below w.heap.size w W → Rd W W.heap.size A1 (segs.map (.int .i64)) ∧ Rd W W.heap.size A2 (prods.flatMap tri) ∧ Rd W W.heap.size A3 (tl.flatMap quad) ∧ Rd W W.heap.size A4 (bv bs) := fun W hb =>
    ⟨(hA1.below hb).mono hb.size, (hA2.below hb).mono hb.size, (hA3.below hb).mono hb.size, (hA4.below hb).mono hb.size⟩
  have Hr := Lib.hid hr
  have Hn := Lib.hid hn
  have Hws := Lib.hid hws
  have Hwt := Lib.hid hwt
  have EE := Lib.hid E
  have hb2 : Below w.heap.size w (((w.alloc (.cells #[.int .i64 id, .int .i64 ns, .int .i64 nx, .int .i64 mk, .int .i64 cl, .slice A1 segs.length c, .slice A2 prods.length d] 25)).alloc (.cells #[.int .i64 nid, .slice A3 tl.length e] 28)).alloc (.cells #[.int .i64 k, .int .i64 i, .int .i64 g, .bool t] 30)) := ((Below.al _ _).alloc (by simp) _).alloc (by simp <;> omega) _
  have hm2 : Box (((w.alloc (.cells #[.int .i64 id, .int .i64 ns, .int .i64 nx, .int .i64 mk, .int .i64 cl, .slice A1 segs.length c, .slice A2 prods.length d] 25)).alloc (.cells #[.int .i64 nid, .slice A3 tl.length e] 28)).alloc (.cells #[.int .i64 k, .int .i64 i, .int .i64 g, .bool t] 30)) w.heap.size 25 #[.int .i64 id, .int .i64 ns, .int .i64 nx, .int .i64 mk, .int .i64 cl, .slice A1 segs.length c, .slice A2 prods.length d] := ((Box.new _ _ _).alloc _).alloc _
  have hc2 : Box (((w.alloc (.cells #[.int .i64 id, .int .i64 ns, .int .i64 nx, .int .i64 mk, .int .i64 cl, .slice A1 segs.length c, .slice A2 prods.length d] 25)).alloc (.cells #[.int .i64 nid, .slice A3 tl.length e] 28)).alloc (.cells #[.int .i64 k, .int .i64 i, .int .i64 g, .bool t] 30)) (w.heap.size + 1) 28 #[.int .i64 nid, .slice A3 tl.length e] := by simpa using (Box.new (w.alloc (.cells #[.int .i64 id, .int .i64 ns, .int .i64 nx, .int .i64 mk, .int .i64 cl, .slice A1 segs.length c, .slice A2 prods.length d] 25)) 28 #[.int .i64 nid, .slice A3 tl.length e]).alloc (.cells #[.int .i64 k, .int .i64 i, .int .i64 g, .bool t] 30)
  have hn2 : Box (((w.alloc (.cells #[.int .i64 id, .int .i64 ns, .int .i64 nx, .int .i64 mk, .int .i64 cl, .slice A1 segs.length c, .slice A2 prods.length d] 25)).alloc (.cells #[.int .i64 nid, .slice A3 tl.length e] 28)).alloc (.cells #[.int .i64 k, .int .i64 i, .int .i64 g, .bool t] 30)) (w.heap.size + 2) 30 #[.int .i64 k, .int .i64 i, .int .i64 g, .bool t] := by simpa using Box.new ((w.alloc (.cells #[.int .i64 id, .int .i64 ns, .int .i64 nx, .int .i64 mk, .int .i64 cl, .slice A1 segs.length c, .slice A2 prods.length d] 25)).alloc (.cells #[.int .i64 nid, .slice A3 tl.length e] 28)) 30 #[.int .i64 k, .int .i64 i, .int .i64 g, .bool t]
  have H0 := Lib.hid (And.intro hb2 (And.intro hm2 (And.intro hc2 hn2)))
  obtain ⟨X, hX⟩ : ∃ X, encM id ns nx mk cl segs prods = X := ⟨_, rfl⟩
  obtain ⟨Y, hY⟩ : ∃ X, encC nid tl = X := ⟨_, rfl⟩
  obtain ⟨nX, hnX⟩ : ∃ n, X.length = n := ⟨_, rfl⟩
  obtain ⟨nY, hnY⟩ : ∃ n, Y.length = n := ⟨_, rfl⟩
  obtain ⟨E1, hE1⟩ : ∃ n, manE id ns nx mk cl segs prods = n := ⟨_, rfl⟩
  obtain ⟨E2, hE2⟩ : ∃ n, catE nid tl = n := ⟨_, rfl⟩
  have hlX : nX ≤ 2639 := by rw [← hnX, ← hX]; exact encM_small2 _ _ _ _ _ _ _
  have hlY : nY ≤ 1109 := by rw [← hnY, ← hY]; exact encC_len _ _
  have HX := Lib.hid (And.intro hX (And.intro hnX hE1))
  have HY := Lib.hid (And.intro hY (And.intro hnY hE2))
  obtain ⟨i0, n0, x0, m0, k0, S0, P0, er, hl1, hl2, hwS, her, hdm⟩ := dman_two bs
  obtain ⟨j0, Q0, fr, hl3, hwQ, hfr, hdc⟩ := dcat_two bs
  have HD := Lib.hid (And.intro hwS (And.intro her hdm))
  have HF := Lib.hid (And.intro hwQ (And.intro hfr hdc))
  have CN := Lib.hid (fun W E => nameM_any k i g t W E)
  have CP := Lib.hid (fun W E => parseM_any s W E hs)
  have hpn : ∀ nm, nameN ⟨k, i, g, t⟩ = nm → nm ≠ [] → parseP nm = ⟨k, i, g, t⟩ := fun nm h1 h2 => parseP_name h1 h2
  obtain ⟨nm, hnm⟩ : ∃ nm, nameN ⟨k, i, g, t⟩ = nm := ⟨_, rfl⟩
  rw [hnm] at CN
  have HNM := Lib.hid (hpn nm hnm)
  have hps := parseP_says s
  generalize parseP s = pv at CP hps
  have HPS := Lib.hid hps
  have hnl : nm.length ≤ 1048576 := by rw [← hnm]; exact Nat.le_trans (name_short _) (by decide)
  have CQ := Lib.hid (fun W E => parseM_any nm W E hnl)
  obtain ⟨pk, pi, pg, pt⟩ := pv
  have CR := Lib.hid (fun W E => nameM_any pk pi pg pt W E)
  simp only [FN.v] at CP
  obtain ⟨S, hS⟩ : ∃ S : ByteArray, (⟨s.toArray⟩ : ByteArray) = S := ⟨_, rfl⟩
  obtain ⟨NM, hNM⟩ : ∃ S : ByteArray, (⟨nm.toArray⟩ : ByteArray) = S := ⟨_, rfl⟩
  rw [hNM] at CN CQ
  rw [hS] at CP
  rw [hS]
  have HSN := Lib.hid (And.intro hS hNM)
  clear hnl hS hNM
  clear hr hA1 hA2 hA3 hA4 hn hws hwt E hb2 hm2 hc2 hn2 hX hY hnX hnY hE1 hE2 hwS her hdm hwQ hfr hdc hpn hnm hps hs
  go_enter Tryz.func3, Tryz.ntmps3
  go_upto_if 61 with (first
    | (go_at_call 4
       refine (octEncode id ns nx mk cl A1 A2 c d segs prods _ (Hr.out _ H0.out.1).1 (Hr.out _ H0.out.1).2.1 Hws.out).mono ?_
       rintro ee w1 ⟨bX, cX, rfl, hown, hb1⟩
       rw [HX.out.1, HX.out.2.1, HX.out.2.2]
       rw [HX.out.1, HX.out.2.1] at hown
       have hcX := own_cap hown
       have z1 := hb1.size
       simp only [World.size_alloc] at z1
       have H1 := Lib.hid (And.intro (H0.out.1.trans (hb1.mono (by simp <;> omega))) (And.intro (H0.out.2.1.below hb1 (by simp <;> omega)) (And.intro (H0.out.2.2.1.below hb1 (by simp <;> omega)) (And.intro (H0.out.2.2.2.below hb1 (by simp)) (ownsRow_rd hown)))))
       have q1 := H1.out.2.1.cell
       have q2 := H1.out.2.2.1.cell
       have q3 := H1.out.2.2.2.1.cell
       have q4 := H1.out.2.1.lt
       have q5 := H1.out.2.2.1.lt
       have q6 := H1.out.2.2.2.1.lt
       clear hown hb1)
    | (go_at_call 5
       refine (octEncodeC nid A3 e tl _ (Hr.out _ H1.out.1).2.2.1 Hwt.out).mono ?_
       rintro ee w2 ⟨bY, cY, rfl, hown, hb2⟩
       rw [HY.out.1, HY.out.2.1, HY.out.2.2]
       rw [HY.out.1, HY.out.2.1] at hown
       have hcY := own_cap hown
       clear q1 q2 q3 q4 q5 q6
       have hk2 : KR w #[.int .i64 id, .int .i64 ns, .int .i64 nx, .int .i64 mk, .int .i64 cl, .slice A1 segs.length c, .slice A2 prods.length d] #[.int .i64 nid, .slice A3 tl.length e] #[.int .i64 k, .int .i64 i, .int .i64 g, .bool t] bX bY X Y w2 := ⟨H1.out.1.trans (hb2.mono H1.out.1.size), H1.out.2.1.below hb2 H1.out.2.1.lt, H1.out.2.2.1.below hb2 H1.out.2.2.1.lt, H1.out.2.2.2.1.below hb2 H1.out.2.2.2.1.lt, (H1.out.2.2.2.2.below hb2).mono hb2.size, ownsRow_rd hown⟩
       have q1 := hk2.m.cell
       have q2 := hk2.c.cell
       have q3 := hk2.n.cell
       have q4 := hk2.m.lt
       have q5 := hk2.c.lt
       have q6 := hk2.n.lt
       have K2 := Lib.hid hk2
       clear hown hb2 hk2 H1)
    | (go_at_call 6
       refine (works_any _).mono ?_
       rintro ee w3 ⟨rfl, hb⟩
       clear q1 q2 q3 q4 q5 q6
       have hk := K2.out.next hb
       have q1 := hk.m.cell
       have q2 := hk.c.cell
       have q3 := hk.n.cell
       have q4 := hk.m.lt
       have q5 := hk.c.lt
       have q6 := hk.n.lt
       have K3 := Lib.hid hk
       clear hk hb K2)
    | (go_at_call 7
       refine (check_any id ns nx mk cl A1 A2 c d segs prods _ (Hr.out _ K3.out.below).1 (Hr.out _ K3.out.below).2.1 Hws.out).mono ?_
       rintro ee w4 ⟨rfl, hb⟩
       rw [HX.out.2.2]
       clear q1 q2 q3 q4 q5 q6
       have hk := K3.out.next hb
       have q1 := hk.m.cell
       have q2 := hk.c.cell
       have q3 := hk.n.cell
       have q4 := hk.m.lt
       have q5 := hk.c.lt
       have q6 := hk.n.lt
       have K4 := Lib.hid hk
       clear hk hb K3)
    | (go_at_call 8
       refine (checkCat_any nid A3 e tl _ (Hr.out _ K4.out.below).2.2.1 Hwt.out).mono ?_
       rintro ee w5 ⟨rfl, hb⟩
       rw [HY.out.2.2]
       clear q1 q2 q3 q4 q5 q6
       have hk := K4.out.next hb
       have q1 := hk.m.cell
       have q2 := hk.c.cell
       have q3 := hk.n.cell
       have q4 := hk.m.lt
       have q5 := hk.c.lt
       have q6 := hk.n.lt
       have K5 := Lib.hid hk
       clear hk hb K4))
  go_cut [] (fun wx => KR w #[.int .i64 id, .int .i64 ns, .int .i64 nx, .int .i64 mk, .int .i64 cl, .slice A1 segs.length c, .slice A2 prods.length d] #[.int .i64 nid, .slice A3 tl.length e] #[.int .i64 k, .int .i64 i, .int .i64 g, .bool t] bX bY X Y wx)
  case first =>
    by_cases hm : manR id ns nx mk cl segs prods = true
    case neg =>
      have hf : (E1 == 0) = false := by have := HX.out.2.2; unfold manE at this; rw [if_neg hm] at this; rw [← this]; rfl
      go_wp2_with fail
      go_meet
      case rel => exact K5.out
    case pos =>
      have hf : (E1 == 0) = true := by have := HX.out.2.2; unfold manE at this; rw [if_pos hm] at this; rw [← this]; rfl
      have HM := Lib.hid hm
      clear hm
      go_wp2_with (first
        | (go_at_call 9
           refine (manDecode bX nX cX X _ K5.out.x HX.out.2.1 hcX (by omega)).mono ?_
           rintro ee w6 ⟨hd, hb⟩
           obtain ⟨p1, f1, p2, f2, rfl, hr1, hr2⟩ := dman_of HM.out HX.out.1 hd
           have K6 := Lib.hid (K5.out.next hb)
           have HP := Lib.hid (And.intro hr1 hr2)
           clear hd hb hr1 hr2 q1 q2 q3 q4 q5 q6 K5)
        | (go_at_call 10
           refine (manDecodeC bX nX cX X _ (K6.out.next (Below.al w6 (.cells #[.int .i64 id, .int .i64 ns, .int .i64 nx, .int .i64 mk, .int .i64 cl, .slice p1 segs.length f1, .slice p2 prods.length f2] 25))).x HX.out.2.1 hcX (by omega)).mono ?_
           rintro ee w7 ⟨hd, hb⟩
           obtain rfl := dcat_no (fun nid' tl' hc he => enc_apart HM.out hc (he.trans HX.out.1.symm)) hd
           have hk := (K6.out.next (Below.al w6 (.cells #[.int .i64 id, .int .i64 ns, .int .i64 nx, .int .i64 mk, .int .i64 cl, .slice p1 segs.length f1, .slice p2 prods.length f2] 25))).next hb
           have hp := (Box.new w6 25 #[.int .i64 id, .int .i64 ns, .int .i64 nx, .int .i64 mk, .int .i64 cl, .slice p1 segs.length f1, .slice p2 prods.length f2]).below hb (by simp)
           have hb67 := (Below.al w6 (.cells #[.int .i64 id, .int .i64 ns, .int .i64 nx, .int .i64 mk, .int .i64 cl, .slice p1 segs.length f1, .slice p2 prods.length f2] 25)).trans (hb.mono (by simp))
           have HP7 := Lib.hid (And.intro ((HP.out.1.below hb67).mono hb67.size) ((HP.out.2.below hb67).mono hb67.size))
           have q1 := hk.m.cell
           have q2 := hk.c.cell
           have q3 := hk.n.cell
           have q4 := hk.m.lt
           have q5 := hk.c.lt
           have q6 := hk.n.lt
           have q7 := hp.cell
           have q8 := hp.lt
           have K7 := Lib.hid hk
           clear hd hb hk hp hb67 HP K6)
        | (go_at_call 11
           have hbz := Below.al w7 (.cells #[.int .i64 0, .slice none 0 0] 28)
           refine (sameMan_eq id ns nx mk cl p1 A1 p2 A2 f1 c f2 d segs prods _ ((HP7.out.1.below hbz).mono hbz.size) (Hr.out _ (K7.out.next hbz).below).1 ((HP7.out.2.below hbz).mono hbz.size) (Hr.out _ (K7.out.next hbz).below).2.1 (by unfold maxLen; omega) (by unfold maxLen; omega)).mono ?_
           rintro ee w8 ⟨rfl, hb⟩
           have K8 := Lib.hid ((K7.out.next hbz).next hb)
           clear hb hbz q1 q2 q3 q4 q5 q6 q7 q8 K7))
      go_meet
      case rel => exact K8.out
  case rest =>
    clear K5 q1 q2 q3 q4 q5 q6
    have K0 := Lib.hid hcut
    have q1 := hcut.m.cell
    have q2 := hcut.c.cell
    have q3 := hcut.n.cell
    have q4 := hcut.m.lt
    have q5 := hcut.c.lt
    have q6 := hcut.n.lt
    clear hcut
    go_upto_if 85 with fail
    go_cut [] (fun wx => KR w #[.int .i64 id, .int .i64 ns, .int .i64 nx, .int .i64 mk, .int .i64 cl, .slice A1 segs.length c, .slice A2 prods.length d] #[.int .i64 nid, .slice A3 tl.length e] #[.int .i64 k, .int .i64 i, .int .i64 g, .bool t] bX bY X Y wx)
    case first =>
      by_cases hm : catR nid tl = true
      case neg =>
        have hf : (E2 == 0) = false := by have := HY.out.2.2; unfold catE at this; rw [if_neg hm] at this; rw [← this]; rfl
        go_wp2_with fail
        go_meet
        case rel => exact K0.out
      case pos =>
        have hf : (E2 == 0) = true := by have := HY.out.2.2; unfold catE at this; rw [if_pos hm] at this; rw [← this]; rfl
        have HM := Lib.hid hm
        clear hm
        go_wp2_with (first
          | (go_at_call 10
             refine (manDecodeC bY nY cY Y _ K0.out.y HY.out.2.1 hcY (by omega)).mono ?_
             rintro ee w6 ⟨hd, hb⟩
             obtain ⟨p1, f1, rfl, hr1⟩ := dcat_of HM.out HY.out.1 hd
             have K6 := Lib.hid (K0.out.next hb)
             have HP := Lib.hid hr1
             clear hd hb hr1 q1 q2 q3 q4 q5 q6 K0)
          | (go_at_call 9
             refine (manDecode bY nY cY Y _ (K6.out.next (Below.al w6 (.cells #[.int .i64 nid, .slice p1 tl.length f1] 28))).y HY.out.2.1 hcY (by omega)).mono ?_
             rintro ee w7 ⟨hd, hb⟩
             obtain rfl := dman_no (fun _ _ _ _ _ _ _ hc he => enc_apart hc HM.out (HY.out.1.trans he.symm)) hd
             have hk := (K6.out.next (Below.al w6 (.cells #[.int .i64 nid, .slice p1 tl.length f1] 28))).next hb
             have hp := (Box.new w6 28 #[.int .i64 nid, .slice p1 tl.length f1]).below hb (by simp)
             have hb67 := (Below.al w6 (.cells #[.int .i64 nid, .slice p1 tl.length f1] 28)).trans (hb.mono (by simp))
             have HP7 := Lib.hid ((HP.out.below hb67).mono hb67.size)
             have q1 := hk.m.cell
             have q2 := hk.c.cell
             have q3 := hk.n.cell
             have q4 := hk.m.lt
             have q5 := hk.c.lt
             have q6 := hk.n.lt
             have q7 := hp.cell
             have q8 := hp.lt
             have K7 := Lib.hid hk
             clear hd hb hk hp hb67 HP K6)
          | (go_at_call 12
             have hbz := Below.al w7 (.cells #[.int .i64 0, .int .i64 0, .int .i64 0, .int .i64 0, .int .i64 0, .slice none 0 0, .slice none 0 0] 25)
             refine (sameCat_eq nid p1 A3 f1 e tl _ ((HP7.out.below hbz).mono hbz.size) (Hr.out _ (K7.out.next hbz).below).2.2.1 (by unfold maxLen; omega)).mono ?_
             rintro ee w8 ⟨rfl, hb⟩
             have K8 := Lib.hid ((K7.out.next hbz).next hb)
             clear hb hbz q1 q2 q3 q4 q5 q6 q7 q8 K7))
        go_meet
        case rel => exact K8.out
    case rest =>
      clear K0
      clear q1 q2 q3 q4 q5 q6
      have K0 := Lib.hid hcut
      have q1 := hcut.m.cell
      have q2 := hcut.c.cell
      have q3 := hcut.n.cell
      have q4 := hcut.m.lt
      have q5 := hcut.c.lt
      have q6 := hcut.n.lt
      clear hcut
      go_upto_if 114 with (first
        | (go_at_call 9
           refine (manDecode A4 nb cb bs _ (Hr.out _ K0.out.below).2.2.2 Hn.out hnc (by omega)).mono ?_
           rintro ee w6 ⟨hd, hb⟩
           obtain ⟨p1, f1, p2, f2, rfl, hr1, hr2⟩ := HD.out.2.2 _ _ _ hd
           have hb67 := Below.al w6 (.cells #[.int .i64 i0, .int .i64 n0, .int .i64 x0, .int .i64 m0, .int .i64 k0, .slice p1 S0.length f1, .slice p2 P0.length f2] 25)
           have hk := (K0.out.next hb).next hb67
           have HP := Lib.hid (And.intro ((hr1.below hb67).mono hb67.size) ((hr2.below hb67).mono hb67.size))
           clear q1 q2 q3 q4 q5 q6
           have q1 := hk.m.cell
           have q2 := hk.c.cell
           have q3 := hk.n.cell
           have q4 := hk.m.lt
           have q5 := hk.c.lt
           have q6 := hk.n.lt
           have q7 := (Box.new w6 25 #[.int .i64 i0, .int .i64 n0, .int .i64 x0, .int .i64 m0, .int .i64 k0, .slice p1 S0.length f1, .slice p2 P0.length f2]).cell
           have K1 := Lib.hid hk
           clear hd hb hr1 hr2 hk hb67 K0))
      go_cut [] (fun wx => KR w #[.int .i64 id, .int .i64 ns, .int .i64 nx, .int .i64 mk, .int .i64 cl, .slice A1 segs.length c, .slice A2 prods.length d] #[.int .i64 nid, .slice A3 tl.length e] #[.int .i64 k, .int .i64 i, .int .i64 g, .bool t] bX bY X Y wx)
      case first =>
        rcases HD.out.2.1 with hq | hq
        case inr =>
          have hf : (er == 0) = false := by rw [hq]; rfl
          clear hq
          go_wp2_with fail
          go_meet
          case rel => exact K1.out
        case inl =>
          have hf : (er == 0) = true := by rw [hq.1]; rfl
          have HQ := Lib.hid hq.2
          clear hq
          go_wp2_with (first
            | (go_at_call 4
               refine (octEncode i0 n0 x0 m0 k0 p1 p2 f1 f2 S0 P0 _ HP.out.1 HP.out.2 HD.out.1).mono ?_
               rintro ee w8 ⟨b8, f8, rfl, hown, hb⟩
               rw [HQ.out.1, HQ.out.2, Hn.out]
               rw [HQ.out.2, Hn.out] at hown
               have hk := K1.out.next hb
               clear q1 q2 q3 q4 q5 q6 q7
               have q1 := hk.m.cell
               have q2 := hk.c.cell
               have q3 := hk.n.cell
               have q4 := hk.m.lt
               have q5 := hk.c.lt
               have q6 := hk.n.lt
               have K8 := Lib.hid hk
               have HO := Lib.hid (ownsRow_rd hown)
               clear hown hb hk K1)
            | (go_at_call 13
               refine (lawSame b8 A4 nb nb f8 cb bs bs _ Hn.out Hn.out HO.out (Hr.out _ K8.out.below).2.2.2 (by omega) (by omega)).mono ?_
               rintro ee w9 ⟨rfl, hb⟩
               rw [show decide (bs = bs) = true from decide_eq_true rfl]
               have K9 := Lib.hid (K8.out.next hb)
               clear hb K8 q1 q2 q3 q4 q5 q6))
          go_meet
          case rel => exact K9.out
      case rest =>
        clear K1 q7
        clear q1 q2 q3 q4 q5 q6
        have K1 := Lib.hid hcut
        have q1 := hcut.m.cell
        have q2 := hcut.c.cell
        have q3 := hcut.n.cell
        have q4 := hcut.m.lt
        have q5 := hcut.c.lt
        have q6 := hcut.n.lt
        clear hcut
        go_upto_if 134 with (first
          | (go_at_call 10
             refine (manDecodeC A4 nb cb bs _ (Hr.out _ K1.out.below).2.2.2 Hn.out hnc (by omega)).mono ?_
             rintro ee w10 ⟨hd, hb⟩
             obtain ⟨p3, f3, rfl, hr1⟩ := HF.out.2.2 _ _ _ hd
             have hb67 := Below.al w10 (.cells #[.int .i64 j0, .slice p3 Q0.length f3] 28)
             have hk := (K1.out.next hb).next hb67
             have HP := Lib.hid ((hr1.below hb67).mono hb67.size)
             clear q1 q2 q3 q4 q5 q6
             have q1 := hk.m.cell
             have q2 := hk.c.cell
             have q3 := hk.n.cell
             have q4 := hk.m.lt
             have q5 := hk.c.lt
             have q6 := hk.n.lt
             have q7 := (Box.new w10 28 #[.int .i64 j0, .slice p3 Q0.length f3]).cell
             have K2 := Lib.hid hk
             clear hd hb hr1 hk hb67 K1))
        go_cut [] (fun wx => KR w #[.int .i64 id, .int .i64 ns, .int .i64 nx, .int .i64 mk, .int .i64 cl, .slice A1 segs.length c, .slice A2 prods.length d] #[.int .i64 nid, .slice A3 tl.length e] #[.int .i64 k, .int .i64 i, .int .i64 g, .bool t] bX bY X Y wx)
        case first =>
          rcases HF.out.2.1 with hq | hq
          case inr =>
            have hf : (fr == 0) = false := by rw [hq]; rfl
            clear hq
            go_wp2_with fail
            go_meet
            case rel => exact K2.out
          case inl =>
            have hf : (fr == 0) = true := by rw [hq.1]; rfl
            have HQ := Lib.hid hq.2
            clear hq
            go_wp2_with (first
              | (go_at_call 5
                 refine (octEncodeC j0 p3 f3 Q0 _ HP.out HF.out.1).mono ?_
                 rintro ee w11 ⟨b8, f8, rfl, hown, hb⟩
                 rw [HQ.out.1, HQ.out.2, Hn.out]
                 rw [HQ.out.2, Hn.out] at hown
                 have hk := K2.out.next hb
                 clear q1 q2 q3 q4 q5 q6 q7
                 have q1 := hk.m.cell
                 have q2 := hk.c.cell
                 have q3 := hk.n.cell
                 have q4 := hk.m.lt
                 have q5 := hk.c.lt
                 have q6 := hk.n.lt
                 have K8 := Lib.hid hk
                 have HO := Lib.hid (ownsRow_rd hown)
                 clear hown hb hk K2)
              | (go_at_call 13
                 refine (lawSame b8 A4 nb nb f8 cb bs bs _ Hn.out Hn.out HO.out (Hr.out _ K8.out.below).2.2.2 (by omega) (by omega)).mono ?_
                 rintro ee w12 ⟨rfl, hb⟩
                 rw [show decide (bs = bs) = true from decide_eq_true rfl]
                 have K9 := Lib.hid (K8.out.next hb)
                 clear hb K8 q1 q2 q3 q4 q5 q6))
            go_meet
            case rel => exact K9.out
        case rest =>
          clear K2 q7
          clear q1 q2 q3 q4 q5 q6
          have K2 := Lib.hid hcut
          have q1 := hcut.m.cell
          have q2 := hcut.c.cell
          have q3 := hcut.n.cell
          have q4 := hcut.m.lt
          have q5 := hcut.c.lt
          have q6 := hcut.n.lt
          clear hcut
          go_upto_region 27 with (first
            | (go_at_call 14
               refine (CN.out _ (EE.out.below K2.out.below).tab).mono ?_
               rintro ee w13 ⟨rfl, hb⟩
               have hk := K2.out.next hb
               clear q1 q2 q3 q4 q5 q6
               have q1 := hk.m.cell
               have q2 := hk.c.cell
               have q3 := hk.n.cell
               have q4 := hk.m.lt
               have q5 := hk.c.lt
               have q6 := hk.n.lt
               have K3 := Lib.hid hk
               clear hk hb K2)
            | (go_at_call 15
               refine (CP.out _ (EE.out.below K3.out.below)).mono ?_
               rintro ee w14 ⟨rfl, hb⟩
               have hk := (K3.out.next hb).next (Below.al w14 (.cells #[.int .i64 pk, .int .i64 pi, .int .i64 pg, .bool pt] 30))
               have hp := Box.new w14 30 #[.int .i64 pk, .int .i64 pi, .int .i64 pg, .bool pt]
               clear q1 q2 q3 q4 q5 q6
               have q1 := hk.m.cell
               have q2 := hk.c.cell
               have q3 := hk.n.cell
               have q4 := hk.m.lt
               have q5 := hk.c.lt
               have q6 := hk.n.lt
               have q7 := hp.cell
               have HB := Lib.hid hp
               have K4 := Lib.hid hk
               clear hk hb hp K3))
          by_cases hz : nm = []
          · have k1 : (NM.toList == []) = true := by rw [← HSN.out.2]; exact beq_yes2 hz
            clear hz
            go_quiet (fail)
            generalize hw9 : World.drewN _ _ = w15
            have K5 := Lib.hid (show KR w #[.int .i64 id, .int .i64 ns, .int .i64 nx, .int .i64 mk, .int .i64 cl, .slice A1 segs.length c, .slice A2 prods.length d] #[.int .i64 nid, .slice A3 tl.length e] #[.int .i64 k, .int .i64 i, .int .i64 g, .bool t] bX bY X Y w15 by rw [← hw9]; exact K4.out.next (below_drewN (Below.refl _ _) _))
            have hp : Box w15 w14.heap.size 30 #[.int .i64 pk, .int .i64 pi, .int .i64 pg, .bool pt] := by rw [← hw9]; exact HB.out.drewN _
            clear hw9 q7 q1 q2 q3 q4 q5 q6 HB K4
            have HB5 := Lib.hid hp
            rcases HPS.out with hz0 | ⟨_, hz0⟩
            · injection hz0 with z1 z2 z3 z4
              subst z1 z2 z3 z4
              have q7 := hp.cell
              clear hp
              go_wp2_with fail
              go_ret
              exact ⟨rfl, K5.out.below⟩
            · have q7 := hp.cell
              clear hp
              by_cases hk0 : pk = 0
              · subst hk0
                clear hz0
                go_wp2_with fail
                go_ret
                exact ⟨rfl, K5.out.below⟩
              · have hkf : (pk == 0) = false := by simpa using hk0
                have hse : (⟨(nameN ⟨pk, pi, pg, pt⟩).toArray⟩ : ByteArray) = S := by rw [hz0]; exact HSN.out.1
                rw [hse] at CR
                have hss : (S.toList == S.toList) = true := beq_self_eq_true _
                clear hz0 hse
                go_wp2_with (first
                  | (go_at_call 14
                     refine (CR.out _ (EE.out.below K5.out.below).tab).mono ?_
                     rintro ee w16 ⟨rfl, hb⟩
                     have K6 := Lib.hid (K5.out.next hb)
                     clear hb K5))
                go_ret
                exact ⟨rfl, K6.out.below⟩
          · have k1 : (NM.toList == []) = false := by rw [← HSN.out.2]; exact beq_no2 hz
            have hpn := HNM.out hz
            rw [hpn] at CQ
            simp only [FN.v] at CQ
            clear hz hpn
            have hKd := K4.out.next (below_drewN (Below.refl _ _) 1)
            have hs : w.heap.size + 2 < ((w14.alloc (.cells #[.int .i64 pk, .int .i64 pi, .int .i64 pg, .bool pt] 30)).drew).heap.size ∧ ((w14.alloc (.cells #[.int .i64 pk, .int .i64 pi, .int .i64 pg, .bool pt] 30)).drew).cell? ⟨w.heap.size + 2, 0, none⟩ = some (.int .i64 k) ∧ ((w14.alloc (.cells #[.int .i64 pk, .int .i64 pi, .int .i64 pg, .bool pt] 30)).drew).cell? ⟨w.heap.size + 2, 1, none⟩ = some (.int .i64 i) ∧ ((w14.alloc (.cells #[.int .i64 pk, .int .i64 pi, .int .i64 pg, .bool pt] 30)).drew).cell? ⟨w.heap.size + 2, 2, none⟩ = some (.int .i64 g) ∧ ((w14.alloc (.cells #[.int .i64 pk, .int .i64 pi, .int .i64 pg, .bool pt] 30)).drew).cell? ⟨w.heap.size + 2, 3, none⟩ = some (.bool t) := ⟨hKd.n.lt, hKd.n.cell 0, hKd.n.cell 1, hKd.n.cell 2, hKd.n.cell 3⟩
            have hd0 : Below (w14.alloc (.cells #[.int .i64 pk, .int .i64 pi, .int .i64 pg, .bool pt] 30)).heap.size (w14.alloc (.cells #[.int .i64 pk, .int .i64 pi, .int .i64 pg, .bool pt] 30)) ((w14.alloc (.cells #[.int .i64 pk, .int .i64 pi, .int .i64 pg, .bool pt] 30)).drew) := ⟨rfl, rfl, rfl, Nat.le_refl _, fun _ _ => rfl⟩
            have HD0 := Lib.hid hd0
            clear hd0 hKd q7 q1 q2 q3 q4 q5 q6
            go_region_held3 (fun w' => w.heap.size + 2 < (w').heap.size ∧ (w').cell? ⟨w.heap.size + 2, 0, none⟩ = some (.int .i64 k) ∧ (w').cell? ⟨w.heap.size + 2, 1, none⟩ = some (.int .i64 i) ∧ (w').cell? ⟨w.heap.size + 2, 2, none⟩ = some (.int .i64 g) ∧ (w').cell? ⟨w.heap.size + 2, 3, none⟩ = some (.bool t))
              (first | with_reducible exact hs)
              (first
                | (go_at_call 15
                   refine (CQ.out _ (EE.out.below (K4.out.next HD0.out).below)).mono ?_
                   rintro ee w15 ⟨rfl, hb⟩
                   have hk := (K4.out.next HD0.out).next hb
                   have hp := (HB.out.below HD0.out (by simp)).below hb (by simp)
                   clear hs
                   have hs : w.heap.size + 2 < (w15).heap.size ∧ (w15).cell? ⟨w.heap.size + 2, 0, none⟩ = some (.int .i64 k) ∧ (w15).cell? ⟨w.heap.size + 2, 1, none⟩ = some (.int .i64 i) ∧ (w15).cell? ⟨w.heap.size + 2, 2, none⟩ = some (.int .i64 g) ∧ (w15).cell? ⟨w.heap.size + 2, 3, none⟩ = some (.bool t) := ⟨hk.n.lt, hk.n.cell 0, hk.n.cell 1, hk.n.cell 2, hk.n.cell 3⟩
                   have K5 := Lib.hid hk
                   clear hb hk HB K4))
            clear hs
            have HB5 := Lib.hid hp
            rcases HPS.out with hz0 | ⟨_, hz0⟩
            · injection hz0 with z1 z2 z3 z4
              subst z1 z2 z3 z4
              have q7 := hp.cell
              clear hp
              go_wp2_with fail
              go_ret
              exact ⟨rfl, K5.out.below⟩
            · have q7 := hp.cell
              clear hp
              by_cases hk0 : pk = 0
              · subst hk0
                clear hz0
                go_wp2_with fail
                go_ret
                exact ⟨rfl, K5.out.below⟩
              · have hkf : (pk == 0) = false := by simpa using hk0
                have hse : (⟨(nameN ⟨pk, pi, pg, pt⟩).toArray⟩ : ByteArray) = S := by rw [hz0]; exact HSN.out.1
                rw [hse] at CR
                have hss : (S.toList == S.toList) = true := beq_self_eq_true _
                clear hz0 hse
                go_wp2_with (first
                  | (go_at_call 14
                     refine (CR.out _ (EE.out.below K5.out.below).tab).mono ?_
                     rintro ee w16 ⟨rfl, hb⟩
                     have K6 := Lib.hid (K5.out.next hb)
                     clear hb K5))
                go_ret
                exact ⟨rfl, K6.out.below⟩
end Go.Proofs.YtdeaefbjddodjaaGreatDoor
