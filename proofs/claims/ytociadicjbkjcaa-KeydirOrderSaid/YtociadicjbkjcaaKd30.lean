import Derived.Test.YtociadicjbkjcaaKd29
/- Prefix: the iterator that goes through All's and hands each entry on. -/
namespace Go.Proofs.Ytociadicjbkjcaa
open Go.RowKit Go.Maps Go.Shelf
attribute [local go_sem] Oper.semAt_some

/-- What After is known to answer of p. -/
def AftC (p hi : ByteArray) (ok : Bool) : Prop := ∀ W : World, Calls Try.prog 45 #[.string p] W fun e w' => e = .returned (.tuple #[.string hi, .bool ok]) ∧ Below W.heap.size W w'
theorem filt_pre (p : ByteArray) (xs : List KE) : (xs.filter (preB p)).length ≤ xs.length := List.length_filter_le _ _

set_option maxRecDepth 100000 in
set_option maxHeartbeats 4000000 in
theorem prefix_yes (n : Nat) (hn : 1 ≤ n) (p hi : ByteArray) (hz : p.size ≤ maxLen) (hhz : hi.size ≤ maxLen) (hA : ∀ W : World, Calls Try.prog 45 #[.string p] W fun e w' => e = .returned (.tuple #[.string hi, .bool true]) ∧ Below W.heap.size W w') 
    (hsel : ∀ xs, sel p hi xs = xs.filter (preB p)) (pb db : Nat) (dp q : Option Addr) (T : Tn) (w : World) (hs : Sorted T.flat) (hk : KeysOk T.flat) (hT : Tr w w.heap.size T q) (hd : DTop w dp q)
    (h1 : Box w pb 9 #[.string p]) (h2 : Box w db 29 #[.pointer dp]) :
    SeqM Wf n Try.prog 44 #[.pointer (some ⟨pb, 0, none⟩), .pointer (some ⟨db, 0, none⟩)] encK Kp (fun ys => ys = T.flat.filter (preB p)) (fun pre => pre <+: T.flat.filter (preB p)) (T.flat.filter (preB p)).length w := by
  intro l J Jx W hW hl hJ hJx hY h0
  have HA := Lib.hid hA
  have HSEL := Lib.hid (hsel T.flat)
  have by1 := Box.new W 85 #[.func (.yield l) #[] #[]]
  have hbW : Below W.heap.size W (W.alloc (.cells #[.func (.yield l) #[] #[]] 85)) := bal W _
  have hp1 := (h1.below hW h1.lt).below hbW (h1.below hW h1.lt).lt
  have hd1 := (h2.below hW h2.lt).below hbW (h2.below hW h2.lt).lt
  have hpc := hp1.cell 0
  have hpl := hp1.lt
  have HJ := Lib.hid (And.intro hJ (And.intro hJx (And.intro hY h0)))
  have HT := Lib.hid (And.intro ((hT.below hW).below hbW) ((hd.below hW).below hbW))
  have H1 := Lib.hid (And.intro by1 (And.intro hp1 (And.intro hd1 hbW)))
  clear hA hsel by1 hbW hp1 hd1 hJ hJx hY h0 hT hd
  refine callsIn_of_wp_marks Try.func44 rfl trivial ?_ rfl
  simp only [Try.ntmps44, List.size_toArray, List.length_cons, List.length_nil, Nat.reduceAdd, Nat.reduceSub, Array.replicate_succ, Array.replicate_zero, List.push_toArray, List.append_toArray, List.nil_append, List.cons_append]
  gi_wp2_with (first
    | (gi_at_call 45
       refine (wfc (HA.out _)).mono ?_
       rintro e w1 ⟨rfl, hb1⟩
       have hy2 := H1.out.1.below hb1 H1.out.1.lt
       have hp2 := H1.out.2.1.below hb1 H1.out.2.1.lt
       have hd2 := H1.out.2.2.1.below hb1 H1.out.2.2.1.lt
       have hpc2 := hp2.cell 0
       have hdc2 := hd2.cell 0
       have hpl2 := hp2.lt
       have hdl2 := hd2.lt
       have hs1 := hb1.size
       have H2 := Lib.hid (And.intro hy2 (And.intro hp2 (And.intro hd2 (And.intro (H1.out.2.2.2.trans (hb1.mono H1.out.2.2.2.size)) (And.intro (HT.out.1.below hb1) (HT.out.2.below hb1))))))
       clear hb1 hy2 hp2 hd2)
    | (gi_at_call 27
       refine (wfc (all_any dp p hi _)).mono ?_
       rintro e w' ⟨rfl, rfl⟩))
  have b3 := Box.new w1 29 #[.pointer dp]
  have b4 := Box.new (w1.alloc (.cells #[.pointer dp] 29)) 9 #[.string p]
  have b5 := Box.new ((w1.alloc (.cells #[.pointer dp] 29)).alloc (.cells #[.string p] 9)) 9 #[.string hi]
  have hb0 : Below w1.heap.size w1 (((w1.alloc (.cells #[.pointer dp] 29)).alloc (.cells #[.string p] 9)).alloc (.cells #[.string hi] 9)) :=
    (((Below.refl _ _).alloc (Nat.le_refl _) _).alloc (by simp) _).alloc (by simp <;> omega) _
  simp only [World.size_alloc] at b4 b5
  have b3' := (b3.alloc (.cells #[.string p] 9)).alloc (.cells #[.string hi] 9)
  have b4' := b4.alloc (.cells #[.string hi] 9)
  have hsz : (((w1.alloc (.cells #[.pointer dp] 29)).alloc (.cells #[.string p] 9)).alloc (.cells #[.string hi] 9)).heap.size = w1.heap.size + 3 := by simp
  obtain ⟨W0, hW0⟩ : ∃ W0, (((w1.alloc (.cells #[.pointer dp] 29)).alloc (.cells #[.string p] 9)).alloc (.cells #[.string hi] 9)) = W0 := ⟨_, rfl⟩
  rw [hW0] at b3' b4' b5 hb0 hsz ⊢
  clear hW0 b3 b4
  have hs1' : W.heap.size + 1 ≤ w1.heap.size := by rw [World.size_alloc] at hs1; exact hs1
  have hbW0 : Below W.heap.size W W0 := H2.out.2.2.2.1.trans (hb0.mono H2.out.2.2.2.1.size)
  have hJ0 : J [] W0 := HJ.out.1 _ _ _ none HJ.out.2.2.2 ⟨hbW0.os, hbW0.tape, hbW0.output, hbW0.size, fun k hk _ => hbW0.block k hk⟩ (fun r e => by cases e)
  have hy0 := H2.out.1.below hb0 H2.out.1.lt
  refine wpIn_rangeFunc_ownH rfl hn (gf := 42) (lb := #[.pointer (some ⟨w1.heap.size + 1, 0, none⟩), .pointer (some ⟨w1.heap.size + 2, 0, none⟩), .pointer (some ⟨w1.heap.size, 0, none⟩)]) rfl trivial (enters_of Try.func42 (by kernel_rfl) rfl)
    (all_stops (n - 1) p hi hz hhz _ _ _ dp q T W0 hs hk (H2.out.2.2.2.2.1.below hb0) (H2.out.2.2.2.2.2.below hb0) b4' b5 b3') (fun h k => Kp.trans h k) (fun W l o o' _ h hc _ => kp_put W l o o' h hc) (Below.refl _ _) (fun _ => rfl)
    (fun (pre : List KE) V => J pre V ∧ Box V W.heap.size 85 #[.func (.yield l) #[] #[]])
    (fun c (pre : List KE) V => c = .ret ∧ Jx pre V)
    (OwnFrom.and (own_up HJ.out.1 (by omega)) (box_own1 _ _ _ _))
    (fun c => OwnFrom.and (ownFrom_pure _ _) (own_up HJ.out.2.1 (by omega)))
    ⟨hJ0, hy0⟩
    (fun (x : KE) a' V => ∃ Bx, W.heap.size + 1 ≤ Bx ∧ Box V Bx 26 x.2.cells.toArray ∧ a' = { tmps := #[.func (.yield l) #[] #[], .pointer (some ⟨pb, 0, none⟩), .pointer (some ⟨db, 0, none⟩), .pointer (some ⟨W.heap.size, 0, none⟩), .string hi, .bool true, .string x.1, .pointer (some ⟨Bx, 0, none⟩), .tuple #[.string hi, .bool true], .string p, .tuple #[.string hi, .bool true], .string hi, .bool true, .bool true, .bool false, .pointer dp, .string p, .string hi, .func (.func 42) #[] #[.pointer (some ⟨w1.heap.size + 1, 0, none⟩), .pointer (some ⟨w1.heap.size + 2, 0, none⟩), .pointer (some ⟨w1.heap.size, 0, none⟩)], .string x.1, x.2.v, undef, undef, undef, undef, undef], defers := [] })
    (fun x a' s A B row h hg hr => by obtain ⟨Bx, h1, h2, h3⟩ := h; exact ⟨Bx, h1, box_own1 (β := Unit) _ Bx _ _ s A B row h2 hg hr, h3⟩)
    ?assign ?body ?done ?stop
  case assign =>
    rintro l2 pre x V K ⟨hj, hbx⟩ hK
    unfold encK
    gi_wp2
    have hv := hbx.lt
    refine hK _ _ ((KeepsOthers.alloc _ _).from _) (Kp.of_below (bal _ _)) ⟨HJ.out.1.alloc _ hj, hbx.alloc _⟩ ⟨V.heap.size, by omega, Box.new V _ _, rfl⟩
  case body =>
    rintro l2 pre x a' V hl2 ⟨r, hr⟩ ⟨hj, hbx⟩ ⟨Bx, hBx, bX, rfl⟩ hlN
    have hcx := bX.cell
    unfold En.cells at hcx
    have hyc := hbx.cell 0
    have hy1 := HJ.out.2.2.1 pre x V hj (by rw [HSEL.out] at hlN; exact hlN)
    have hbxl := hbx.lt
    clear hr hj bX hlN
    obtain ⟨fn, tmps, assign, body, hy, hR⟩ := YieldAt.any (m' := n - 1 - 1 - 1) hy1
    dsimp only [encK] at hy
    have hR2 : RoundIn (Wf.inRound l2) (n - 1 - 1 - 1) Try.prog l fn tmps assign body V (fun e V' => ((e = .returned (.bool true) ∧ J (pre ++ [x]) V' ∧ Kp V V') ∨ (e = .returned (.bool false) ∧ Jx (pre ++ [x]) V')) ∧ KeepsFrom W.heap.size V V') := hR
    have HR := Lib.hid hR2
    have HBX := Lib.hid hbx
    clear hR hR2 hy1 hbx
    gi_wp2
    (with_reducible refine RoundIn.mono HR.out ?_)
    rintro e V' ⟨⟨rfl, hj', hk'⟩ | ⟨rfl, hj'⟩, hkf⟩
    · have HV := Lib.hid (And.intro hj' (And.intro hk' hkf))
      clear hj' hk' hkf
      gi_wp2
      exact ⟨keeps_up HV.out.2.2 (by omega), HV.out.2.1, HV.out.1, HV.out.2.1.box (.inr (.inr (.inl rfl))) HBX.out⟩
    · have HV := Lib.hid (And.intro hj' hkf)
      clear hj' hkf
      gi_wp2
      exact ⟨keeps_up HV.out.2 (by omega), rfl, HV.out.1⟩
  case done =>
    rintro D ys V hD rfl ⟨hj, hbx⟩ hK
    have HH := Lib.hid hj
    have HKK := Lib.hid hK
    clear hj hbx hK
    gi_wp2
    refine ⟨by simp, .inl ⟨_, _, rfl, run_takeDeferred HKK.out, ?_⟩⟩
    refine ⟨_, results_none rfl _ _ _, ⟨_, rfl⟩, .inl ⟨_, rfl, ?_⟩⟩
    rw [← HSEL.out]
    exact (own_up HJ.out.1 (by omega)).putObj _ HH.out hD HKK.out rfl
  case stop =>
    rintro D c pre V hD hpre ⟨rfl, hj⟩ hK
    have HH := Lib.hid (And.intro hj hpre)
    have HKK := Lib.hid hK
    clear hj hK hpre
    gi_wp2
    refine ⟨by simp, .inl ⟨_, _, rfl, run_takeDeferred HKK.out, ?_⟩⟩
    refine ⟨_, results_none rfl _ _ _, ⟨_, rfl⟩, .inr ⟨pre, ?_, ?_⟩⟩
    · rw [← HSEL.out]; exact HH.out.2
    · exact (own_up HJ.out.2.1 (by omega)).putObj _ HH.out.1 hD HKK.out rfl

set_option maxRecDepth 100000 in
set_option maxHeartbeats 4000000 in
theorem prefix_no (n : Nat) (hn : 1 ≤ n) (p hi : ByteArray) (hz : p.size ≤ maxLen) (hhz : hi.size ≤ maxLen) (hA : ∀ W : World, Calls Try.prog 45 #[.string p] W fun e w' => e = .returned (.tuple #[.string hi, .bool false]) ∧ Below W.heap.size W w') (hno : hi = ⟨#[]⟩)
    (hsel : ∀ xs, sel p hi xs = xs.filter (preB p)) (pb db : Nat) (dp q : Option Addr) (T : Tn) (w : World) (hs : Sorted T.flat) (hk : KeysOk T.flat) (hT : Tr w w.heap.size T q) (hd : DTop w dp q)
    (h1 : Box w pb 9 #[.string p]) (h2 : Box w db 29 #[.pointer dp]) :
    SeqM Wf n Try.prog 44 #[.pointer (some ⟨pb, 0, none⟩), .pointer (some ⟨db, 0, none⟩)] encK Kp (fun ys => ys = T.flat.filter (preB p)) (fun pre => pre <+: T.flat.filter (preB p)) (T.flat.filter (preB p)).length w := by
  intro l J Jx W hW hl hJ hJx hY h0
  subst hno
  have HA := Lib.hid hA
  have HSEL := Lib.hid (hsel T.flat)
  have by1 := Box.new W 85 #[.func (.yield l) #[] #[]]
  have hbW : Below W.heap.size W (W.alloc (.cells #[.func (.yield l) #[] #[]] 85)) := bal W _
  have hp1 := (h1.below hW h1.lt).below hbW (h1.below hW h1.lt).lt
  have hd1 := (h2.below hW h2.lt).below hbW (h2.below hW h2.lt).lt
  have hpc := hp1.cell 0
  have hpl := hp1.lt
  have HJ := Lib.hid (And.intro hJ (And.intro hJx (And.intro hY h0)))
  have HT := Lib.hid (And.intro ((hT.below hW).below hbW) ((hd.below hW).below hbW))
  have H1 := Lib.hid (And.intro by1 (And.intro hp1 (And.intro hd1 hbW)))
  clear hA hsel by1 hbW hp1 hd1 hJ hJx hY h0 hT hd
  refine callsIn_of_wp_marks Try.func44 rfl trivial ?_ rfl
  simp only [Try.ntmps44, List.size_toArray, List.length_cons, List.length_nil, Nat.reduceAdd, Nat.reduceSub, Array.replicate_succ, Array.replicate_zero, List.push_toArray, List.append_toArray, List.nil_append, List.cons_append]
  gi_wp2_with (first
    | (gi_at_call 45
       refine (wfc (HA.out _)).mono ?_
       rintro e w1 ⟨rfl, hb1⟩
       have hy2 := H1.out.1.below hb1 H1.out.1.lt
       have hp2 := H1.out.2.1.below hb1 H1.out.2.1.lt
       have hd2 := H1.out.2.2.1.below hb1 H1.out.2.2.1.lt
       have hpc2 := hp2.cell 0
       have hdc2 := hd2.cell 0
       have hpl2 := hp2.lt
       have hdl2 := hd2.lt
       have hs1 := hb1.size
       have H2 := Lib.hid (And.intro hy2 (And.intro hp2 (And.intro hd2 (And.intro (H1.out.2.2.2.trans (hb1.mono H1.out.2.2.2.size)) (And.intro (HT.out.1.below hb1) (HT.out.2.below hb1))))))
       clear hb1 hy2 hp2 hd2)
    | (gi_at_call 27
       refine (wfc (all_any dp p ⟨#[]⟩ _)).mono ?_
       rintro e w' ⟨rfl, rfl⟩))
  have b3 := Box.new w1 29 #[.pointer dp]
  have b4 := Box.new (w1.alloc (.cells #[.pointer dp] 29)) 9 #[.string p]
  have b5 := Box.new ((w1.alloc (.cells #[.pointer dp] 29)).alloc (.cells #[.string p] 9)) 9 #[.string ⟨#[]⟩]
  have hb0 : Below w1.heap.size w1 (((w1.alloc (.cells #[.pointer dp] 29)).alloc (.cells #[.string p] 9)).alloc (.cells #[.string ⟨#[]⟩] 9)) :=
    (((Below.refl _ _).alloc (Nat.le_refl _) _).alloc (by simp) _).alloc (by simp <;> omega) _
  simp only [World.size_alloc] at b4 b5
  have b3' := (b3.alloc (.cells #[.string p] 9)).alloc (.cells #[.string ⟨#[]⟩] 9)
  have b4' := b4.alloc (.cells #[.string ⟨#[]⟩] 9)
  have hsz : (((w1.alloc (.cells #[.pointer dp] 29)).alloc (.cells #[.string p] 9)).alloc (.cells #[.string ⟨#[]⟩] 9)).heap.size = w1.heap.size + 3 := by simp
  obtain ⟨W0, hW0⟩ : ∃ W0, (((w1.alloc (.cells #[.pointer dp] 29)).alloc (.cells #[.string p] 9)).alloc (.cells #[.string ⟨#[]⟩] 9)) = W0 := ⟨_, rfl⟩
  rw [hW0] at b3' b4' b5 hb0 hsz ⊢
  clear hW0 b3 b4
  have hs1' : W.heap.size + 1 ≤ w1.heap.size := by rw [World.size_alloc] at hs1; exact hs1
  have hbW0 : Below W.heap.size W W0 := H2.out.2.2.2.1.trans (hb0.mono H2.out.2.2.2.1.size)
  have hJ0 : J [] W0 := HJ.out.1 _ _ _ none HJ.out.2.2.2 ⟨hbW0.os, hbW0.tape, hbW0.output, hbW0.size, fun k hk _ => hbW0.block k hk⟩ (fun r e => by cases e)
  have hy0 := H2.out.1.below hb0 H2.out.1.lt
  refine wpIn_rangeFunc_ownH rfl hn (gf := 42) (lb := #[.pointer (some ⟨w1.heap.size + 1, 0, none⟩), .pointer (some ⟨w1.heap.size + 2, 0, none⟩), .pointer (some ⟨w1.heap.size, 0, none⟩)]) rfl trivial (enters_of Try.func42 (by kernel_rfl) rfl)
    (all_stops (n - 1) p ⟨#[]⟩ hz hhz _ _ _ dp q T W0 hs hk (H2.out.2.2.2.2.1.below hb0) (H2.out.2.2.2.2.2.below hb0) b4' b5 b3') (fun h k => Kp.trans h k) (fun W l o o' _ h hc _ => kp_put W l o o' h hc) (Below.refl _ _) (fun _ => rfl)
    (fun (pre : List KE) V => J pre V ∧ Box V W.heap.size 85 #[.func (.yield l) #[] #[]])
    (fun c (pre : List KE) V => c = .ret ∧ Jx pre V)
    (OwnFrom.and (own_up HJ.out.1 (by omega)) (box_own1 _ _ _ _))
    (fun c => OwnFrom.and (ownFrom_pure _ _) (own_up HJ.out.2.1 (by omega)))
    ⟨hJ0, hy0⟩
    (fun (x : KE) a' V => ∃ Bx, W.heap.size + 1 ≤ Bx ∧ Box V Bx 26 x.2.cells.toArray ∧ a' = { tmps := #[.func (.yield l) #[] #[], .pointer (some ⟨pb, 0, none⟩), .pointer (some ⟨db, 0, none⟩), .pointer (some ⟨W.heap.size, 0, none⟩), .string ⟨#[]⟩, .bool false, .string x.1, .pointer (some ⟨Bx, 0, none⟩), .tuple #[.string ⟨#[]⟩, .bool false], .string p, .tuple #[.string ⟨#[]⟩, .bool false], .string ⟨#[]⟩, .bool false, .bool false, .bool true, .pointer dp, .string p, .string ⟨#[]⟩, .func (.func 42) #[] #[.pointer (some ⟨w1.heap.size + 1, 0, none⟩), .pointer (some ⟨w1.heap.size + 2, 0, none⟩), .pointer (some ⟨w1.heap.size, 0, none⟩)], .string x.1, x.2.v, undef, undef, undef, undef, undef], defers := [] })
    (fun x a' s A B row h hg hr => by obtain ⟨Bx, h1, h2, h3⟩ := h; exact ⟨Bx, h1, box_own1 (β := Unit) _ Bx _ _ s A B row h2 hg hr, h3⟩)
    ?assign ?body ?done ?stop
  case assign =>
    rintro l2 pre x V K ⟨hj, hbx⟩ hK
    unfold encK
    gi_wp2
    have hv := hbx.lt
    refine hK _ _ ((KeepsOthers.alloc _ _).from _) (Kp.of_below (bal _ _)) ⟨HJ.out.1.alloc _ hj, hbx.alloc _⟩ ⟨V.heap.size, by omega, Box.new V _ _, rfl⟩
  case body =>
    rintro l2 pre x a' V hl2 ⟨r, hr⟩ ⟨hj, hbx⟩ ⟨Bx, hBx, bX, rfl⟩ hlN
    have hcx := bX.cell
    unfold En.cells at hcx
    have hyc := hbx.cell 0
    have hy1 := HJ.out.2.2.1 pre x V hj (by rw [HSEL.out] at hlN; exact hlN)
    have hbxl := hbx.lt
    clear hr hj bX hlN
    obtain ⟨fn, tmps, assign, body, hy, hR⟩ := YieldAt.any (m' := n - 1 - 1 - 1) hy1
    dsimp only [encK] at hy
    have hR2 : RoundIn (Wf.inRound l2) (n - 1 - 1 - 1) Try.prog l fn tmps assign body V (fun e V' => ((e = .returned (.bool true) ∧ J (pre ++ [x]) V' ∧ Kp V V') ∨ (e = .returned (.bool false) ∧ Jx (pre ++ [x]) V')) ∧ KeepsFrom W.heap.size V V') := hR
    have HR := Lib.hid hR2
    have HBX := Lib.hid hbx
    clear hR hR2 hy1 hbx
    gi_wp2
    (with_reducible refine RoundIn.mono HR.out ?_)
    rintro e V' ⟨⟨rfl, hj', hk'⟩ | ⟨rfl, hj'⟩, hkf⟩
    · have HV := Lib.hid (And.intro hj' (And.intro hk' hkf))
      clear hj' hk' hkf
      gi_wp2
      exact ⟨keeps_up HV.out.2.2 (by omega), HV.out.2.1, HV.out.1, HV.out.2.1.box (.inr (.inr (.inl rfl))) HBX.out⟩
    · have HV := Lib.hid (And.intro hj' hkf)
      clear hj' hkf
      gi_wp2
      exact ⟨keeps_up HV.out.2 (by omega), rfl, HV.out.1⟩
  case done =>
    rintro D ys V hD rfl ⟨hj, hbx⟩ hK
    have HH := Lib.hid hj
    have HKK := Lib.hid hK
    clear hj hbx hK
    gi_wp2
    refine ⟨by simp, .inl ⟨_, _, rfl, run_takeDeferred HKK.out, ?_⟩⟩
    refine ⟨_, results_none rfl _ _ _, ⟨_, rfl⟩, .inl ⟨_, rfl, ?_⟩⟩
    rw [← HSEL.out]
    exact (own_up HJ.out.1 (by omega)).putObj _ HH.out hD HKK.out rfl
  case stop =>
    rintro D c pre V hD hpre ⟨rfl, hj⟩ hK
    have HH := Lib.hid (And.intro hj hpre)
    have HKK := Lib.hid hK
    clear hj hK hpre
    gi_wp2
    refine ⟨by simp, .inl ⟨_, _, rfl, run_takeDeferred HKK.out, ?_⟩⟩
    refine ⟨_, results_none rfl _ _ _, ⟨_, rfl⟩, .inr ⟨pre, ?_, ?_⟩⟩
    · rw [← HSEL.out]; exact HH.out.2
    · exact (own_up HJ.out.2.1 (by omega)).putObj _ HH.out.1 hD HKK.out rfl
end Go.Proofs.Ytociadicjbkjcaa
