import Derived.Test.YtifimeohdgnehaaHof4
namespace Go.Proofs.Ytifimeohdgnehaa
open Go.RowKit Go.Maps

theorem info_pl : (Try.prog.info? 45).map (fun i => (i.zero, i.size, i.bytes)) = some (some (.agg #[.int .i64 0, .int .i64 0, .int .i64 0, .int .i64 0, .int .i64 0, .string ByteArray.empty, .string ByteArray.empty, .int .i64 0, .int .i64 0]), 9, 88) := by kernel_rfl
theorem one_nine (l : List PL) : ∀ u ∈ l.flatMap nine, u.oneCell' = true := by
  intro u hu
  obtain ⟨p, _, hp⟩ := List.mem_flatMap.1 hu
  simp [nine] at hp
  rcases hp with rfl | rfl | rfl | rfl | rfl | rfl | rfl | rfl | rfl <;> rfl
theorem Rd.part9 {w : World} {B : Nat} {A : Option Addr} {l : List PL} (h : Rd w B A (l.flatMap nine)) (r : Nat) : Rd w B A ((l.take r).flatMap nine) := by
  intro j u hu
  refine h j u ?_
  have e : l.flatMap nine = (l.take r).flatMap nine ++ (l.drop r).flatMap nine := by rw [← List.flatMap_append, List.take_append_drop]
  rw [e, List.getElem?_append_left (List.getElem?_eq_some_iff.1 hu).1]
  exact hu
/-- Keys that a text may be. -/
def KeyOk (l : List PL) : Prop := ∀ p ∈ l, p.key.size ≤ maxLen
theorem KeyOk.at_ {l : List PL} (h : KeyOk l) (i : Nat) : (pth l i).key.size ≤ maxLen := by
  by_cases hi : i < l.length
  · rw [pth_eq hi]; exact h _ (List.getElem_mem hi)
  · have : pth l i = PL.zero := by simp [pth, Nat.le_of_not_lt hi]
    rw [this]; exact Nat.zero_le _
theorem KeyOk.take {l : List PL} (h : KeyOk l) (n : Nat) : KeyOk (l.take n) := fun p hp => h p (List.mem_of_mem_take hp)
theorem KeyOk.set {l : List PL} (h : KeyOk l) (i : Nat) {p : PL} (hp : p.key.size ≤ maxLen) : KeyOk (l.set i p) := fun q hq => by
  rcases List.mem_or_eq_of_mem_set hq with h1 | rfl
  · exact h q h1
  · exact hp

/-- A row of placed records of the call's own: its block lies from lo on, below hi. -/
structure PR (lo hi : Nat) (W : World) (b : Option Addr) (n cap : Nat) (ps : List PL) : Prop where
  own : W.ownsRow lo 45 9 (.slice b n cap) n (ps.flatMap nine)
  top : ∀ k, (Value.slice b n cap).ownBlock = some k → k < hi
  len : ps.length = n
section
variable {lo hi n cap : Nat} {W W' : World} {b : Option Addr} {ps : List PL}
theorem PR.mk' (h : W.ownsRow lo 45 9 (.slice b n cap) n (ps.flatMap nine)) (hl : ps.length = n) : PR lo W.heap.size W b n cap ps := ⟨h, fun k hk => (h.lt k hk).2, hl⟩
theorem PR.bot (h : PR lo hi W b n cap ps) : ∀ k, (Value.slice b n cap).ownBlock = some k → lo ≤ k := fun k hk => (h.own.lt k hk).1
theorem PR.rd (h : PR lo hi W b n cap ps) : Rd W W.heap.size b (ps.flatMap nine) := ownsRow_rd h.own
theorem PR.next (h : PR lo hi W b n cap ps) (hb : Below W.heap.size W W') : PR lo hi W' b n cap ps :=
  ⟨ownsRow_block h.own fun k hk => hb.block k (h.own.lt k hk).2, h.top, h.len⟩
theorem PR.chg {S : Nat → Prop} (h : PR lo hi W b n cap ps) (hc : Chg S W W') (hS : ∀ k, lo ≤ k → k < hi → ¬ S k) : PR lo hi W' b n cap ps :=
  ⟨ownsRow_block h.own fun k hk => hc.block k (h.own.lt k hk).2 (hS k (h.bot k hk) (h.top k hk)), h.top, h.len⟩
theorem PR.own_ (h : PR lo hi W b n cap ps) (hn : 0 < n) : ∃ g, b = some ⟨g, 0, none⟩ ∧ n ≤ cap ∧ cap ≤ maxLen ∧ Own W lo g 45 (ps.flatMap nine) ∧ lo ≤ g ∧ g < hi := by
  obtain ⟨g, cap', hv, h1, h2, h3⟩ := Own.of_row h.own hn
  injection hv with e1 _ e2
  subst e1 e2
  exact ⟨g, rfl, h1, h2, h3, h.bot g rfl, h.top g rfl⟩
end
theorem flatMap_set9 (l : List PL) (i : Nat) (hi : i < l.length) (p : PL) :
    (l.set i p).flatMap nine = (((((((((l.flatMap nine).set (i * 9) (.int .i64 p.kind)).set (i * 9 + 1) (.int .i64 p.off)).set (i * 9 + 2) (.int .i64 p.time)).set (i * 9 + 3) (.int .i64 p.pid)).set (i * 9 + 4) (.int .i64 p.sq)).set (i * 9 + 5) (.string p.key)).set (i * 9 + 6) (.string p.val)).set (i * 9 + 7) (.int .i64 p.pos)).set (i * 9 + 8) (.int .i64 p.len) := by
  induction l generalizing i with
  | nil => simp at hi
  | cons q l ih =>
    cases i with
    | zero => simp [nine]
    | succ i =>
      have e : (i + 1) * 9 = i * 9 + 9 := by omega
      have hl : (nine q).length = 9 := rfl
      simp only [List.set_cons_succ, List.flatMap_cons, ih i (by simpa using hi), e]
      rw [List.set_append_right _ _ (by omega), List.set_append_right _ _ (by omega), List.set_append_right _ _ (by omega), List.set_append_right _ _ (by omega), List.set_append_right _ _ (by omega), List.set_append_right _ _ (by omega), List.set_append_right _ _ (by omega), List.set_append_right _ _ (by omega), List.set_append_right _ _ (by omega), hl,
        show i * 9 + 9 - 9 = i * 9 by omega, show i * 9 + 9 + 1 - 9 = i * 9 + 1 by omega, show i * 9 + 9 + 2 - 9 = i * 9 + 2 by omega, show i * 9 + 9 + 3 - 9 = i * 9 + 3 by omega, show i * 9 + 9 + 4 - 9 = i * 9 + 4 by omega, show i * 9 + 9 + 5 - 9 = i * 9 + 5 by omega, show i * 9 + 9 + 6 - 9 = i * 9 + 6 by omega, show i * 9 + 9 + 7 - 9 = i * 9 + 7 by omega, show i * 9 + 9 + 8 - 9 = i * 9 + 8 by omega]
theorem PR.nine_set {lo hi n cap g : Nat} {W : World} {ps : List PL} (h : PR lo hi W (some ⟨g, 0, none⟩) n cap ps) {i : Nat} (hi' : i < n) (p : PL) :
    PR lo hi (((((((((W.setCell ⟨g, i * 9, none⟩ (.int .i64 p.kind)).setCell ⟨g, i * 9 + 1, none⟩ (.int .i64 p.off)).setCell ⟨g, i * 9 + 2, none⟩ (.int .i64 p.time)).setCell ⟨g, i * 9 + 3, none⟩ (.int .i64 p.pid)).setCell ⟨g, i * 9 + 4, none⟩ (.int .i64 p.sq)).setCell ⟨g, i * 9 + 5, none⟩ (.string p.key)).setCell ⟨g, i * 9 + 6, none⟩ (.string p.val)).setCell ⟨g, i * 9 + 7, none⟩ (.int .i64 p.pos)).setCell ⟨g, i * 9 + 8, none⟩ (.int .i64 p.len)) (some ⟨g, 0, none⟩) n cap (ps.set i p) := by
  have hel := h.len
  have hl := nine_len ps
  refine ⟨⟨by rw [nine_len]; simp [hel], .inr ?_⟩, h.top, by simp [hel]⟩
  rcases h.own.2 with ⟨hv, _⟩ | ⟨g', c, cur, hv, hg, hh, hnc, hcm, hsz, htk⟩
  · cases hv
  · injection hv with e1 _ e2
    injection e1 with e1
    injection e1 with e1
    subst e1 e2
    refine ⟨g, cap, ((((((((cur.setIfInBounds (i * 9) (.int .i64 p.kind)).setIfInBounds (i * 9 + 1) (.int .i64 p.off)).setIfInBounds (i * 9 + 2) (.int .i64 p.time)).setIfInBounds (i * 9 + 3) (.int .i64 p.pid)).setIfInBounds (i * 9 + 4) (.int .i64 p.sq)).setIfInBounds (i * 9 + 5) (.string p.key)).setIfInBounds (i * 9 + 6) (.string p.val)).setIfInBounds (i * 9 + 7) (.int .i64 p.pos)).setIfInBounds (i * 9 + 8) (.int .i64 p.len), rfl, hg, ?_, hnc, hcm, by simpa using hsz, ?_⟩
    · simp [World.setCell, Array.getElem?_modify, hh]
    · rw [flatMap_set9 ps i (by omega)]
      simp only [Array.toList_setIfInBounds, List.take_set, htk]

set_option maxRecDepth 100000 in
set_option maxHeartbeats 4000000 in
theorem samePlaced_eq (A A' : Option Addr) (c c' n : Nat) (l : List PL) (w : World) (hn : l.length = n) (hA : Rd w w.heap.size A (l.flatMap nine)) (hA' : Rd w w.heap.size A' (l.flatMap nine)) (hmx : n ≤ 1599289640354) :
    Calls Try.prog 18 #[.slice A n c, .slice A' n c'] w fun e w' => e = .returned (.bool true) ∧ Below w.heap.size w w' := by
  go_enter Try.func18, Try.ntmps18
  go_wp2
  go_loopw [5] (fun i wr => ∃ (k : Nat), k ≤ n ∧ i = .int .i64 k ∧ Below w.heap.size w wr) (fun i _ => n - (intOf i).toNat)
  case atStart => exact ⟨0, Nat.zero_le _, rfl, Below.refl _ _⟩
  case round =>
    obtain ⟨k, hk, rfl, hb⟩ := hrel
    by_cases hlt : k < n
    · have hk0 : (0 : Int) ≤ k := by omega
      have hk1 : (k : Int) < n := by omega
      have hkl : k < l.length := by omega
      obtain ⟨ad, rfl, had, p0, p1, p2, p3, p4, p5, p6, p7, p8⟩ := (hA.below hb).nine_ hkl
      obtain ⟨ad', rfl, had', q0, q1, q2, q3, q4, q5, q6, q7, q8⟩ := (hA'.below hb).nine_ hkl
      have H := Lib.hid hb
      clear hb
      generalize l[k] = p at p0 p1 p2 p3 p4 p5 p6 p7 p8 q0 q1 q2 q3 q4 q5 q6 q7 q8
      go_wp2
      go_quiet (fail)
      go_wp2
      go_roundw
      case rel => exact ⟨k + 1, by omega, by go_num, below_drewN H.out _⟩
      case measure => simp [intOf]; omega
    · go_wp2
      go_ret
      exact ⟨rfl, hb⟩
/-- The program's Of, of the first q records. -/
theorem octOfAny (seg size : Int) (A : Option Addr) (q c : Nat) (l : List PL) (w : World) (hA : Rd w w.heap.size A (l.flatMap nine)) (hq : q ≤ l.length) (hmx : q ≤ 1599289640354) (hk : KeyOk l) :
    Calls Try.prog 16 #[.int .i64 seg, .int .i64 size, .slice A q c] w fun e w' => ∃ v, e = .returned v ∧ Below w.heap.size w w' :=
  (octOf seg size A q c _ (l.take q) _ w rfl rfl (hA.part9 q) (by rw [List.length_take]; omega) (by omega) (hk.take q).at_).mono fun e w' ⟨b, cap, h1, _, h3⟩ => ⟨_, h1, h3⟩
end Go.Proofs.Ytifimeohdgnehaa
