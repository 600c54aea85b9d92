import Derived.Test.YtomkieennkobcaaSt3
import Derived.Test.YtomkieennkobcaaSf1
/- SimfsSettled: what is durable stays; an image that is kept aside. -/
namespace Go.Proofs.Ytomkieennkobcaa
open Go.RowKit Go.Maps

section
variable {s : Dk} {N : Nat}
theorem dur_setF (k : Nat) (x : Fl) (hk : k < s.files.length) (hx : x.safe = (s.fl k).safe) : durL (s.setF k x) = durL s := by
  unfold durL
  refine List.map_congr_left fun p _ => ?_
  show (p.1, ((s.setF k x).fl p.2).safe) = _
  rw [setF_fl s k p.2 x hk]
  by_cases h : p.2 = k
  · rw [if_pos h, hx, h]
  · rw [if_neg h]
theorem dur_step (hi : s.Inv N) (hl : s.Lives) {st : SC} (hk : 1 ≤ st.kind ∧ st.kind ≤ 7 ∧ st.kind ≠ 4 ∧ st.kind ≠ 5) : durL (chS st s) = durL s := by
  rw [chS_form]
  by_cases h0 : perr st s = 0
  case neg => rw [if_pos h0]
  case pos =>
    have h0' : ¬ perr st s ≠ 0 := fun e => e h0
    rw [if_neg h0', if_neg (sp_lives hl).2.2]
    have hnum : ∀ (h : atE st.nm s = 0), s.num st.nm < s.files.length := fun h => by
      obtain ⟨_, _, k, hg⟩ := atE_zero.1 h
      rw [getL_num hg]
      exact hi.seen_ids _ ((get_mem hi.sorted).1 hg)
    unfold actS
    rw [spend_live hl]
    by_cases h1 : st.kind = 1
    · simp only [h1, if_true]
      unfold durL
      refine List.map_congr_left fun p hp => ?_
      show (p.1, ((s.files ++ [Fl.new]).getD p.2 Fl.new).safe) = _
      rw [getD_left _ _ _ (hi.ids p hp)]
      rfl
    · simp only [h1, if_false]
      by_cases h2 : st.kind = 2
      · simp only [h2, if_true]
        have hat : atE st.nm s = 0 := by
          unfold perr at h0
          rw [if_neg h1, if_pos h2] at h0
          by_cases a : atE st.nm s = 0
          · exact a
          · simp [a] at h0
        exact dur_setF (s := s) _ ⟨(s.fl (s.num st.nm)).safe, _⟩ (hnum hat) rfl
      · simp only [h2, if_false]
        by_cases h3 : st.kind = 3
        · simp only [h3, if_true]
          have hat : atE st.nm s = 0 := by
            unfold perr at h0
            rw [if_neg h1, if_neg h2, if_pos h3] at h0
            by_cases a : atE st.nm s = 0
            · exact a
            · simp [a] at h0
          exact dur_setF (s := s) _ ⟨(s.fl (s.num st.nm)).safe, _⟩ (hnum hat) rfl
        · simp only [h3, if_false, if_neg hk.2.2.1, if_neg hk.2.2.2]
          by_cases h6 : st.kind = 6
          · simp only [h6, if_true]; rfl
          · simp only [h6, if_false]; rfl
theorem begun_few (q : Int) : (Dk.begun q).Few ∧ (Dk.begun q).quota = q := by
  unfold Dk.begun
  split
  · exact ⟨Nat.le_trans (Nat.le_of_eq (show (B1 q).seen.length = 1 from rfl)) (by decide), rfl⟩
  · exact ⟨Nat.le_trans (Nat.le_of_eq (show (B2 q).seen.length = 1 from rfl)) (by decide), rfl⟩
end
/-- An image whose blocks lie from B on and below E. -/
def IMR (w : World) (B E : Nat) (A : Option Addr) (l : List FE) : Prop := ∀ (i : Nat) (p : FE), l[i]? = some p → ∃ (ad : Addr) (x : Option Addr) (c : Nat), A = some ad ∧ (B ≤ ad.block ∧ ad.block < E) ∧ w.cell? (ad.add (i * 2)) = some (.string p.1) ∧ w.cell? ⟨(ad.add (i * 2)).block, (ad.add (i * 2)).off + 1, none⟩ = some (.slice x p.2.length c) ∧ Rd w E x (bv p.2) ∧ ∀ a, x = some a → p.2 ≠ [] → B ≤ a.block
theorem FLs.imr {w : World} {base : Nat} {fs : List FE} {us : List Value} {b : Option Addr} {n cap : Nat} (h : FLs w base fs us (.slice b n cap)) : IMR w base w.heap.size b fs := by
  intro i p hp
  obtain ⟨ad, x, c, e1, h2, h3, h4, h5⟩ := h.im i p hp
  have hi : i < fs.length := (List.getElem?_eq_some_iff.1 hp).1
  obtain ⟨u, hu⟩ : ∃ u, us[i]? = some u := ⟨_, List.getElem?_eq_getElem (by rw [h.1]; exact hi)⟩
  obtain ⟨ad', e', _, _, c1⟩ := h.at_ hp hu
  rw [e1] at e'
  injection e' with e'
  subst e'
  obtain ⟨x', c', hue, hr⟩ := h.2.2 i p u hp hu
  rw [c1, hue] at h4
  injection h4 with h4
  injection h4 with q1 _ _
  subst q1
  refine ⟨ad, x', c', e1, ⟨?_, h2⟩, h3, by rw [c1, hue], h5, fun a ha hne => ?_⟩
  · have := (h.2.1.lt ad.block (by rw [e1]; rfl)).1
    exact this
  · exact (hr.lt a.block (by rw [hue, ha]; rfl)).1
theorem IMR.keep {w w' : World} {B E : Nat} {A : Option Addr} {l : List FE} (h : IMR w B E A l) (hk : ∀ b, B ≤ b → b < E → w'.heap[b]? = w.heap[b]?) : IMR w' B E A l := by
  intro i p hp
  obtain ⟨ad, x, c, h1, ⟨h2, h2'⟩, h3, h4, h5, h6⟩ := h i p hp
  have hc : ∀ a : Addr, B ≤ a.block → a.block < E → w'.cell? a = w.cell? a := fun a g1 g2 => World.cell?_of_block (hk a.block g1 g2)
  refine ⟨ad, x, c, h1, ⟨h2, h2'⟩, ?_, ?_, fun j u hj => ?_, h6⟩
  · rw [hc _ (by rw [add_block]; exact h2) (by rw [add_block]; exact h2')]; exact h3
  · rw [hc _ (by show B ≤ (ad.add (i * 2)).block; rw [add_block]; exact h2) (by show (ad.add (i * 2)).block < E; rw [add_block]; exact h2')]; exact h4
  · obtain ⟨a, e, g1, g2⟩ := h5 j u hj
    have hne : p.2 ≠ [] := fun e0 => by rw [e0] at hj; simp [bv] at hj
    exact ⟨a, e, g1, by rw [hc _ (by rw [add_block]; exact h6 a e hne) (by rw [add_block]; exact g1)]; exact g2⟩
theorem IMR.im {w : World} {B E : Nat} {A : Option Addr} {l : List FE} (h : IMR w B E A l) (hE : E ≤ w.heap.size) : IM w w.heap.size A l := by
  intro i p hp
  obtain ⟨ad, x, c, h1, ⟨_, h2⟩, h3, h4, h5, _⟩ := h i p hp
  exact ⟨ad, x, c, h1, Nat.lt_of_lt_of_le h2 hE, h3, h4, h5.mono hE⟩
/-- No block from B on and below E is the disk's. -/
def OutOf (S : Nat → Prop) (B E : Nat) : Prop := ∀ b, S b → b < B ∨ E ≤ b
theorem OutOf.then_ {S S' : Nat → Prop} {B E z : Nat} (h : OutOf S B E) (hE : E ≤ z) (h3 : ∀ b, S' b → S b ∨ z ≤ b) : OutOf S' B E := fun b hb => by
  rcases h3 b hb with h4 | h4
  · exact h b h4
  · right; omega
theorem IMR.chg {w w' : World} {S : Nat → Prop} {B E : Nat} {A : Option Addr} {l : List FE} (h : IMR w B E A l) (ho : OutOf S B E) (hE : E ≤ w.heap.size) (hc : Chg S w w') : IMR w' B E A l :=
  h.keep fun b h1 h2 => hc.block b (by omega) fun hs => by have := ho b hs; omega
theorem IMR.next {w w' : World} {B E : Nat} {A : Option Addr} {l : List FE} (h : IMR w B E A l) (hE : E ≤ w.heap.size) (hb : Below w.heap.size w w') : IMR w' B E A l := h.keep fun b _ h2 => hb.block b (by omega)
section
variable {W w w' : World} {S T : Nat → Prop} {d d2 N M B E : Nat} {s t s' t' : Dk} {A : Option Addr} {l : List FE} {l' : List KE}
theorem apart_far {S S' T : Nat → Prop} {z : Nat} (h : ∀ b, S b → ¬ T b) (h3 : ∀ b, S' b → S b ∨ z ≤ b) (hT : ∀ b, T b → b < z) : ∀ b, S' b → ¬ T b := fun b hb ht => by
  rcases h3 b hb with h4 | h4
  · exact h b h4 ht
  · have := hT b ht; omega
theorem lv_crash1 (h : Lv W w S d s N) (hN : N ≤ 999999999999) : Calls Try.prog 15 #[.pointer (some ⟨d, 0, none⟩), .slice none 0 0] w fun e w' => ∃ us b cap, e = .returned (.slice b (crashL s []).length cap) ∧ FLs w' w.heap.size (crashL s []) us (.slice b (crashL s []).length cap) ∧ Below w.heap.size w w' := by
  have hR : Rd w w.heap.size none (([] : List Int).map (Value.int .i64)) := Rd.nil _ _ _
  have hl : ([] : List Int).length = 0 := rfl
  exact lv_crash [] none 0 0 h hN hR hl (Nat.le_refl 0) (fun x hx => (by cases hx)) (Nat.zero_le _)
/-- A disk, and an image kept aside. -/
def Kp (W w : World) (S : Nat → Prop) (d : Nat) (s : Dk) (N B E : Nat) (A : Option Addr) (l : List FE) : Prop := Lv W w S d s N ∧ IMR w B E A l ∧ OutOf S B E ∧ E ≤ w.heap.size
theorem Kp.next (h : Kp W w S d s N B E A l) (hb : Below w.heap.size w w') : Kp W w' S d s N B E A l := ⟨h.1.next hb, h.2.1.next h.2.2.2 hb, h.2.2.1, Nat.le_trans h.2.2.2 hb.size⟩
theorem Kp.drewN (h : Kp W w S d s N B E A l) (k : Nat) : Kp W (w.drewN k) S d s N B E A l := h.next (below_drewN (Below.refl _ _) k)
theorem Kp.im (h : Kp W w S d s N B E A l) : IM w w.heap.size A l := h.2.1.im h.2.2.2
def Kq (W w : World) (S : Nat → Prop) (d : Nat) (s : Dk) (T : Nat → Prop) (d2 : Nat) (t : Dk) (N B E : Nat) (A : Option Addr) (l : List FE) : Prop := Two W w S d s T d2 t N ∧ IMR w B E A l ∧ (OutOf S B E ∧ OutOf T B E) ∧ E ≤ w.heap.size
theorem Kq.next (h : Kq W w S d s T d2 t N B E A l) (hb : Below w.heap.size w w') : Kq W w' S d s T d2 t N B E A l := ⟨h.1.next hb, h.2.1.next h.2.2.2 hb, h.2.2.1, Nat.le_trans h.2.2.2 hb.size⟩
theorem Kq.drewN (h : Kq W w S d s T d2 t N B E A l) (k : Nat) : Kq W (w.drewN k) S d s T d2 t N B E A l := h.next (below_drewN (Below.refl _ _) k)
theorem Kq.up (h : Kq W w S d s T d2 t N B E A l) (hM : N ≤ M) : Kq W w S d s T d2 t M B E A l := ⟨h.1.up hM, h.2⟩
theorem Kq.im (h : Kq W w S d s T d2 t N B E A l) : IM w w.heap.size A l := h.2.1.im h.2.2.2
theorem Kq.a (h : Kq W w S d s T d2 t N B E A l) (hM : N ≤ M) (hT : Lv.Then W w w' S d s' M) : ∃ S', Kq W w' S' d s' T d2 t M B E A l := by
  obtain ⟨S', h1, h2, h3⟩ := hT
  obtain ⟨h0, hm, ⟨o1, o2⟩, hE⟩ := h
  refine ⟨S', ⟨h1, (h0.2.1.up hM).far h2 (fun b hb hs => h0.2.2 b hs hb) h0.1.2.1, apart_far h0.2.2 h3 h0.2.1.lt⟩, hm.chg o1 hE h2, ⟨o1.then_ hE h3, o2⟩, Nat.le_trans hE h2.size⟩
theorem Kq.b (h : Kq W w S d s T d2 t N B E A l) (hM : N ≤ M) (hT : Lv.Then W w w' T d2 t' M) : ∃ T', Kq W w' S d s T' d2 t' M B E A l := by
  obtain ⟨T', h1, h2, h3⟩ := hT
  obtain ⟨h0, hm, ⟨o1, o2⟩, hE⟩ := h
  refine ⟨T', ⟨(h0.1.up hM).far h2 h0.2.2 h0.2.1.2.1, h1, fun b h4 h5 => apart_far (fun b h6 h7 => h0.2.2 b h7 h6) h3 h0.1.lt b h5 h4⟩, hm.chg o2 hE h2, ⟨o1, o2.then_ hE h3⟩, Nat.le_trans hE h2.size⟩
/-- A row of names kept aside. -/
def NRow (w : World) (S : Nat → Prop) (A : Option Addr) (l : List KE) : Prop := ∀ (j : Nat) (p : KE), l[j]? = some p → ∃ ad : Addr, A = some ad ∧ (ad.block < w.heap.size ∧ ¬ S ad.block) ∧ w.cell? (ad.add j) = some (.string p.1)
theorem NRow.then_ {S' : Nat → Prop} (h : NRow w S A l') (hc : Chg S w w') (h3 : ∀ b, S' b → S b ∨ w.heap.size ≤ b) : NRow w' S' A l' := by
  intro j p hp
  obtain ⟨ad, e, ⟨h1, h2⟩, h4⟩ := h j p hp
  refine ⟨ad, e, ⟨Nat.lt_of_lt_of_le h1 hc.size, fun hs => ?_⟩, ?_⟩
  · rcases h3 _ hs with h5 | h5
    · exact h2 h5
    · omega
  · rw [World.cell?_of_block (hc.block (ad.add j).block (by rw [add_block]; exact h1) (by rw [add_block]; exact h2))]
    exact h4
theorem nrow_of {b : Option Addr} {n cap : Nat} (hr : w'.ownsRow w.heap.size 9 1 (.slice b n cap) n (l'.map fun p : KE => .string p.1)) (hS : ∀ b, S b → b < w.heap.size) : NRow w' S b l' := by
  intro j p hp
  obtain ⟨ad, e, h1, h2⟩ := (row_rd hr) j (.string p.1) (by rw [List.getElem?_map, hp]; rfl)
  subst e
  refine ⟨ad, rfl, ⟨h1, fun hs => ?_⟩, h2⟩
  have h3 := (hr.lt ad.block rfl).1
  have h4 := hS _ hs
  omega
end
theorem lv_list {W w : World} {S : Nat → Prop} {d N : Nat} {s : Dk} (h : Lv W w S d s N) (hN : N ≤ 999999999999) (hd : s.dead = false) : Calls Try.prog 31 #[.pointer (some ⟨d, 0, none⟩)] w fun e w' => ∃ bb cap, e = .returned (.tuple #[.slice bb s.seen.length cap, .int .i64 0]) ∧ w'.ownsRow w.heap.size 9 1 (.slice bb s.seen.length cap) s.seen.length (s.seen.map fun p => .string p.1) ∧ Below w.heap.size w w' :=
  list_any S d N s w h.1 h.2.2.2.sz.wide hN hd
theorem lv_load {W w : World} {q : Int} {fs : List FE} {A : Option Addr} {n c : Nat} (hw : Below W.heap.size W w) (h : LdOk q fs) (hn : fs.length = n) (hI : IM w w.heap.size A fs) {N : Nat} (hN : n ≤ N) :
    Calls Try.prog 32 #[.slice A n c, .int .i64 q] w fun e w' => ∃ d S, e = .returned (.tuple #[.pointer (some ⟨d, 0, none⟩), .int .i64 0]) ∧ Lv W w' S d (ldS q fs) N ∧ (∀ b, S b → w.heap.size ≤ b) ∧ Below w.heap.size w w' :=
  (load_ok q fs A n c w h hn hI).mono fun _ _ ⟨d, S, h1, h2, h3, h4⟩ => ⟨d, S, h1, ⟨h2, fun b hb => Nat.le_trans hw.size (h3 b hb), hw.trans (h4.mono hw.size), ld_inv h (by omega)⟩, h3, h4⟩
end Go.Proofs.Ytomkieennkobcaa
