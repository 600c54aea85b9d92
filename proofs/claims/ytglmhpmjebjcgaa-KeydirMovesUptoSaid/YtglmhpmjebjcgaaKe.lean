import Derived.Test.YtglmhpmjebjcgaaKd
namespace Go.Proofs.Ytglmhpmjebjcgaa
open Go.RowKit Go.Maps

theorem ext_get (p : ByteArray) (m j : Nat) (h : j < m) (hp : m ≤ p.size) (h' : j < (p.extract 0 m).size) : (p.extract 0 m)[j] = p[j]'(by omega) := by
  show (p.extract 0 m).data[j]'(by simpa using h') = p.data[j]'(by show j < p.size; omega)
  simp only [ByteArray.data_extract, Array.getElem_extract, Nat.zero_add]
theorem back_of (W : World) (b m cap : Nat) (p : ByteArray) (hm : m < p.size) (hcell : ∀ j, j ≤ m → ∀ hj : j < p.size, W.cell? ⟨b, j, none⟩ = some (.int .u8 (p[j].toNat : Int))) :
    (convert 92 9 (.slice (some ⟨b, 0, none⟩) (m + 1) cap)).run Try.prog (W.setCell ⟨b, m, none⟩ (.int .u8 (((p[m].toNat : Int) + 1) % 256))) =
      .ok (.string ⟨(p.data.toList.take m ++ [p[m] + 1]).toArray⟩) (W.setCell ⟨b, m, none⟩ (.int .u8 (((p[m].toNat : Int) + 1) % 256))) := by
  have hl : (p.data.toList.take m ++ [p[m] + 1]).length = m + 1 := by
    have : p.data.toList.length = p.size := by simp
    rw [List.length_append, List.length_take, List.length_singleton]; omega
  have h := run_convert_bytes_back (P := Try.prog) (W.setCell ⟨b, m, none⟩ (.int .u8 (((p[m].toNat : Int) + 1) % 256))) 92 9 5 ⟨b, 0, none⟩ cap (p.data.toList.take m ++ [p[m] + 1]) Try.underlying92 Try.underlying5 Try.underlying9 ?_
  · rw [hl] at h
    exact h
  · intro j hj
    rw [hl] at hj
    have ha : (⟨b, 0, none⟩ : Addr).add j = ⟨b, j, none⟩ := by
      unfold Addr.add
      split
      · rename_i h0; rw [h0]
      · simp
    rw [ha]
    by_cases hjm : j = m
    · subst hjm
      have e : (p.data.toList.take j ++ [p[j] + 1])[j]'(by rw [hl]; omega) = p[j] + 1 := by
        rw [List.getElem_append_right (by rw [List.length_take]; omega)]
        simp
      rw [e, World.cell?_setCell_same' _ _ _ (by rw [hcell j (Nat.le_refl _) hm]; rfl), UInt8.toNat_add]
      simp
    · have e : (p.data.toList.take m ++ [p[m] + 1])[j]'(by rw [hl]; omega) = p[j]'(by omega) := by
        rw [List.getElem_append_left (by rw [List.length_take]; have : p.data.toList.length = p.size := by simp
                                         omega), List.getElem_take]
        rfl
      rw [e, World.cell?_setCell_other _ _ _ _ (by intro e'; injection e' with _ e' _; omega)]
      exact hcell j (by omega) (by omega)
theorem bytes_of (W : World) (s : ByteArray) (n : Nat) (hn : s.size = n) : ∃ (b cap : Nat) (W2 : World), (convert 9 92 (.string s)).run Try.prog W = .ok (.slice (some ⟨b, 0, none⟩) n cap) W2 ∧ n ≤ cap ∧ W.heap.size ≤ b ∧ b < W2.heap.size ∧ Below W.heap.size W W2 ∧
    (∀ j (hj : j < s.size), W2.cell? ⟨b, j, none⟩ = some (.int .u8 (s[j].toNat : Int))) ∧ ∀ j, j < n → W2.frozen? ⟨b, j, none⟩ = false := by
  subst hn
  have h := run_bytes_of_string (P := Try.prog) W 9 92 5 s Try.underlying9 Try.underlying92 Try.underlying5
  have hg := grownCap_ge W s.size 0 5
  generalize grownCap W s.size 0 5 = cap at h hg
  have hz : (bytesRow s cap).size = cap := by unfold bytesRow; simp; omega
  have hC : ∀ j (hj : j < s.size), (bytesRow s cap)[j]? = some (.int .u8 (s[j].toNat : Int)) := fun j hj => by
    unfold bytesRow
    rw [Array.getElem?_append_left (by simpa using hj), Array.getElem?_map, Array.getElem?_eq_getElem (by simpa using hj)]
    rfl
  generalize bytesRow s cap = C at h hz hC
  refine ⟨W.heap.size, cap, _, h, hg, Nat.le_refl _, by simp, ?_, fun j hj => ?_, fun j hj => ?_⟩
  · exact (show Below W.heap.size W W.drew from ⟨rfl, rfl, rfl, Nat.le_refl _, fun _ _ => rfl⟩).alloc (Nat.le_refl _) _
  · rw [← hC j hj]
    exact World.cell?_alloc_mark W.drew C _ _ j
  · refine (World.frozen?_alloc_mark W.drew C _ C.size (C.size + 1) j).trans ?_
    simp
    omega

set_option maxRecDepth 100000 in
set_option maxHeartbeats 4000000 in
theorem after_any (p : ByteArray) (w : World) (hz : p.size ≤ maxLen) :
    Calls Try.prog 56 #[.string p] w fun e w' => AftR p e ∧ Below w.heap.size w w' := by
  unfold maxLen at hz
  go_enter Try.func56, Try.ntmps56
  go_wp2
  go_loopw [4] (fun l wr => ∃ (pos : Nat) (last : Int), wr = w.iter p pos ∧ l = .int .i64 last ∧ pos ≤ p.size ∧ AInv p pos last) (fun _ wr => p.size - wr.iterPos w.heap.size)
  case atStart => exact ⟨0, -1, rfl, rfl, Nat.zero_le _, AInv.start p⟩
  case round =>
    obtain ⟨pos, last, rfl, rfl, hps, hI⟩ := hrel
    have HI := Lib.hid hI
    clear hI
    by_cases hp : pos < p.size
    · have hnx : ∀ ty, (Instr.next (.pointer (some ⟨w.heap.size, 0, none⟩)) true ty).run Try.prog (w.iter p pos) = _ := fun ty => run_next_any w p pos ty hp
      have HD := Lib.hid (dec_cont p pos hp)
      cases pos with
      | zero =>
        go_wp2
        go_roundw
        case rel => exact ⟨0 + (Utf8.decode p 0).2, last, by simp, rfl, HD.out.2.1, HI.out.miss hp (.inl rfl)⟩
        case measure => have := HD.out; simp; omega
      | succ m =>
        have hm : m < p.size := by omega
        have hm0 : (0 : Int) ≤ m := by omega
        have hm1 : (m : Int) < p.size := by omega
        have HG := Lib.hid (get_str p m hm)
        by_cases h255 : p[m].toNat = 255
        · have h255' : decide ((p[m].toNat : Int) = 255) = true := decide_eq_true (by omega)
          have h255'' : (p[m].toNat : Int) = 255 := by omega
          go_wp2
          go_roundw
          case rel => exact ⟨m + 1 + (Utf8.decode p (m + 1)).2, last, by simp, rfl, HD.out.2.1, HI.out.miss hp (.inr ⟨m, rfl, by rw [HG.out]; exact h255⟩)⟩
          case measure => have := HD.out; simp; omega
        · have h255' : decide ((p[m].toNat : Int) = 255) = false := decide_eq_false (by omega)
          have h255'' : ¬ (p[m].toNat : Int) = 255 := by omega
          go_wp2
          go_roundw
          case rel => exact ⟨m + 1 + (Utf8.decode p (m + 1)).2, m, by simp, by go_num, HD.out.2.1, AInv.hit hp (by rw [HG.out]; exact h255)⟩
          case measure => have := HD.out; simp; omega
    · have hpe : pos = p.size := by omega
      rw [hpe] at HI
      clear hpe
      have hnx : ∀ ty, (Instr.next (.pointer (some ⟨w.heap.size, 0, none⟩)) true ty).run Try.prog (w.iter p pos) = _ := fun ty => run_next_end w p pos ty hp
      obtain ⟨W1, hW1⟩ : ∃ W1, w.iter p pos = W1 := ⟨_, rfl⟩
      have hb1 : Below w.heap.size w W1 := by rw [← hW1]; exact (Below.refl _ _).alloc (Nat.le_refl _) _
      rw [hW1] at hnx ⊢
      have HB := Lib.hid hb1
      clear hW1 hb1
      rcases (show (p.size = 0 ∧ last = -1) ∨ (∃ m, ∃ hm : m < p.size, p.size = m + 1 ∧ p[m].toNat = 255 ∧ last = -1 ∧ ALast p (-1)) ∨ (∃ m j : Nat, ∃ hm : m < p.size, p.size = m + 1 ∧ p[m].toNat = 255 ∧ last = (j : Int) ∧ ALast p (j : Int)) ∨ (∃ m, ∃ hm : m < p.size, p.size = m + 1 ∧ p[m].toNat ≠ 255 ∧ ALast p (m : Int)) by
        rcases Nat.eq_zero_or_pos p.size with h0 | h0
        · refine .inl ⟨h0, ?_⟩
          rcases HI.out.1 with h | ⟨j, _, h, _⟩
          · exact h
          · omega
        · obtain ⟨m, hs⟩ : ∃ m, p.size = m + 1 := ⟨p.size - 1, by omega⟩
          have hm : m < p.size := by omega
          by_cases h255 : p[m].toNat = 255
          · have hf := HI.out.fin (.inr ⟨m, hs, by rw [get_str p m hm]; exact h255⟩)
            rcases hf.1 with h | ⟨j, h, _⟩
            · exact .inr (.inl ⟨m, hm, hs, h255, h, by rw [h] at hf; exact hf⟩)
            · exact .inr (.inr (.inl ⟨m, j, hm, hs, h255, h, by rw [h] at hf; exact hf⟩))
          · exact .inr (.inr (.inr ⟨m, hm, hs, h255, ALast.top hs (by rw [get_str p m hm]; exact h255)⟩))) with ⟨hs, rfl⟩ | ⟨m, hm, hs, h255, rfl, hA⟩ | ⟨m, j, hm, hs, h255, rfl, hA⟩ | ⟨m, hm, hs, h255, hA⟩
      · have hs' : (p.size : Int) = 0 := by omega
        go_wp2
        go_ret2
        exact ⟨.inl ⟨rfl, fun b hb => by
          have hl : p.data.toList.length = p.size := by simp
          have hnil : p.data.toList = [] := List.eq_nil_of_length_eq_zero (by omega)
          rw [hnil] at hb
          cases hb⟩, HB.out⟩
      · have hs' : (p.size : Int) = m + 1 := by omega
        have h255' : decide ((p[m].toNat : Int) = 255) = true := decide_eq_true (by omega)
        have h255'' : (p[m].toNat : Int) = 255 := by omega
        have HA := Lib.hid hA
        clear hA
        go_wp2
        go_ret2
        exact ⟨.inl ⟨rfl, HA.out.none_⟩, HB.out⟩
      · have hs' : (p.size : Int) = m + 1 := by omega
        have h255' : decide ((p[m].toNat : Int) = 255) = true := decide_eq_true (by omega)
        have h255'' : (p[m].toNat : Int) = 255 := by omega
        have hjp : j < p.size := hA.some_.1
        have HA := Lib.hid hA
        clear hA
        have hm0 : (0 : Int) ≤ j := by omega
        have hsx : (p.extract 0 (j + 1)).size = j + 1 := by simp; omega
        obtain ⟨b, cap, W2, hconv, hcap, hbl, hbt, hb2, hcell, hfz⟩ := bytes_of W1 (p.extract 0 (j + 1)) (j + 1) hsx
        have hcm := hcell j (by omega)
        have hcl : ∀ i, i ≤ j → ∀ hj : i < p.size, W2.cell? ⟨b, i, none⟩ = some (.int .u8 (p[i].toNat : Int)) := fun i hj hp' => by rw [hcell i (by omega), ext_get p (j + 1) i (by omega) (by omega)]
        rw [ext_get p (j + 1) j (by omega) (by omega)] at hcm
        have hfm := hfz j (by omega)
        have hback := back_of W2 b j cap p hjp hcl
        have HB2 := Lib.hid hb2
        clear hb2 hcell hfz hcl
        go_wp2
        go_ret2
        obtain ⟨hj, hne, hall⟩ := HA.out.some_
        refine ⟨.inr ⟨p.data.toList.take j, p[j], _, _, rfl, hall, hne, by simp⟩, ?_⟩
        exact (HB.out.trans (HB2.out.mono HB.out.size)).setCell (p := ⟨b, j, none⟩) (by have := HB.out.size; show w.heap.size ≤ b; omega) _
      · have hs' : (p.size : Int) = m + 1 := by omega
        have h255' : decide ((p[m].toNat : Int) = 255) = false := decide_eq_false (by omega)
        have h255'' : ¬ (p[m].toNat : Int) = 255 := by omega
        have HA := Lib.hid hA
        clear hA
        have hm0 : (0 : Int) ≤ m := by omega
        have hsx : (p.extract 0 (m + 1)).size = m + 1 := by simp; omega
        obtain ⟨b, cap, W2, hconv, hcap, hbl, hbt, hb2, hcell, hfz⟩ := bytes_of W1 (p.extract 0 (m + 1)) (m + 1) hsx
        have hcm := hcell m (by omega)
        have hcl : ∀ j, j ≤ m → ∀ hj : j < p.size, W2.cell? ⟨b, j, none⟩ = some (.int .u8 (p[j].toNat : Int)) := fun j hj hp' => by rw [hcell j (by omega), ext_get p (m + 1) j (by omega) (by omega)]
        rw [ext_get p (m + 1) m (by omega) (by omega)] at hcm
        have hfm := hfz m (by omega)
        have hback := back_of W2 b m cap p hm hcl
        have HB2 := Lib.hid hb2
        clear hb2 hcell hfz hcl
        go_wp2
        go_ret2
        obtain ⟨hj, hne, hall⟩ := HA.out.some_
        refine ⟨.inr ⟨p.data.toList.take m, p[m], _, _, rfl, hall, hne, by simp⟩, ?_⟩
        exact (HB.out.trans (HB2.out.mono HB.out.size)).setCell (p := ⟨b, m, none⟩) (by have := HB.out.size; show w.heap.size ≤ b; omega) _
end Go.Proofs.Ytglmhpmjebjcgaa
/- What lies between a prefix and the least text above all that begin with it: just what begins with it. -/
namespace Go.Proofs.Ytglmhpmjebjcgaa
open Go.RowKit Go.Maps

def preB (p : ByteArray) (x : KE) : Bool := p.data.toList.isPrefixOf x.1.data.toList
theorem pre_all : ∀ (m : Nat) (k : List UInt8), (cmpB k (List.replicate m 255) ≠ -1 ↔ (List.replicate m 255).isPrefixOf k = true)
  | 0, k => by
    cases k with
    | nil => simp [cmpB]
    | cons x k => simp [cmpB]
  | m + 1, [] => by simp [List.replicate_succ, cmpB]
  | m + 1, x :: k => by
    rw [List.replicate_succ]
    simp only [cmpB, List.isPrefixOf]
    have hx := x.toNat_lt
    by_cases h : x.toNat < 255
    · have hne : x ≠ 255 := by intro e; rw [e] at h; exact absurd h (by decide)
      have hb : ((255 : UInt8) == x) = false := by rw [beq_eq_false_iff_ne]; exact fun e => hne e.symm
      rw [if_pos (by show x.toNat < 255; exact h), hb]
      simp
    · have he : x = 255 := (u255 x).1 (by omega)
      subst he
      rw [if_neg (by decide), if_neg (by decide)]
      simpa using pre_all m k
theorem pre_some : ∀ (q : List UInt8) (c : UInt8) (m : Nat) (k : List UInt8), c ≠ 255 →
    ((cmpB k (q ++ c :: List.replicate m 255) ≠ -1 ∧ cmpB k (q ++ [c + 1]) = -1) ↔ (q ++ c :: List.replicate m 255).isPrefixOf k = true)
  | [], c, m, [], _ => by simp [cmpB]
  | [], c, m, x :: k, hc => by
    have hc2 : c.toNat < 255 := by
      have h1 := c.toNat_lt
      have h2 : c.toNat ≠ 255 := fun e => hc ((u255 c).1 e)
      omega
    have hc1 : (c + 1).toNat = c.toNat + 1 := by
      rw [UInt8.toNat_add]
      show (c.toNat + 1) % 256 = _
      omega
    simp only [List.nil_append, cmpB, List.isPrefixOf, hc1]
    by_cases h : x.toNat < c.toNat
    · have hb : (c == x) = false := by rw [beq_eq_false_iff_ne]; intro e; rw [e] at h; omega
      rw [if_pos h, hb]
      simp
    · by_cases h2 : c.toNat < x.toNat
      · have hb : (c == x) = false := by rw [beq_eq_false_iff_ne]; intro e; rw [e] at h2; omega
        rw [if_neg h, if_pos h2, hb, if_neg (by omega)]
        by_cases h3 : c.toNat + 1 < x.toNat
        · rw [if_pos h3]; simp
        · rw [if_neg h3]
          cases k with
          | nil => simp [cmpB]
          | cons y k => simp [cmpB]
      · have he : c = x := UInt8.toNat_inj.1 (by omega)
        subst he
        rw [if_neg h, if_neg h, if_pos (by omega)]
        simpa using pre_all m k
  | y :: q, c, m, [], _ => by simp [cmpB]
  | y :: q, c, m, x :: k, hc => by
    simp only [List.cons_append, cmpB, List.isPrefixOf]
    by_cases h : x.toNat < y.toNat
    · have hb : (y == x) = false := by rw [beq_eq_false_iff_ne]; intro e; rw [e] at h; omega
      rw [if_pos h, hb]
      simp
    · by_cases h2 : y.toNat < x.toNat
      · have hb : (y == x) = false := by rw [beq_eq_false_iff_ne]; intro e; rw [e] at h2; omega
        rw [if_neg h, if_pos h2, hb, if_neg h, if_pos h2]
        simp
      · have he : y = x := UInt8.toNat_inj.1 (by omega)
        subst he
        rw [if_neg h, if_neg h, if_neg h, if_neg h]
        simpa using pre_some q c m k hc
/-- What After answers, as Prefix uses it. -/
def PrR (p : ByteArray) (e : Ending) : Prop := ∃ (hi : ByteArray) (ok : Bool), e = .returned (.tuple #[.string hi, .bool ok]) ∧ hi.size ≤ p.size ∧ (ok = false → hi = ⟨#[]⟩) ∧ ∀ xs, sel p hi xs = xs.filter (preB p)
theorem AftR.pr {p : ByteArray} {e : Ending} (h : AftR p e) : PrR p e := by
  rcases h with ⟨h1, h2⟩ | ⟨q, c, m, hi, h1, h2, h3, h4⟩
  · refine ⟨_, _, h1, Nat.zero_le _, fun _ => rfl, fun xs => ?_⟩
    have hp : p.data.toList = List.replicate p.data.toList.length 255 := List.eq_replicate_iff.2 ⟨rfl, h2⟩
    unfold sel
    congr 1
    funext x
    unfold inR preB kc
    rw [Bool.eq_iff_iff, hp, ← pre_all]
    simp
    intro _
    exact .inl rfl
  · have hl : p.data.toList.length = p.size := by simp
    have hl2 : hi.data.toList.length = hi.size := by simp
    have e1 := congrArg List.length h2
    have e2 := congrArg List.length h4
    simp only [List.length_append, List.length_cons, List.length_nil, List.length_replicate] at e1 e2
    refine ⟨_, _, h1, by omega, fun h => (by cases h), fun xs => ?_⟩
    unfold sel
    congr 1
    funext x
    unfold inR preB kc
    rw [Bool.eq_iff_iff, h2, ← pre_some q c m _ h3, h4]
    have hz : hi.size ≠ 0 := by omega
    simp [hz]
theorem after_pr (p : ByteArray) (w : World) (hz : p.size ≤ maxLen) :
    Calls Try.prog 56 #[.string p] w fun e w' => PrR p e ∧ Below w.heap.size w w' := (after_any p w hz).mono fun _ _ h => ⟨h.1.pr, h.2⟩
end Go.Proofs.Ytglmhpmjebjcgaa
/- Prefix: the iterator that goes through All's and hands each entry on. -/
namespace Go.Proofs.Ytglmhpmjebjcgaa
open Go.RowKit Go.Maps Go.Shelf
attribute [local go_sem] Oper.semAt_some

/-- What After is known to answer of p. -/
def AftC (p hi : ByteArray) (ok : Bool) : Prop := ∀ W : World, Calls Try.prog 56 #[.string p] W fun e w' => e = .returned (.tuple #[.string hi, .bool ok]) ∧ Below W.heap.size W w'
theorem filt_pre (p : ByteArray) (xs : List KE) : (xs.filter (preB p)).length ≤ xs.length := List.length_filter_le _ _

set_option maxRecDepth 100000 in
set_option maxHeartbeats 4000000 in
theorem prefix_yes (n : Nat) (hn : 1 ≤ n) (p hi : ByteArray) (hz : p.size ≤ maxLen) (hhz : hi.size ≤ maxLen) (hA : ∀ W : World, Calls Try.prog 56 #[.string p] W fun e w' => e = .returned (.tuple #[.string hi, .bool true]) ∧ Below W.heap.size W w') 
    (hsel : ∀ xs, sel p hi xs = xs.filter (preB p)) (pb db : Nat) (dp q : Option Addr) (T : Tn) (w : World) (hs : Sorted T.flat) (hk : KeysOk T.flat) (hT : Tr w w.heap.size T q) (hd : DTop w dp q)
    (h1 : Box w pb 9 #[.string p]) (h2 : Box w db 23 #[.pointer dp]) :
    SeqM Wf n Try.prog 55 #[.pointer (some ⟨pb, 0, none⟩), .pointer (some ⟨db, 0, none⟩)] encK Kp (fun ys => ys = T.flat.filter (preB p)) (fun pre => pre <+: T.flat.filter (preB p)) (T.flat.filter (preB p)).length w := by
  intro l J Jx W hW hl hJ hJx hY h0
  have HA := Lib.hid hA
  have HSEL := Lib.hid (hsel T.flat)
  have by1 := Box.new W 87 #[.func (.yield l) #[] #[]]
  have hbW : Below W.heap.size W (W.alloc (.cells #[.func (.yield l) #[] #[]] 87)) := bal W _
  have hp1 := (h1.below hW h1.lt).below hbW (h1.below hW h1.lt).lt
  have hd1 := (h2.below hW h2.lt).below hbW (h2.below hW h2.lt).lt
  have hpc := hp1.cell 0
  have hpl := hp1.lt
  have HJ := Lib.hid (And.intro hJ (And.intro hJx (And.intro hY h0)))
  have HT := Lib.hid (And.intro ((hT.below hW).below hbW) ((hd.below hW).below hbW))
  have H1 := Lib.hid (And.intro by1 (And.intro hp1 (And.intro hd1 hbW)))
  clear hA hsel by1 hbW hp1 hd1 hJ hJx hY h0 hT hd
  refine callsIn_of_wp_marks Try.func55 rfl trivial ?_ rfl
  simp only [Try.ntmps55, List.size_toArray, List.length_cons, List.length_nil, Nat.reduceAdd, Nat.reduceSub, Array.replicate_succ, Array.replicate_zero, List.push_toArray, List.append_toArray, List.nil_append, List.cons_append]
  gi_wp2_with (first
    | (gi_at_call 56
       refine (wfc (HA.out _)).mono ?_
       rintro e w1 ⟨rfl, hb1⟩
       have hy2 := H1.out.1.below hb1 H1.out.1.lt
       have hp2 := H1.out.2.1.below hb1 H1.out.2.1.lt
       have hd2 := H1.out.2.2.1.below hb1 H1.out.2.2.1.lt
       have hpc2 := hp2.cell 0
       have hdc2 := hd2.cell 0
       have hpl2 := hp2.lt
       have hdl2 := hd2.lt
       have hs1 := hb1.size
       have H2 := Lib.hid (And.intro hy2 (And.intro hp2 (And.intro hd2 (And.intro (H1.out.2.2.2.trans (hb1.mono H1.out.2.2.2.size)) (And.intro (HT.out.1.below hb1) (HT.out.2.below hb1))))))
       clear hb1 hy2 hp2 hd2)
    | (gi_at_call 49
       refine (wfc (all_any dp p hi _)).mono ?_
       rintro e w' ⟨rfl, rfl⟩))
  have b3 := Box.new w1 23 #[.pointer dp]
  have b4 := Box.new (w1.alloc (.cells #[.pointer dp] 23)) 9 #[.string p]
  have b5 := Box.new ((w1.alloc (.cells #[.pointer dp] 23)).alloc (.cells #[.string p] 9)) 9 #[.string hi]
  have hb0 : Below w1.heap.size w1 (((w1.alloc (.cells #[.pointer dp] 23)).alloc (.cells #[.string p] 9)).alloc (.cells #[.string hi] 9)) :=
    (((Below.refl _ _).alloc (Nat.le_refl _) _).alloc (by simp) _).alloc (by simp <;> omega) _
  simp only [World.size_alloc] at b4 b5
  have b3' := (b3.alloc (.cells #[.string p] 9)).alloc (.cells #[.string hi] 9)
  have b4' := b4.alloc (.cells #[.string hi] 9)
  have hsz : (((w1.alloc (.cells #[.pointer dp] 23)).alloc (.cells #[.string p] 9)).alloc (.cells #[.string hi] 9)).heap.size = w1.heap.size + 3 := by simp
  obtain ⟨W0, hW0⟩ : ∃ W0, (((w1.alloc (.cells #[.pointer dp] 23)).alloc (.cells #[.string p] 9)).alloc (.cells #[.string hi] 9)) = W0 := ⟨_, rfl⟩
  rw [hW0] at b3' b4' b5 hb0 hsz ⊢
  clear hW0 b3 b4
  have hs1' : W.heap.size + 1 ≤ w1.heap.size := by rw [World.size_alloc] at hs1; exact hs1
  have hbW0 : Below W.heap.size W W0 := H2.out.2.2.2.1.trans (hb0.mono H2.out.2.2.2.1.size)
  have hJ0 : J [] W0 := HJ.out.1 _ _ _ none HJ.out.2.2.2 ⟨hbW0.os, hbW0.tape, hbW0.output, hbW0.size, fun k hk _ => hbW0.block k hk⟩ (fun r e => by cases e)
  have hy0 := H2.out.1.below hb0 H2.out.1.lt
  refine wpIn_rangeFunc_ownH rfl hn (gf := 53) (lb := #[.pointer (some ⟨w1.heap.size + 1, 0, none⟩), .pointer (some ⟨w1.heap.size + 2, 0, none⟩), .pointer (some ⟨w1.heap.size, 0, none⟩)]) rfl trivial (enters_of Try.func53 (by kernel_rfl) rfl)
    (all_stops (n - 1) p hi hz hhz _ _ _ dp q T W0 hs hk (H2.out.2.2.2.2.1.below hb0) (H2.out.2.2.2.2.2.below hb0) b4' b5 b3') (fun h k => Kp.trans h k) (fun W l o o' _ h hc _ => kp_put W l o o' h hc) (Below.refl _ _) (fun _ => rfl)
    (fun (pre : List KE) V => J pre V ∧ Box V W.heap.size 87 #[.func (.yield l) #[] #[]])
    (fun c (pre : List KE) V => c = .ret ∧ Jx pre V)
    (OwnFrom.and (own_up HJ.out.1 (by omega)) (box_own1 _ _ _ _))
    (fun c => OwnFrom.and (ownFrom_pure _ _) (own_up HJ.out.2.1 (by omega)))
    ⟨hJ0, hy0⟩
    (fun (x : KE) a' V => ∃ Bx, W.heap.size + 1 ≤ Bx ∧ Box V Bx 38 x.2.cells.toArray ∧ a' = { tmps := #[.func (.yield l) #[] #[], .pointer (some ⟨pb, 0, none⟩), .pointer (some ⟨db, 0, none⟩), .pointer (some ⟨W.heap.size, 0, none⟩), .string hi, .bool true, .string x.1, .pointer (some ⟨Bx, 0, none⟩), .tuple #[.string hi, .bool true], .string p, .tuple #[.string hi, .bool true], .string hi, .bool true, .bool true, .bool false, .pointer dp, .string p, .string hi, .func (.func 53) #[] #[.pointer (some ⟨w1.heap.size + 1, 0, none⟩), .pointer (some ⟨w1.heap.size + 2, 0, none⟩), .pointer (some ⟨w1.heap.size, 0, none⟩)], .string x.1, x.2.v, undef, undef, undef, undef, undef], defers := [] })
    (fun x a' s A B row h hg hr => by obtain ⟨Bx, h1, h2, h3⟩ := h; exact ⟨Bx, h1, box_own1 (β := Unit) _ Bx _ _ s A B row h2 hg hr, h3⟩)
    ?assign ?body ?done ?stop
  case assign =>
    rintro l2 pre x V K ⟨hj, hbx⟩ hK
    unfold encK
    gi_wp2
    have hv := hbx.lt
    refine hK _ _ ((KeepsOthers.alloc _ _).from _) (Kp.of_below (bal _ _)) ⟨HJ.out.1.alloc _ hj, hbx.alloc _⟩ ⟨V.heap.size, by omega, Box.new V _ _, rfl⟩
  case body =>
    rintro l2 pre x a' V hl2 ⟨r, hr⟩ ⟨hj, hbx⟩ ⟨Bx, hBx, bX, rfl⟩ hlN
    have hcx := bX.cell
    unfold En.cells at hcx
    have hyc := hbx.cell 0
    have hy1 := HJ.out.2.2.1 pre x V hj (by rw [HSEL.out] at hlN; exact hlN)
    have hbxl := hbx.lt
    clear hr hj bX hlN
    obtain ⟨fn, tmps, assign, body, hy, hR⟩ := YieldAt.any (m' := n - 1 - 1 - 1) hy1
    dsimp only [encK] at hy
    have hR2 : RoundIn (Wf.inRound l2) (n - 1 - 1 - 1) Try.prog l fn tmps assign body V (fun e V' => ((e = .returned (.bool true) ∧ J (pre ++ [x]) V' ∧ Kp V V') ∨ (e = .returned (.bool false) ∧ Jx (pre ++ [x]) V')) ∧ KeepsFrom W.heap.size V V') := hR
    have HR := Lib.hid hR2
    have HBX := Lib.hid hbx
    clear hR hR2 hy1 hbx
    gi_wp2
    (with_reducible refine RoundIn.mono HR.out ?_)
    rintro e V' ⟨⟨rfl, hj', hk'⟩ | ⟨rfl, hj'⟩, hkf⟩
    · have HV := Lib.hid (And.intro hj' (And.intro hk' hkf))
      clear hj' hk' hkf
      gi_wp2
      exact ⟨keeps_up HV.out.2.2 (by omega), HV.out.2.1, HV.out.1, HV.out.2.1.box (.inr (.inr (.inl rfl))) HBX.out⟩
    · have HV := Lib.hid (And.intro hj' hkf)
      clear hj' hkf
      gi_wp2
      exact ⟨keeps_up HV.out.2 (by omega), rfl, HV.out.1⟩
  case done =>
    rintro D ys V hD rfl ⟨hj, hbx⟩ hK
    have HH := Lib.hid hj
    have HKK := Lib.hid hK
    clear hj hbx hK
    gi_wp2
    refine ⟨by simp, .inl ⟨_, _, rfl, run_takeDeferred HKK.out, ?_⟩⟩
    refine ⟨_, results_none rfl _ _ _, ⟨_, rfl⟩, .inl ⟨_, rfl, ?_⟩⟩
    rw [← HSEL.out]
    exact (own_up HJ.out.1 (by omega)).putObj _ HH.out hD HKK.out rfl
  case stop =>
    rintro D c pre V hD hpre ⟨rfl, hj⟩ hK
    have HH := Lib.hid (And.intro hj hpre)
    have HKK := Lib.hid hK
    clear hj hK hpre
    gi_wp2
    refine ⟨by simp, .inl ⟨_, _, rfl, run_takeDeferred HKK.out, ?_⟩⟩
    refine ⟨_, results_none rfl _ _ _, ⟨_, rfl⟩, .inr ⟨pre, ?_, ?_⟩⟩
    · rw [← HSEL.out]; exact HH.out.2
    · exact (own_up HJ.out.2.1 (by omega)).putObj _ HH.out.1 hD HKK.out rfl

set_option maxRecDepth 100000 in
set_option maxHeartbeats 4000000 in
theorem prefix_no (n : Nat) (hn : 1 ≤ n) (p hi : ByteArray) (hz : p.size ≤ maxLen) (hhz : hi.size ≤ maxLen) (hA : ∀ W : World, Calls Try.prog 56 #[.string p] W fun e w' => e = .returned (.tuple #[.string hi, .bool false]) ∧ Below W.heap.size W w') (hno : hi = ⟨#[]⟩)
    (hsel : ∀ xs, sel p hi xs = xs.filter (preB p)) (pb db : Nat) (dp q : Option Addr) (T : Tn) (w : World) (hs : Sorted T.flat) (hk : KeysOk T.flat) (hT : Tr w w.heap.size T q) (hd : DTop w dp q)
    (h1 : Box w pb 9 #[.string p]) (h2 : Box w db 23 #[.pointer dp]) :
    SeqM Wf n Try.prog 55 #[.pointer (some ⟨pb, 0, none⟩), .pointer (some ⟨db, 0, none⟩)] encK Kp (fun ys => ys = T.flat.filter (preB p)) (fun pre => pre <+: T.flat.filter (preB p)) (T.flat.filter (preB p)).length w := by
  intro l J Jx W hW hl hJ hJx hY h0
  subst hno
  have HA := Lib.hid hA
  have HSEL := Lib.hid (hsel T.flat)
  have by1 := Box.new W 87 #[.func (.yield l) #[] #[]]
  have hbW : Below W.heap.size W (W.alloc (.cells #[.func (.yield l) #[] #[]] 87)) := bal W _
  have hp1 := (h1.below hW h1.lt).below hbW (h1.below hW h1.lt).lt
  have hd1 := (h2.below hW h2.lt).below hbW (h2.below hW h2.lt).lt
  have hpc := hp1.cell 0
  have hpl := hp1.lt
  have HJ := Lib.hid (And.intro hJ (And.intro hJx (And.intro hY h0)))
  have HT := Lib.hid (And.intro ((hT.below hW).below hbW) ((hd.below hW).below hbW))
  have H1 := Lib.hid (And.intro by1 (And.intro hp1 (And.intro hd1 hbW)))
  clear hA hsel by1 hbW hp1 hd1 hJ hJx hY h0 hT hd
  refine callsIn_of_wp_marks Try.func55 rfl trivial ?_ rfl
  simp only [Try.ntmps55, List.size_toArray, List.length_cons, List.length_nil, Nat.reduceAdd, Nat.reduceSub, Array.replicate_succ, Array.replicate_zero, List.push_toArray, List.append_toArray, List.nil_append, List.cons_append]
  gi_wp2_with (first
    | (gi_at_call 56
       refine (wfc (HA.out _)).mono ?_
       rintro e w1 ⟨rfl, hb1⟩
       have hy2 := H1.out.1.below hb1 H1.out.1.lt
       have hp2 := H1.out.2.1.below hb1 H1.out.2.1.lt
       have hd2 := H1.out.2.2.1.below hb1 H1.out.2.2.1.lt
       have hpc2 := hp2.cell 0
       have hdc2 := hd2.cell 0
       have hpl2 := hp2.lt
       have hdl2 := hd2.lt
       have hs1 := hb1.size
       have H2 := Lib.hid (And.intro hy2 (And.intro hp2 (And.intro hd2 (And.intro (H1.out.2.2.2.trans (hb1.mono H1.out.2.2.2.size)) (And.intro (HT.out.1.below hb1) (HT.out.2.below hb1))))))
       clear hb1 hy2 hp2 hd2)
    | (gi_at_call 49
       refine (wfc (all_any dp p ⟨#[]⟩ _)).mono ?_
       rintro e w' ⟨rfl, rfl⟩))
  have b3 := Box.new w1 23 #[.pointer dp]
  have b4 := Box.new (w1.alloc (.cells #[.pointer dp] 23)) 9 #[.string p]
  have b5 := Box.new ((w1.alloc (.cells #[.pointer dp] 23)).alloc (.cells #[.string p] 9)) 9 #[.string ⟨#[]⟩]
  have hb0 : Below w1.heap.size w1 (((w1.alloc (.cells #[.pointer dp] 23)).alloc (.cells #[.string p] 9)).alloc (.cells #[.string ⟨#[]⟩] 9)) :=
    (((Below.refl _ _).alloc (Nat.le_refl _) _).alloc (by simp) _).alloc (by simp <;> omega) _
  simp only [World.size_alloc] at b4 b5
  have b3' := (b3.alloc (.cells #[.string p] 9)).alloc (.cells #[.string ⟨#[]⟩] 9)
  have b4' := b4.alloc (.cells #[.string ⟨#[]⟩] 9)
  have hsz : (((w1.alloc (.cells #[.pointer dp] 23)).alloc (.cells #[.string p] 9)).alloc (.cells #[.string ⟨#[]⟩] 9)).heap.size = w1.heap.size + 3 := by simp
  obtain ⟨W0, hW0⟩ : ∃ W0, (((w1.alloc (.cells #[.pointer dp] 23)).alloc (.cells #[.string p] 9)).alloc (.cells #[.string ⟨#[]⟩] 9)) = W0 := ⟨_, rfl⟩
  rw [hW0] at b3' b4' b5 hb0 hsz ⊢
  clear hW0 b3 b4
  have hs1' : W.heap.size + 1 ≤ w1.heap.size := by rw [World.size_alloc] at hs1; exact hs1
  have hbW0 : Below W.heap.size W W0 := H2.out.2.2.2.1.trans (hb0.mono H2.out.2.2.2.1.size)
  have hJ0 : J [] W0 := HJ.out.1 _ _ _ none HJ.out.2.2.2 ⟨hbW0.os, hbW0.tape, hbW0.output, hbW0.size, fun k hk _ => hbW0.block k hk⟩ (fun r e => by cases e)
  have hy0 := H2.out.1.below hb0 H2.out.1.lt
  refine wpIn_rangeFunc_ownH rfl hn (gf := 53) (lb := #[.pointer (some ⟨w1.heap.size + 1, 0, none⟩), .pointer (some ⟨w1.heap.size + 2, 0, none⟩), .pointer (some ⟨w1.heap.size, 0, none⟩)]) rfl trivial (enters_of Try.func53 (by kernel_rfl) rfl)
    (all_stops (n - 1) p ⟨#[]⟩ hz hhz _ _ _ dp q T W0 hs hk (H2.out.2.2.2.2.1.below hb0) (H2.out.2.2.2.2.2.below hb0) b4' b5 b3') (fun h k => Kp.trans h k) (fun W l o o' _ h hc _ => kp_put W l o o' h hc) (Below.refl _ _) (fun _ => rfl)
    (fun (pre : List KE) V => J pre V ∧ Box V W.heap.size 87 #[.func (.yield l) #[] #[]])
    (fun c (pre : List KE) V => c = .ret ∧ Jx pre V)
    (OwnFrom.and (own_up HJ.out.1 (by omega)) (box_own1 _ _ _ _))
    (fun c => OwnFrom.and (ownFrom_pure _ _) (own_up HJ.out.2.1 (by omega)))
    ⟨hJ0, hy0⟩
    (fun (x : KE) a' V => ∃ Bx, W.heap.size + 1 ≤ Bx ∧ Box V Bx 38 x.2.cells.toArray ∧ a' = { tmps := #[.func (.yield l) #[] #[], .pointer (some ⟨pb, 0, none⟩), .pointer (some ⟨db, 0, none⟩), .pointer (some ⟨W.heap.size, 0, none⟩), .string ⟨#[]⟩, .bool false, .string x.1, .pointer (some ⟨Bx, 0, none⟩), .tuple #[.string ⟨#[]⟩, .bool false], .string p, .tuple #[.string ⟨#[]⟩, .bool false], .string ⟨#[]⟩, .bool false, .bool false, .bool true, .pointer dp, .string p, .string ⟨#[]⟩, .func (.func 53) #[] #[.pointer (some ⟨w1.heap.size + 1, 0, none⟩), .pointer (some ⟨w1.heap.size + 2, 0, none⟩), .pointer (some ⟨w1.heap.size, 0, none⟩)], .string x.1, x.2.v, undef, undef, undef, undef, undef], defers := [] })
    (fun x a' s A B row h hg hr => by obtain ⟨Bx, h1, h2, h3⟩ := h; exact ⟨Bx, h1, box_own1 (β := Unit) _ Bx _ _ s A B row h2 hg hr, h3⟩)
    ?assign ?body ?done ?stop
  case assign =>
    rintro l2 pre x V K ⟨hj, hbx⟩ hK
    unfold encK
    gi_wp2
    have hv := hbx.lt
    refine hK _ _ ((KeepsOthers.alloc _ _).from _) (Kp.of_below (bal _ _)) ⟨HJ.out.1.alloc _ hj, hbx.alloc _⟩ ⟨V.heap.size, by omega, Box.new V _ _, rfl⟩
  case body =>
    rintro l2 pre x a' V hl2 ⟨r, hr⟩ ⟨hj, hbx⟩ ⟨Bx, hBx, bX, rfl⟩ hlN
    have hcx := bX.cell
    unfold En.cells at hcx
    have hyc := hbx.cell 0
    have hy1 := HJ.out.2.2.1 pre x V hj (by rw [HSEL.out] at hlN; exact hlN)
    have hbxl := hbx.lt
    clear hr hj bX hlN
    obtain ⟨fn, tmps, assign, body, hy, hR⟩ := YieldAt.any (m' := n - 1 - 1 - 1) hy1
    dsimp only [encK] at hy
    have hR2 : RoundIn (Wf.inRound l2) (n - 1 - 1 - 1) Try.prog l fn tmps assign body V (fun e V' => ((e = .returned (.bool true) ∧ J (pre ++ [x]) V' ∧ Kp V V') ∨ (e = .returned (.bool false) ∧ Jx (pre ++ [x]) V')) ∧ KeepsFrom W.heap.size V V') := hR
    have HR := Lib.hid hR2
    have HBX := Lib.hid hbx
    clear hR hR2 hy1 hbx
    gi_wp2
    (with_reducible refine RoundIn.mono HR.out ?_)
    rintro e V' ⟨⟨rfl, hj', hk'⟩ | ⟨rfl, hj'⟩, hkf⟩
    · have HV := Lib.hid (And.intro hj' (And.intro hk' hkf))
      clear hj' hk' hkf
      gi_wp2
      exact ⟨keeps_up HV.out.2.2 (by omega), HV.out.2.1, HV.out.1, HV.out.2.1.box (.inr (.inr (.inl rfl))) HBX.out⟩
    · have HV := Lib.hid (And.intro hj' hkf)
      clear hj' hkf
      gi_wp2
      exact ⟨keeps_up HV.out.2 (by omega), rfl, HV.out.1⟩
  case done =>
    rintro D ys V hD rfl ⟨hj, hbx⟩ hK
    have HH := Lib.hid hj
    have HKK := Lib.hid hK
    clear hj hbx hK
    gi_wp2
    refine ⟨by simp, .inl ⟨_, _, rfl, run_takeDeferred HKK.out, ?_⟩⟩
    refine ⟨_, results_none rfl _ _ _, ⟨_, rfl⟩, .inl ⟨_, rfl, ?_⟩⟩
    rw [← HSEL.out]
    exact (own_up HJ.out.1 (by omega)).putObj _ HH.out hD HKK.out rfl
  case stop =>
    rintro D c pre V hD hpre ⟨rfl, hj⟩ hK
    have HH := Lib.hid (And.intro hj hpre)
    have HKK := Lib.hid hK
    clear hj hK hpre
    gi_wp2
    refine ⟨by simp, .inl ⟨_, _, rfl, run_takeDeferred HKK.out, ?_⟩⟩
    refine ⟨_, results_none rfl _ _ _, ⟨_, rfl⟩, .inr ⟨pre, ?_, ?_⟩⟩
    · rw [← HSEL.out]; exact HH.out.2
    · exact (own_up HJ.out.2.1 (by omega)).putObj _ HH.out.1 hD HKK.out rfl
end Go.Proofs.Ytglmhpmjebjcgaa
/- Prefix's iterator gives just the entries whose key begins with the prefix. -/
namespace Go.Proofs.Ytglmhpmjebjcgaa
open Go.RowKit Go.Maps Go.Shelf

def strip : List UInt8 → List UInt8
  | [] => []
  | x :: l => if x = 255 then strip l else x :: l
theorem strip_rep (m : Nat) (c : UInt8) (r : List UInt8) (hc : c ≠ 255) : strip (List.replicate m 255 ++ c :: r) = c :: r := by
  induction m with
  | zero => simp [strip, hc]
  | succ m ih => rw [List.replicate_succ, List.cons_append]; simp only [strip]; rw [if_pos trivial, ih]
theorem strip_all (m : Nat) : strip (List.replicate m 255) = [] := by
  induction m with
  | zero => rfl
  | succ m ih => rw [List.replicate_succ]; simp only [strip]; rw [if_pos trivial, ih]
theorem strip_spec : ∀ l : List UInt8, ∃ m, l = List.replicate m 255 ++ strip l ∧ (strip l = [] ∨ ∃ c r, strip l = c :: r ∧ c ≠ 255)
  | [] => ⟨0, rfl, .inl rfl⟩
  | x :: l => by
    by_cases h : x = 255
    · obtain ⟨m, h1, h2⟩ := strip_spec l
      refine ⟨m + 1, ?_, ?_⟩
      · simp only [strip]; rw [if_pos h, List.replicate_succ, List.cons_append, ← h1, h]
      · simp only [strip]; rw [if_pos h]; exact h2
    · exact ⟨0, by simp [strip, h], .inr ⟨x, l, by simp [strip, h], h⟩⟩
def hiOf (p : ByteArray) : ByteArray × Bool := match strip p.data.toList.reverse with
  | [] => (⟨#[]⟩, false)
  | c :: r => (⟨(r.reverse ++ [c + 1]).toArray⟩, true)
theorem AftR.val {p : ByteArray} {e : Ending} (h : AftR p e) : e = .returned (.tuple #[.string (hiOf p).1, .bool (hiOf p).2]) := by
  rcases h with ⟨h1, h2⟩ | ⟨q, c, m, hi, h1, h2, h3, h4⟩
  · have hp : p.data.toList = List.replicate p.data.toList.length 255 := List.eq_replicate_iff.2 ⟨rfl, h2⟩
    have : hiOf p = (⟨#[]⟩, false) := by unfold hiOf; rw [hp, List.reverse_replicate, strip_all]
    rw [this, h1]
  · have hr : p.data.toList.reverse = List.replicate m 255 ++ c :: q.reverse := by rw [h2]; simp
    have hh : hi = ⟨(q ++ [c + 1]).toArray⟩ := by
      apply WideShapes.bytes_inj
      rw [h4]
    have : hiOf p = (hi, true) := by unfold hiOf; rw [hr, strip_rep m c _ h3, hh]; simp
    rw [this, h1]
theorem aft_hi (p : ByteArray) : AftR p (.returned (.tuple #[.string (hiOf p).1, .bool (hiOf p).2])) := by
  obtain ⟨m, h1, h2⟩ := strip_spec p.data.toList.reverse
  have hr := congrArg List.reverse h1
  rw [List.reverse_reverse] at hr
  rcases h2 with h2 | ⟨c, r, h2, h3⟩
  · left
    have : hiOf p = (⟨#[]⟩, false) := by unfold hiOf; rw [h2]
    rw [this]
    refine ⟨rfl, fun b hb => ?_⟩
    rw [hr, h2, List.append_nil, List.reverse_replicate] at hb
    exact (List.mem_replicate.1 hb).2
  · right
    have : hiOf p = (⟨(r.reverse ++ [c + 1]).toArray⟩, true) := by unfold hiOf; rw [h2]
    rw [this]
    refine ⟨r.reverse, c, m, _, rfl, ?_, h3, by simp⟩
    rw [hr, h2]
    simp
theorem after_hi (p : ByteArray) (w : World) (hz : p.size ≤ maxLen) :
    Calls Try.prog 56 #[.string p] w fun e w' => e = .returned (.tuple #[.string (hiOf p).1, .bool (hiOf p).2]) ∧ Below w.heap.size w w' := (after_any p w hz).mono fun _ _ h => ⟨h.1.val, h.2⟩

theorem prefix_seq (n : Nat) (hn : 1 ≤ n) (p : ByteArray) (hz : p.size ≤ maxLen) (pb db : Nat) (dp q : Option Addr) (T : Tn) (w : World) (hs : Sorted T.flat) (hk : KeysOk T.flat) (hT : Tr w w.heap.size T q) (hd : DTop w dp q)
    (h1 : Box w pb 9 #[.string p]) (h2 : Box w db 23 #[.pointer dp]) :
    SeqM Wf n Try.prog 55 #[.pointer (some ⟨pb, 0, none⟩), .pointer (some ⟨db, 0, none⟩)] encK Kp (fun ys => ys = T.flat.filter (preB p)) (fun pre => pre <+: T.flat.filter (preB p)) (T.flat.filter (preB p)).length w := by
  obtain ⟨hi, ok, he, h3, h4, h5⟩ := (aft_hi p).pr
  have he' : hiOf p = (hi, ok) := by
    injection he with he
    injection he with he
    have e1 : (#[Value.string (hiOf p).1, Value.bool (hiOf p).2] : Array Value)[0]? = #[Value.string hi, Value.bool ok][0]? := by rw [he]
    have e2 : (#[Value.string (hiOf p).1, Value.bool (hiOf p).2] : Array Value)[1]? = #[Value.string hi, Value.bool ok][1]? := by rw [he]
    have e3 : (hiOf p).1 = hi := by simpa using e1
    have e4 : (hiOf p).2 = ok := by simpa using e2
    rw [← e3, ← e4]
  have hA : ∀ W : World, Calls Try.prog 56 #[.string p] W fun e w' => e = .returned (.tuple #[.string hi, .bool ok]) ∧ Below W.heap.size W w' := fun W => by
    have := after_hi p W hz
    rwa [he'] at this
  cases ok with
  | true => exact prefix_yes n hn p hi hz (by omega) hA h5 pb db dp q T w hs hk hT hd h1 h2
  | false => exact prefix_no n hn p hi hz (by omega) hA (h4 rfl) h5 pb db dp q T w hs hk hT hd h1 h2
theorem prefix_any (dp : Option Addr) (p : ByteArray) (w : World) :
    Calls Try.prog 50 #[.pointer dp, .string p] w fun e w' =>
      e = .returned (.func (.func 55) #[] #[.pointer (some ⟨w.heap.size + 1, 0, none⟩), .pointer (some ⟨w.heap.size, 0, none⟩)]) ∧
      w' = (w.alloc (.cells #[.pointer dp] 23)).alloc (.cells #[.string p] 9) := by
  go_enter Try.func50, Try.ntmps50
  go_wp2
  go_ret
  exact ⟨rfl, rfl⟩
end Go.Proofs.Ytglmhpmjebjcgaa
namespace Go.Proofs.Ytglmhpmjebjcgaa
open Go.RowKit Go.Maps

/-- A new root, nothing else: a dir again. -/
theorem DR.root {w2 : World} {d : Nat} {p p2 : Option Addr} {t2 : Tn} {xs : List KE} (hq3 : Box w2 d 28 #[.pointer p]) (g2 : Tr w2 w2.heap.size t2 p2) (hf : t2.flat = xs) (hs : Sorted xs) (hk : KeysOk xs) : DR (w2.setCell ⟨d, 0, none⟩ (.pointer p2)) d xs := by
  have hc0 : Chg (fun k => k = d) w2 (w2.setCell ⟨d, 0, none⟩ (.pointer p2)) := (Chg.refl (fun k => k = d) w2).setCell (p := ⟨d, 0, none⟩) (.inl rfl) _
  have n1 : NK w2 (w2.setCell ⟨d, 0, none⟩ (.pointer p2)) := NK.of_chg hc0 fun k hk cs => by subst hk; exact box_not hq3 (by decide) cs
  exact ⟨t2, p2, by simpa using hq3.set_ 0 (.pointer p2), g2.nk n1 n1.size, hf, hs, hk⟩

set_option maxRecDepth 100000 in
set_option maxHeartbeats 8000000 in
theorem note_none (d : Nat) (key : ByteArray) (en : En) (xs : List KE) (w : World) (h : DR w d xs) (hz : 1 ≤ key.size ∧ key.size ≤ 64) (hc : xs.length ≤ 800000000000000) (hg : getL key xs = none) :
    Calls Try.prog 13 #[.pointer (some ⟨d, 0, none⟩), .string key, en.v] w fun e w' => e = .returned (.tuple #[.bool true, .int .i64 0]) ∧ DR w' d (putL key en xs) ∧ Dch d w w' := by
  obtain ⟨t, p, h1, h2, rfl, h4, h5⟩ := h
  have hb0 : Below w.heap.size w (w.alloc (.cells #[.int .i64 en.seg, .int .i64 en.at_, .int .i64 en.size, .int .i64 en.off, .int .i64 en.time, .bool en.tomb] 38)) := (Below.refl _ _).alloc (Nat.le_refl _) _
  have hX0 := Box.new w 38 #[.int .i64 en.seg, .int .i64 en.at_, .int .i64 en.size, .int .i64 en.off, .int .i64 en.time, .bool en.tomb]
  have hdl := h1.lt
  have H := Lib.hid (And.intro hb0 (And.intro hX0 (And.intro (h1.below hb0 hdl) (And.intro (h2.below hb0) (And.intro h4 h5)))))
  have HG := Lib.hid (show entV (getL key t.flat) = .tuple #[En.zero.v, .bool false] by rw [hg]; rfl)
  have hcn : t.cnt ≤ 800000000000000 := hc
  clear hc hg
  generalize En.zero = o at HG
  clear h1 h2 h4 h5 hb0 hX0
  go_enter Try.func13, Try.ntmps13
  go_wp2_with (first
    | (go_at_call 40
       refine (refused_ok d key _ hz).mono ?_
       rintro e w' ⟨rfl, rfl⟩)
    | (go_at_call 17
       refine (get_any d key t.flat _ ⟨t, p, H.out.2.2.1, H.out.2.2.2.1, rfl, H.out.2.2.2.2.1, H.out.2.2.2.2.2⟩ (sz64 hz.2)).mono ?_
       rintro e w1 ⟨rfl, hb1⟩
       rw [HG.out]
       have hq1 := H.out.2.1.below hb1 H.out.2.1.lt
       have hq3 := H.out.2.2.1.below hb1 H.out.2.2.1.lt
       have hc1 := hq1.cell
       have hl1 := hq1.lt
       have hc3 := hq3.cell
       have hf3 := hq3.free
       have hl3 := hq3.lt
       have H1 := Lib.hid (And.intro (H.out.1.trans (hb1.mono H.out.1.size)) (And.intro hq3 (H.out.2.2.2.1.below hb1)))
       clear hb1 hq1 hq3))
  go_region_with (first
    | (go_at_call 41
       (with_reducible refine (with_any key en hz t p _ ?_ ?_ ?_ ?_).mono ?_)
       · exact H1.out.2.2.below (bal w1 _).drew
       · exact H.out.2.2.2.2.1
       · exact H.out.2.2.2.2.2
       · exact hcn
       rintro e w2 ⟨t2, p2, rfl, f2, g2, b2⟩
       have b12 : Below w1.heap.size w1 w2 := ((bal w1 (.cells #[.int .i64 o.seg, .int .i64 o.at_, .int .i64 o.size, .int .i64 o.off, .int .i64 o.time, .bool o.tomb] 38)).drew).trans (b2.mono (by simp))
       have hq3 := H1.out.2.1.below b12 hl3
       have hc33 := hq3.cell
       have hf33 := hq3.free
       have hl33 := hq3.lt
       have H2 := Lib.hid (And.intro f2 (And.intro g2 (And.intro (H1.out.1.trans (b12.mono H1.out.1.size)) hq3)))
       clear f2 g2 b2 b12 hq3))
  all_goals
    go_wp2
    go_ret2
    exact ⟨rfl, DR.root H2.out.2.2.2 H2.out.2.1 H2.out.1 (H.out.2.2.2.2.1.put _ _) (H.out.2.2.2.2.2.put hz), (Chg.of_below H2.out.2.2.1 (fun k => k = d)).setCell (p := ⟨d, 0, none⟩) (.inl rfl) _⟩

set_option maxRecDepth 100000 in
set_option maxHeartbeats 8000000 in
theorem note_more (d : Nat) (key : ByteArray) (en : En) (xs : List KE) (w : World) (h : DR w d xs) (hz : 1 ≤ key.size ∧ key.size ≤ 64) (hc : xs.length ≤ 800000000000000) (o : En) (hg : getL key xs = some o) (hlt : o.off < en.off) :
    Calls Try.prog 13 #[.pointer (some ⟨d, 0, none⟩), .string key, en.v] w fun e w' => e = .returned (.tuple #[.bool true, .int .i64 0]) ∧ DR w' d (putL key en xs) ∧ Dch d w w' := by
  obtain ⟨t, p, h1, h2, rfl, h4, h5⟩ := h
  have hb0 : Below w.heap.size w (w.alloc (.cells #[.int .i64 en.seg, .int .i64 en.at_, .int .i64 en.size, .int .i64 en.off, .int .i64 en.time, .bool en.tomb] 38)) := (Below.refl _ _).alloc (Nat.le_refl _) _
  have hX0 := Box.new w 38 #[.int .i64 en.seg, .int .i64 en.at_, .int .i64 en.size, .int .i64 en.off, .int .i64 en.time, .bool en.tomb]
  have hdl := h1.lt
  have H := Lib.hid (And.intro hb0 (And.intro hX0 (And.intro (h1.below hb0 hdl) (And.intro (h2.below hb0) (And.intro h4 h5)))))
  have HG := Lib.hid (show entV (getL key t.flat) = .tuple #[o.v, .bool true] by rw [hg]; rfl)
  have hcn : t.cnt ≤ 800000000000000 := hc
  clear hc hg
  clear h1 h2 h4 h5 hb0 hX0
  go_enter Try.func13, Try.ntmps13
  go_wp2_with (first
    | (go_at_call 40
       refine (refused_ok d key _ hz).mono ?_
       rintro e w' ⟨rfl, rfl⟩)
    | (go_at_call 17
       refine (get_any d key t.flat _ ⟨t, p, H.out.2.2.1, H.out.2.2.2.1, rfl, H.out.2.2.2.2.1, H.out.2.2.2.2.2⟩ (sz64 hz.2)).mono ?_
       rintro e w1 ⟨rfl, hb1⟩
       rw [HG.out]
       have hq1 := H.out.2.1.below hb1 H.out.2.1.lt
       have hq3 := H.out.2.2.1.below hb1 H.out.2.2.1.lt
       have hc1 := hq1.cell
       have hl1 := hq1.lt
       have hc3 := hq3.cell
       have hf3 := hq3.free
       have hl3 := hq3.lt
       have H1 := Lib.hid (And.intro (H.out.1.trans (hb1.mono H.out.1.size)) (And.intro hq3 (H.out.2.2.2.1.below hb1)))
       clear hb1 hq1 hq3))
  go_region_with (first
    | (go_at_call 41
       (with_reducible refine (with_any key en hz t p _ ?_ ?_ ?_ ?_).mono ?_)
       · exact H1.out.2.2.below (bal w1 _).drew
       · exact H.out.2.2.2.2.1
       · exact H.out.2.2.2.2.2
       · exact hcn
       rintro e w2 ⟨t2, p2, rfl, f2, g2, b2⟩
       have b12 : Below w1.heap.size w1 w2 := ((bal w1 (.cells #[.int .i64 o.seg, .int .i64 o.at_, .int .i64 o.size, .int .i64 o.off, .int .i64 o.time, .bool o.tomb] 38)).drew).trans (b2.mono (by simp))
       have hq3 := H1.out.2.1.below b12 hl3
       have hc33 := hq3.cell
       have hf33 := hq3.free
       have hl33 := hq3.lt
       have H2 := Lib.hid (And.intro f2 (And.intro g2 (And.intro (H1.out.1.trans (b12.mono H1.out.1.size)) hq3)))
       clear f2 g2 b2 b12 hq3))
  all_goals
    go_wp2
    go_ret2
    exact ⟨rfl, DR.root H2.out.2.2.2 H2.out.2.1 H2.out.1 (H.out.2.2.2.2.1.put _ _) (H.out.2.2.2.2.2.put hz), (Chg.of_below H2.out.2.2.1 (fun k => k = d)).setCell (p := ⟨d, 0, none⟩) (.inl rfl) _⟩

set_option maxRecDepth 100000 in
set_option maxHeartbeats 8000000 in
theorem note_less (d : Nat) (key : ByteArray) (en : En) (xs : List KE) (w : World) (h : DR w d xs) (hz : 1 ≤ key.size ∧ key.size ≤ 64) (o : En) (hg : getL key xs = some o) (hle : en.off ≤ o.off) :
    Calls Try.prog 13 #[.pointer (some ⟨d, 0, none⟩), .string key, en.v] w fun e w' => e = .returned (.tuple #[.bool false, .int .i64 0]) ∧ Below w.heap.size w w' := by
  obtain ⟨t, p, h1, h2, rfl, h4, h5⟩ := h
  have hb0 : Below w.heap.size w (w.alloc (.cells #[.int .i64 en.seg, .int .i64 en.at_, .int .i64 en.size, .int .i64 en.off, .int .i64 en.time, .bool en.tomb] 38)) := (Below.refl _ _).alloc (Nat.le_refl _) _
  have hX0 := Box.new w 38 #[.int .i64 en.seg, .int .i64 en.at_, .int .i64 en.size, .int .i64 en.off, .int .i64 en.time, .bool en.tomb]
  have hdl := h1.lt
  have H := Lib.hid (And.intro hb0 (And.intro hX0 (And.intro (h1.below hb0 hdl) (And.intro (h2.below hb0) (And.intro h4 h5)))))
  have HG := Lib.hid (show entV (getL key t.flat) = .tuple #[o.v, .bool true] by rw [hg]; rfl)
  clear hg
  clear h1 h2 h4 h5 hb0 hX0
  go_enter Try.func13, Try.ntmps13
  go_wp2_with (first
    | (go_at_call 40
       refine (refused_ok d key _ hz).mono ?_
       rintro e w' ⟨rfl, rfl⟩)
    | (go_at_call 17
       refine (get_any d key t.flat _ ⟨t, p, H.out.2.2.1, H.out.2.2.2.1, rfl, H.out.2.2.2.2.1, H.out.2.2.2.2.2⟩ (sz64 hz.2)).mono ?_
       rintro e w1 ⟨rfl, hb1⟩
       rw [HG.out]
       have hq1 := H.out.2.1.below hb1 H.out.2.1.lt
       have hq3 := H.out.2.2.1.below hb1 H.out.2.2.1.lt
       have hc1 := hq1.cell
       have hl1 := hq1.lt
       have hc3 := hq3.cell
       have hf3 := hq3.free
       have hl3 := hq3.lt
       have H1 := Lib.hid (And.intro (H.out.1.trans (hb1.mono H.out.1.size)) (And.intro hq3 (H.out.2.2.2.1.below hb1)))
       clear hb1 hq1 hq3))
  go_ret2
  exact ⟨rfl, H1.out.1.alloc H1.out.1.size _⟩

set_option maxRecDepth 100000 in
theorem note_bad (d : Nat) (key : ByteArray) (en : En) (w : World) (h : ¬ (1 ≤ key.size ∧ key.size ≤ 64)) (hm : key.size ≤ maxLen) :
    Calls Try.prog 13 #[.pointer (some ⟨d, 0, none⟩), .string key, en.v] w fun e w' => e = .returned (.tuple #[.bool false, .int .i64 42]) ∧ Below w.heap.size w w' := by
  have HB := Lib.hid (bal w (.cells #[.int .i64 en.seg, .int .i64 en.at_, .int .i64 en.size, .int .i64 en.off, .int .i64 en.time, .bool en.tomb] 38))
  go_enter Try.func13, Try.ntmps13
  go_wp2_with (first
    | (go_at_call 40
       refine (refused_key d key _ h hm).mono ?_
       rintro e w' ⟨rfl, rfl⟩))
  go_ret2
  exact ⟨rfl, HB.out⟩

set_option maxRecDepth 100000 in
set_option maxHeartbeats 4000000 in
theorem put_bad (d : Nat) (key : ByteArray) (en : En) (w : World) (h : ¬ (1 ≤ key.size ∧ key.size ≤ 64)) (hm : key.size ≤ maxLen) :
    Calls Try.prog 11 #[.pointer (some ⟨d, 0, none⟩), .string key, en.v] w fun e w' => e = .returned (.tuple #[En.zero.v, .bool false, .int .i64 42]) ∧ Below w.heap.size w w' := by
  have hb0 : Below w.heap.size w ((w.alloc (.cells #[.int .i64 en.seg, .int .i64 en.at_, .int .i64 en.size, .int .i64 en.off, .int .i64 en.time, .bool en.tomb] 38)).alloc (.cells #[.int .i64 0, .int .i64 0, .int .i64 0, .int .i64 0, .int .i64 0, .bool false] 38)) := ((Below.refl _ _).alloc (Nat.le_refl _) _).alloc (by simp) _
  have hX1 := Box.new (w.alloc (.cells #[.int .i64 en.seg, .int .i64 en.at_, .int .i64 en.size, .int .i64 en.off, .int .i64 en.time, .bool en.tomb] 38)) 38 #[.int .i64 0, .int .i64 0, .int .i64 0, .int .i64 0, .int .i64 0, .bool false]
  rw [World.size_alloc] at hX1
  have hc := hX1.cell
  have hf := hX1.free
  have HB := Lib.hid hb0
  clear hb0 hX1
  go_enter Try.func11, Try.ntmps11
  go_wp2_with (first
    | (go_at_call 40
       refine (refused_key d key _ h hm).mono ?_
       rintro e w' ⟨rfl, rfl⟩))
  refine bodyPost_ret (v := .tuple #[En.zero.v, .bool false, .int .i64 42]) ?_ rfl ?_
  · simp [results, Try.results11, go_sem, hc, En.zero]
  refine ⟨rfl, ?_⟩
  repeat (first | with_reducible exact HB.out | refine Below.setCell ?_ (by simp) _)

end Go.Proofs.Ytglmhpmjebjcgaa
namespace Go.Proofs.Ytglmhpmjebjcgaa
open Go.RowKit Go.Maps

theorem box6 {W : World} {mb : Nat} {t : TypeId} {a0 a1 a2 a3 a4 a5 : Value} (h : Box W mb t #[a0, a1, a2, a3, a4, a5]) (b0 b1 b2 b3 b4 b5 : Value) :
    Box ((((((W.setCell ⟨mb, 0, none⟩ b0).setCell ⟨mb, 1, none⟩ b1).setCell ⟨mb, 2, none⟩ b2).setCell ⟨mb, 3, none⟩ b3).setCell ⟨mb, 4, none⟩ b4).setCell ⟨mb, 5, none⟩ b5) mb t #[b0, b1, b2, b3, b4, b5] := by
  simpa using (((((h.set_ 0 b0).set_ 1 b1).set_ 2 b2).set_ 3 b3).set_ 4 b4).set_ 5 b5

set_option maxRecDepth 100000 in
set_option maxHeartbeats 8000000 in
theorem rem_yes (d : Nat) (key : ByteArray) (xs : List KE) (w : World) (h : DR w d xs) (hz : key.size ≤ maxLen) (hc : xs.length ≤ 800000000000000) (o : En) (hg : getL key xs = some o) :
    Calls Try.prog 19 #[.pointer (some ⟨d, 0, none⟩), .string key] w fun e w' => e = .returned (.tuple #[o.v, .bool true]) ∧ DR w' d (delL key xs) ∧ Dch d w w' := by
  obtain ⟨t, p, h1, h2, rfl, h4, h5⟩ := h
  have hb0 : Below w.heap.size w (w.alloc (.cells #[.int .i64 0, .int .i64 0, .int .i64 0, .int .i64 0, .int .i64 0, .bool false] 38)) := (Below.refl _ _).alloc (Nat.le_refl _) _
  have hX0 := Box.new w 38 #[.int .i64 0, .int .i64 0, .int .i64 0, .int .i64 0, .int .i64 0, .bool false]
  have hdl := h1.lt
  have H := Lib.hid (And.intro hb0 (And.intro hX0 (And.intro (h1.below hb0 hdl) (And.intro (h2.below hb0) (And.intro h4 h5)))))
  have HG := Lib.hid (show entV (getL key t.flat) = .tuple #[o.v, .bool true] by rw [hg]; rfl)
  have HN := Lib.hid (show getL key t.flat ≠ none by rw [hg]; simp)
  have hkz : key.size ≤ 64 := Classical.byContradiction fun hn => by rw [getL_long h5 hn] at hg; cases hg
  have hcn : t.cnt ≤ 800000000000000 := hc
  clear hc hg
  clear h1 h2 h4 h5 hb0 hX0
  go_enter Try.func19, Try.ntmps19
  go_wp2_with (first
    | (go_at_call 17
       refine (get_any d key t.flat _ ⟨t, p, H.out.2.2.1, H.out.2.2.2.1, rfl, H.out.2.2.2.2.1, H.out.2.2.2.2.2⟩ hz).mono ?_
       rintro e w1 ⟨rfl, hb1⟩
       rw [HG.out]
       have hq1 := H.out.2.1.below hb1 H.out.2.1.lt
       have hq3 := H.out.2.2.1.below hb1 H.out.2.2.1.lt
       have hc1 := hq1.cell
       have hf1 := hq1.free
       have hl1 := hq1.lt
       have hc3 := hq3.cell
       have hf3 := hq3.free
       have hl3 := hq3.lt
       have H1 := Lib.hid (And.intro (H.out.1.trans (hb1.mono H.out.1.size)) (And.intro hq1 (And.intro hq3 (H.out.2.2.2.1.below hb1))))
       clear hb1 hq1 hq3)
    | (go_at_call 45
       (with_reducible refine (without_any t p key _ ?_ ?_ ?_ ?_ ?_ ?_).mono ?_)
       · exact H1.out.2.2.2.below (bal w1 _)
       · exact H.out.2.2.2.2.1
       · exact H.out.2.2.2.2.2
       · exact hkz
       · exact HN.out
       · exact hcn
       rintro e w2 ⟨t2, p2, rfl, f2, g2, b2⟩
       have b12 : Below w1.heap.size w1 w2 := (bal w1 (.cells #[.int .i64 o.seg, .int .i64 o.at_, .int .i64 o.size, .int .i64 o.off, .int .i64 o.time, .bool o.tomb] 38)).trans (b2.mono (by simp))
       have hq1 := H1.out.2.1.below b12 hl1
       have hq3 := H1.out.2.2.1.below b12 hl3
       have hq4 := (Box.new w1 38 #[.int .i64 o.seg, .int .i64 o.at_, .int .i64 o.size, .int .i64 o.off, .int .i64 o.time, .bool o.tomb]).below b2 (by simp)
       have hc11 := hq1.cell
       have hf11 := hq1.free
       have hc33 := hq3.cell
       have hf33 := hq3.free
       have hc44 := hq4.cell
       have hl33 := hq3.lt
       have hl11 := hq1.lt
       have hl44 := hq4.lt
       have H2 := Lib.hid (And.intro f2 (And.intro g2 (And.intro (H1.out.1.trans (b12.mono H1.out.1.size)) (And.intro hq1 hq3))))
       clear f2 g2 b2 b12 hq1 hq3 hq4))
  refine bodyPost_ret (v := .tuple #[o.v, .bool true]) ?_ rfl ?_
  · simp [results, Try.results19, go_sem, hc11]
  refine ⟨rfl, DR.upd (r := w.heap.size) H2.out.2.2.2.2 H2.out.2.1 H2.out.1 (H.out.2.2.2.2.1.del _) (H.out.2.2.2.2.2.del) H2.out.2.2.2.1 (by decide) (by omega) ?_, ?_⟩
  · repeat (first | with_reducible exact Chg.refl _ _ | refine Chg.setCell ?_ (by exact .inl rfl) _)
  · repeat (first | with_reducible exact Chg.of_below H2.out.2.2.1 _ | refine Chg.setCell ?_ (by first | exact .inl rfl | exact .inr (by simp)) _)

set_option maxRecDepth 100000 in
set_option maxHeartbeats 8000000 in
theorem rem_no (d : Nat) (key : ByteArray) (xs : List KE) (w : World) (h : DR w d xs) (hz : key.size ≤ maxLen) (hg : getL key xs = none) :
    Calls Try.prog 19 #[.pointer (some ⟨d, 0, none⟩), .string key] w fun e w' => e = .returned (.tuple #[En.zero.v, .bool false]) ∧ Below w.heap.size w w' := by
  obtain ⟨t, p, h1, h2, rfl, h4, h5⟩ := h
  have hb0 : Below w.heap.size w (w.alloc (.cells #[.int .i64 0, .int .i64 0, .int .i64 0, .int .i64 0, .int .i64 0, .bool false] 38)) := (Below.refl _ _).alloc (Nat.le_refl _) _
  have hX0 := Box.new w 38 #[.int .i64 0, .int .i64 0, .int .i64 0, .int .i64 0, .int .i64 0, .bool false]
  have hdl := h1.lt
  have H := Lib.hid (And.intro hb0 (And.intro hX0 (And.intro (h1.below hb0 hdl) (And.intro (h2.below hb0) (And.intro h4 h5)))))
  have HG := Lib.hid (show entV (getL key t.flat) = .tuple #[En.zero.v, .bool false] by rw [hg]; rfl)
  clear hg
  generalize En.zero = o at HG ⊢
  clear h1 h2 h4 h5 hb0 hX0
  go_enter Try.func19, Try.ntmps19
  go_wp2_with (first
    | (go_at_call 17
       refine (get_any d key t.flat _ ⟨t, p, H.out.2.2.1, H.out.2.2.2.1, rfl, H.out.2.2.2.2.1, H.out.2.2.2.2.2⟩ hz).mono ?_
       rintro e w1 ⟨rfl, hb1⟩
       rw [HG.out]
       have hq1 := H.out.2.1.below hb1 H.out.2.1.lt
       have hq3 := H.out.2.2.1.below hb1 H.out.2.2.1.lt
       have hc1 := hq1.cell
       have hf1 := hq1.free
       have hl1 := hq1.lt
       have hc3 := hq3.cell
       have hf3 := hq3.free
       have hl3 := hq3.lt
       have H1 := Lib.hid (And.intro (H.out.1.trans (hb1.mono H.out.1.size)) (And.intro hq1 (And.intro hq3 (H.out.2.2.2.1.below hb1))))
       clear hb1 hq1 hq3))
  have hbx := (box6 H1.out.2.1 (.int .i64 o.seg) (.int .i64 o.at_) (.int .i64 o.size) (.int .i64 o.off) (.int .i64 o.time) (.bool o.tomb)).alloc (.cells #[.int .i64 o.seg, .int .i64 o.at_, .int .i64 o.size, .int .i64 o.off, .int .i64 o.time, .bool o.tomb] 38)
  have hbl : Below w.heap.size w (((((((w1.setCell ⟨w.heap.size, 0, none⟩ (.int .i64 o.seg)).setCell ⟨w.heap.size, 1, none⟩ (.int .i64 o.at_)).setCell ⟨w.heap.size, 2, none⟩ (.int .i64 o.size)).setCell ⟨w.heap.size, 3, none⟩ (.int .i64 o.off)).setCell ⟨w.heap.size, 4, none⟩ (.int .i64 o.time)).setCell ⟨w.heap.size, 5, none⟩ (.bool o.tomb)).alloc (.cells #[.int .i64 o.seg, .int .i64 o.at_, .int .i64 o.size, .int .i64 o.off, .int .i64 o.time, .bool o.tomb] 38)) :=
    ((((((H1.out.1.setCell (p := ⟨w.heap.size, 0, none⟩) (Nat.le_refl _) _).setCell (p := ⟨w.heap.size, 1, none⟩) (Nat.le_refl _) _).setCell (p := ⟨w.heap.size, 2, none⟩) (Nat.le_refl _) _).setCell (p := ⟨w.heap.size, 3, none⟩) (Nat.le_refl _) _).setCell (p := ⟨w.heap.size, 4, none⟩) (Nat.le_refl _) _).setCell (p := ⟨w.heap.size, 5, none⟩) (Nat.le_refl _) _).alloc (by simp; omega) _
  generalize hWx : ((((((w1.setCell ⟨w.heap.size, 0, none⟩ (.int .i64 o.seg)).setCell ⟨w.heap.size, 1, none⟩ (.int .i64 o.at_)).setCell ⟨w.heap.size, 2, none⟩ (.int .i64 o.size)).setCell ⟨w.heap.size, 3, none⟩ (.int .i64 o.off)).setCell ⟨w.heap.size, 4, none⟩ (.int .i64 o.time)).setCell ⟨w.heap.size, 5, none⟩ (.bool o.tomb)).alloc (.cells #[.int .i64 o.seg, .int .i64 o.at_, .int .i64 o.size, .int .i64 o.off, .int .i64 o.time, .bool o.tomb] 38) = Wx at hbx hbl ⊢
  have hbc := hbx.cell
  clear hWx hbx hc1 hf1 hc3 hf3
  refine bodyPost_ret (v := .tuple #[o.v, .bool false]) ?_ rfl ⟨rfl, hbl⟩
  simp [results, Try.results19, go_sem, hbc]

set_option maxRecDepth 100000 in
theorem new_any (w : World) : Calls Try.prog 4 #[] w fun e w' => e = .returned (.pointer (some ⟨w.heap.size, 0, none⟩)) ∧ DR w' w.heap.size [] ∧ Below w.heap.size w w' := by
  have hX := Box.new w 28 #[.pointer none]
  have hd : DR (w.alloc (.cells #[.pointer none] 28)) w.heap.size [] := ⟨.leaf, none, hX, rfl, rfl, List.Pairwise.nil, fun x h => by cases h⟩
  have HD := Lib.hid hd
  clear hX hd
  go_enter Try.func4, Try.ntmps4
  go_wp2
  go_ret
  exact ⟨rfl, HD.out, bal _ _⟩
set_option maxRecDepth 100000 in
theorem len_any (d : Nat) (xs : List KE) (w : World) (h : DR w d xs) : Calls Try.prog 23 #[.pointer (some ⟨d, 0, none⟩)] w fun e w' => e = .returned (.int .i64 xs.length) ∧ w = w' := by
  obtain ⟨t, p, h1, h2, rfl, h4, h5⟩ := h
  have H := Lib.hid (And.intro h1 h2)
  clear h1 h2 h4 h5
  go_enter Try.func23, Try.ntmps23
  go_wp2_with (first
    | (go_at_call 44
       refine (top_any d p _ H.out.1).mono ?_
       rintro e w' ⟨rfl, rfl⟩)
    | (go_at_call 47
       refine (count_any t p _ _ H.out.2).mono ?_
       rintro e w' ⟨rfl, rfl⟩))
  go_ret
  exact ⟨rfl, rfl⟩
set_option maxRecDepth 100000 in
theorem freeze_any (d : Nat) (xs : List KE) (w : World) (h : DR w d xs) : Calls Try.prog 35 #[.pointer (some ⟨d, 0, none⟩)] w fun e w' => e = .returned (.pointer (some ⟨w.heap.size, 0, none⟩)) ∧ DR w' w.heap.size xs ∧ Below w.heap.size w w' := by
  obtain ⟨t, p, h1, h2, rfl, h4, h5⟩ := h
  have hX := Box.new w 28 #[.pointer p]
  have hd : DR (w.alloc (.cells #[.pointer p] 28)) w.heap.size t.flat := ⟨t, p, hX, h2.below (bal _ _), rfl, h4, h5⟩
  have HD := Lib.hid hd
  have hc : w.cell? ⟨d, 0, none⟩ = some (.pointer p) := h1.cell 0
  clear hX hd h1 h2 h4 h5
  go_enter Try.func35, Try.ntmps35
  go_wp2
  go_ret
  exact ⟨rfl, HD.out, bal _ _⟩
/-- Range of a dir. -/
theorem range_dir (d : Nat) (xs : List KE) (lo hi : ByteArray) (lim : Int) (w : World) (h : DR w d xs) (hlo : lo.size ≤ maxLen) (hhi : hi.size ≤ maxLen) (hN : xs.length ≤ 2199023255488) (hl1 : 1 ≤ lim) (hl2 : lim ≤ 9223372036854775807) :
    Calls Try.prog 27 #[.pointer (some ⟨d, 0, none⟩), .string lo, .string hi, .int .i64 lim] w (RV ((sel lo hi xs).take lim.toNat) w) := by
  obtain ⟨t, p, h1, h2, rfl, h4, h5⟩ := h
  exact range_any _ p t lo hi lim w hlo hhi h4 h5 h2 (.inr ⟨d, rfl, h1⟩) hN hl1 hl2
end Go.Proofs.Ytglmhpmjebjcgaa
/- A dir without keys, there or not: what it answers. -/
namespace Go.Proofs.Ytglmhpmjebjcgaa
open Go.RowKit Go.Maps

theorem flat0 : Tn.leaf.flat = [] := rfl
theorem sorted0 : Sorted [] := List.Pairwise.nil
theorem keys0 : KeysOk [] := fun x hx => by cases hx
theorem tr0 (w : World) : Tr w w.heap.size .leaf none := rfl

set_option maxRecDepth 100000 in
set_option maxHeartbeats 4000000 in
theorem get_dt (dp : Option Addr) (key : ByteArray) (w : World) (h : DTop w dp none) (hz : key.size ≤ maxLen) :
    Calls Try.prog 17 #[.pointer dp, .string key] w fun e w' => e = .returned (.tuple #[En.zero.v, .bool false]) ∧ Below w.heap.size w w' := by
  have hb0 : Below w.heap.size w (w.alloc (.cells #[.int .i64 0, .int .i64 0, .int .i64 0, .int .i64 0, .int .i64 0, .bool false] 38)) := (Below.refl _ _).alloc (Nat.le_refl _) _
  have HX := Lib.hid (Box.new w 38 #[.int .i64 0, .int .i64 0, .int .i64 0, .int .i64 0, .int .i64 0, .bool false])
  have HB := Lib.hid hb0
  have H := Lib.hid (h.below hb0)
  clear h hb0
  go_enter Try.func17, Try.ntmps17
  go_wp2_with (first
    | (go_at_call 44; refine (top_dt H.out).mono ?_; rintro e w' ⟨rfl, rfl⟩)
    | (go_at_call 43; refine (find_any .leaf none key _ (tr0 _) sorted0 keys0 hz).mono ?_; rintro e w1 ⟨hf, nq, rfl⟩; obtain rfl := hf.none_ rfl; clear hf; generalize hW1 : World.drewN _ _ = W1; have hb1 : Below w.heap.size w W1 := (by rw [← hW1]; exact below_drewN HB.out _); have hX1 : Box W1 w.heap.size 38 #[.int .i64 0, .int .i64 0, .int .i64 0, .int .i64 0, .int .i64 0, .bool false] := (by rw [← hW1]; exact HX.out); have hxc := hX1.cell; have hxf := hX1.free; have HB1 := Lib.hid hb1; clear hb1 hX1 hW1))
  refine bodyPost_ret (v := .tuple #[En.zero.v, .bool false]) ?_ rfl ?_
  · simp [results, Try.results17, go_sem, hxc, En.zero]
  refine ⟨rfl, ?_⟩
  repeat (first | with_reducible exact HB1.out | refine Below.setCell ?_ (by simp) _)

set_option maxRecDepth 100000 in
set_option maxHeartbeats 4000000 in
theorem rem_dt (dp : Option Addr) (key : ByteArray) (w : World) (h : DTop w dp none) (hz : key.size ≤ maxLen) :
    Calls Try.prog 19 #[.pointer dp, .string key] w fun e w' => e = .returned (.tuple #[En.zero.v, .bool false]) ∧ Below w.heap.size w w' := by
  have hb0 : Below w.heap.size w (w.alloc (.cells #[.int .i64 0, .int .i64 0, .int .i64 0, .int .i64 0, .int .i64 0, .bool false] 38)) := (Below.refl _ _).alloc (Nat.le_refl _) _
  have hX0 := Box.new w 38 #[.int .i64 0, .int .i64 0, .int .i64 0, .int .i64 0, .int .i64 0, .bool false]
  have H := Lib.hid (And.intro hb0 (And.intro hX0 (h.below hb0)))
  clear h hb0 hX0
  generalize hoz : En.zero = o
  have HOZ := Lib.hid hoz
  clear hoz
  go_enter Try.func19, Try.ntmps19
  go_wp2_with (first
    | (go_at_call 17
       refine (get_dt dp key _ H.out.2.2 hz).mono ?_
       rintro e w1 ⟨rfl, hb1⟩
       rw [HOZ.out]
       have hq1 := H.out.2.1.below hb1 H.out.2.1.lt
       have hc1 := hq1.cell
       have hf1 := hq1.free
       have hl1 := hq1.lt
       have H1 := Lib.hid (And.intro (H.out.1.trans (hb1.mono H.out.1.size)) hq1)
       clear hb1 hq1))
  have hbx := (box6 H1.out.2 (.int .i64 o.seg) (.int .i64 o.at_) (.int .i64 o.size) (.int .i64 o.off) (.int .i64 o.time) (.bool o.tomb)).alloc (.cells #[.int .i64 o.seg, .int .i64 o.at_, .int .i64 o.size, .int .i64 o.off, .int .i64 o.time, .bool o.tomb] 38)
  have hbl : Below w.heap.size w (((((((w1.setCell ⟨w.heap.size, 0, none⟩ (.int .i64 o.seg)).setCell ⟨w.heap.size, 1, none⟩ (.int .i64 o.at_)).setCell ⟨w.heap.size, 2, none⟩ (.int .i64 o.size)).setCell ⟨w.heap.size, 3, none⟩ (.int .i64 o.off)).setCell ⟨w.heap.size, 4, none⟩ (.int .i64 o.time)).setCell ⟨w.heap.size, 5, none⟩ (.bool o.tomb)).alloc (.cells #[.int .i64 o.seg, .int .i64 o.at_, .int .i64 o.size, .int .i64 o.off, .int .i64 o.time, .bool o.tomb] 38)) :=
    ((((((H1.out.1.setCell (p := ⟨w.heap.size, 0, none⟩) (Nat.le_refl _) _).setCell (p := ⟨w.heap.size, 1, none⟩) (Nat.le_refl _) _).setCell (p := ⟨w.heap.size, 2, none⟩) (Nat.le_refl _) _).setCell (p := ⟨w.heap.size, 3, none⟩) (Nat.le_refl _) _).setCell (p := ⟨w.heap.size, 4, none⟩) (Nat.le_refl _) _).setCell (p := ⟨w.heap.size, 5, none⟩) (Nat.le_refl _) _).alloc (by simp; omega) _
  generalize hWx : ((((((w1.setCell ⟨w.heap.size, 0, none⟩ (.int .i64 o.seg)).setCell ⟨w.heap.size, 1, none⟩ (.int .i64 o.at_)).setCell ⟨w.heap.size, 2, none⟩ (.int .i64 o.size)).setCell ⟨w.heap.size, 3, none⟩ (.int .i64 o.off)).setCell ⟨w.heap.size, 4, none⟩ (.int .i64 o.time)).setCell ⟨w.heap.size, 5, none⟩ (.bool o.tomb)).alloc (.cells #[.int .i64 o.seg, .int .i64 o.at_, .int .i64 o.size, .int .i64 o.off, .int .i64 o.time, .bool o.tomb] 38) = Wx at hbx hbl ⊢
  have hbc := hbx.cell
  clear hWx hbx hc1 hf1
  refine bodyPost_ret (v := .tuple #[o.v, .bool false]) ?_ rfl ⟨rfl, hbl⟩
  simp [results, Try.results19, go_sem, hbc]

set_option maxRecDepth 100000 in
set_option maxHeartbeats 4000000 in
theorem point_dt (dp : Option Addr) (key : ByteArray) (off seg at_ : Int) (w : World) (h : DTop w dp none) (hz : key.size ≤ maxLen) :
    Calls Try.prog 15 #[.pointer dp, .string key, .int .i64 off, .int .i64 seg, .int .i64 at_] w fun e w' => e = .returned (.bool false) ∧ Below w.heap.size w w' := by
  have H := Lib.hid h
  clear h
  go_enter Try.func15, Try.ntmps15
  go_wp2_with (first
    | (go_at_call 17
       refine (get_dt dp key _ H.out hz).mono ?_
       rintro e w1 ⟨rfl, hb1⟩
       have H1 := Lib.hid hb1
       clear hb1))
  go_ret
  exact ⟨rfl, H1.out.alloc H1.out.size _⟩

set_option maxRecDepth 100000 in
theorem count0 (w : World) : Calls Try.prog 47 #[.pointer none] w fun e w' => e = .returned (.int .i64 0) ∧ w = w' := by
  go_enter Try.func47, Try.ntmps47
  go_wp2
  go_ret
  exact ⟨rfl, rfl⟩
set_option maxRecDepth 100000 in
set_option maxHeartbeats 4000000 in
theorem len_dt (dp : Option Addr) (w : World) (h : DTop w dp none) :
    Calls Try.prog 23 #[.pointer dp] w fun e w' => e = .returned (.int .i64 0) ∧ w = w' := by
  go_enter Try.func23, Try.ntmps23
  go_wp2_with (first
    | (go_at_call 44; refine (top_dt h).mono ?_; rintro e w' ⟨rfl, rfl⟩)
    | (go_at_call 47; refine (count0 _).mono ?_; rintro e w' ⟨rfl, rfl⟩))
  go_ret
  exact ⟨rfl, rfl⟩
set_option maxRecDepth 100000 in
set_option maxHeartbeats 4000000 in
theorem rank_dt (dp : Option Addr) (key : ByteArray) (w : World) (h : DTop w dp none) :
    Calls Try.prog 21 #[.pointer dp, .string key] w fun e w' => e = .returned (.int .i64 0) ∧ w = w' := by
  go_enter Try.func21, Try.ntmps21
  go_wp2_with (first
    | (go_at_call 44; refine (top_dt h).mono ?_; rintro e w' ⟨rfl, rfl⟩))
  go_loopw [5, 6] (fun s v wr => s = .int .i64 0 ∧ v = .pointer none ∧ wr = w') (fun _ _ _ => 0)
  case atStart => exact ⟨rfl, rfl, rfl⟩
  case round =>
    obtain ⟨rfl, rfl, rfl⟩ := hrel
    go_wp2
    go_ret
    exact ⟨rfl, rfl⟩
set_option maxRecDepth 100000 in
set_option maxHeartbeats 4000000 in
theorem nth_dt (dp : Option Addr) (at_ : Int) (w : World) (h : DTop w dp none) (h0 : 0 ≤ at_) :
    Calls Try.prog 25 #[.pointer dp, .int .i64 at_] w fun e w' => e = .returned (.tuple #[.agg #[.string ⟨#[]⟩, .int .i64 0, .int .i64 0, .int .i64 0, .int .i64 0, .int .i64 0, .bool false], .bool false]) ∧ Below w.heap.size w w' := by
  have hb0 : Below w.heap.size w (w.alloc (.cells #[.string ⟨#[]⟩, .int .i64 0, .int .i64 0, .int .i64 0, .int .i64 0, .int .i64 0, .bool false] 58)) := (Below.refl _ _).alloc (Nat.le_refl _) _
  have hX0 := Box.new w 58 #[.string ⟨#[]⟩, .int .i64 0, .int .i64 0, .int .i64 0, .int .i64 0, .int .i64 0, .bool false]
  have H := Lib.hid (And.intro hb0 (And.intro hX0 (h.below hb0)))
  clear h hb0 hX0
  go_enter Try.func25, Try.ntmps25
  go_wp2_with (first
    | (go_at_call 44; refine (top_dt H.out.2.2).mono ?_; rintro e w' ⟨rfl, rfl⟩))
  go_loopw [6] (fun v wr => v = .pointer none ∧ Below w.heap.size w wr ∧ Box wr w.heap.size 58 #[.string ⟨#[]⟩, .int .i64 0, .int .i64 0, .int .i64 0, .int .i64 0, .int .i64 0, .bool false]) (fun _ _ => 0)
  case atStart => exact ⟨rfl, H.out.1, H.out.2.1⟩
  case round =>
    obtain ⟨rfl, hb, hx⟩ := hrel
    have hxc := hx.cell
    have hxf := hx.free
    have hxl := hx.lt
    have H1 := Lib.hid hb
    clear hb hx H
    go_wp2
    refine bodyPost_ret (v := .tuple #[.agg #[.string ⟨#[]⟩, .int .i64 0, .int .i64 0, .int .i64 0, .int .i64 0, .int .i64 0, .bool false], .bool false]) ?_ rfl ?_
    · simp [results, Try.results25, go_sem, hxc]
    refine ⟨rfl, ?_⟩
    repeat (first | with_reducible exact H1.out | refine Below.setCell ?_ (by simp) _)
theorem row_rd0 {w : World} {B : Nat} {e : TypeId} {size n : Nat} {v : Value} {xs : List Value} (h : w.ownsRow B e size v n xs) : ∃ (A : Option Addr) (c : Nat), v = .slice A n c ∧ True := by
  rcases h.2 with ⟨rfl, e⟩ | ⟨g, cap, _, rfl, _⟩
  · exact ⟨none, 0, by rw [e], trivial⟩
  · exact ⟨_, _, rfl, trivial⟩
theorem range_dt (dp : Option Addr) (w : World) (h : DTop w dp none) :
    Calls Try.prog 27 #[.pointer dp, .string ⟨#[]⟩, .string ⟨#[]⟩, .int .i64 9] w fun e w' => (∃ A c, e = .returned (.slice A 0 c)) ∧ Below w.heap.size w w' :=
  (range_any dp none .leaf ⟨#[]⟩ ⟨#[]⟩ 9 w (Nat.zero_le _) (Nat.zero_le _) sorted0 keys0 (tr0 _) h (Nat.zero_le _) (by omega) (by omega)).mono fun e w' ⟨v, h1, h2, h3⟩ => by
    obtain ⟨A, c, rfl, _⟩ := row_rd0 h2
    exact ⟨⟨A, c, h1⟩, h3⟩
end Go.Proofs.Ytglmhpmjebjcgaa
/- 'nothing': what a dir without keys answers, there or not. -/
namespace Go.Proofs.Ytglmhpmjebjcgaa
open Go.RowKit Go.Maps Go.Shelf
attribute [local go_sem] Oper.semAt_some

theorem fn_eqIn (d : Nat) (f : Nat) (cs : Array Value) (W : World) : (Op.equalIn (d + 1) 83 (.func (.func f) #[] cs) .nilFunc).run Try.prog W = .ok false W := by
  simp only [Op.equalIn, Sem.run_bind, run_underlying Try.underlying83, Result.andThen]
  rfl
theorem fn_eq (f : Nat) (cs : Array Value) (W : World) : (binOp .eql 83 (.func (.func f) #[] cs) .nilFunc).run Try.prog W = .ok (.bool false) W := by
  have h : (Op.equal 83 (.func (.func f) #[] cs) .nilFunc).run Try.prog W = .ok false W := fn_eqIn 9999 f cs W
  simp [binOp, h, go_sem]

end Go.Proofs.Ytglmhpmjebjcgaa
